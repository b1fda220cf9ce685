/- plan: the tables at work. -/
import Derived.Test.YtoeophdffhmpmaaP1
set_option linter.unusedVariables false
set_option linter.unusedSimpArgs false
set_option maxRecDepth 100000
namespace Go.YtoeophdffhmpmaaE
open Go Go.RowKit

/-! ### Words -/
def off (h : Nat) : Nat := 2 ^ h - 1 + h
def row (R : Nat → List Int) (st h : Nat) : List Int := ((R st).drop (off h)).take (2 ^ h + 1)
/-- The cells of the tables at work. -/
def tbC (kind depth : Nat) (R : Nat → List Int) (states : Nat) : List A :=
  [.v (.int .u8 kind), .v (.int .i64 depth), .v (.int .i64 0), .v (.int .u64 0), .v (.int .u64 0), .v (.int .u64 0), .v (.int .i64 (strideN depth)), .ro (ints (R 0)), .ro (ints (R 1)), .ro (ints (R 2)), .ro (ints (R 3)), .v (.int .i64 states)]
def tb (kind depth : Nat) (R : Nat → List Int) (states : Nat) : A := .rp (tbC kind depth R states)
def moreZ (st : Nat) : Int := ([0, 1, 1, 2] : List Int).getD st 0
def belowN (kind depth st h : Nat) : Nat :=
  if kind = 2 then 1 else if (depth - h) % strideN depth = 0 then (if st = 0 then 1 else if st = 2 then 3 else st) else if st = 0 then 2 else st
theorem strideN_pos (d : Nat) : 1 ≤ strideN d := by unfold strideN; split <;> (try split) <;> omega
theorem ints_take (xs : List Int) (l n : Nat) : ((ints xs).drop l).take n = ints ((xs.drop l).take n) := by simp [ints]
theorem pow_le6 {h : Nat} (hh : h ≤ 6) : 1 ≤ 2 ^ h ∧ 2 ^ h ≤ 64 := by
  match h, hh with
  | 0, _ | 1, _ | 2, _ | 3, _ | 4, _ | 5, _ | 6, _ => decide
theorem off_le6 {h : Nat} (hh : h ≤ 6) : off h ≤ 69 := by
  match h, hh with
  | 0, _ | 1, _ | 2, _ | 3, _ | 4, _ | 5, _ | 6, _ => decide
theorem shl1 {h : Nat} (hh : h ≤ 6) : IntKind.i64.wrap (1 * 2 ^ min (h : Int).toNat IntKind.i64.bits) = ((2 ^ h : Nat) : Int) := by
  match h, hh with
  | 0, _ | 1, _ | 2, _ | 3, _ | 4, _ | 5, _ | 6, _ => decide
theorem row_length {R : Nat → List Int} {st h : Nat} (hl : off h + 2 ^ h + 1 ≤ (R st).length) : (row R st h).length = 2 ^ h + 1 := by
  simp only [row, List.length_take, List.length_drop]; omega
theorem intsAll {xs : List Int} {n : Nat} (hn : n = 1) : ∀ c ∈ ints xs, c.length = n := by
  intro c hc
  simp only [ints, List.mem_map] at hc
  obtain ⟨x, _, rfl⟩ := hc
  exact hn.symm

theorem width_pure (h : Nat) (hh : h ≤ 6) : Pure Go.Proofs.Try.prog 88 [.v (.int .i64 h)] ⟨.v (.int .i64 (2 ^ h + 1 : Nat)), []⟩ := by
  refine pure_sz pf eqOk_none (env_ok [] rfl) fun _ => ⟨20, ?_⟩
  match h, hh with
  | 0, _ | 1, _ | 2, _ | 3, _ | 4, _ | 5, _ | 6, _ =>
    conv => whnf
    refine ⟨by decide, ?_⟩
    conv => whnf
    left
    conv => whnf
    rfl

/-- The entries of a height. -/
theorem at_pure (kind depth states : Nat) (R : Nat → List Int) (st h : Nat) (hst : st < 4) (hh : h ≤ 6) (hl : off h + 2 ^ h + 1 ≤ (R st).length) :
    Pure Go.Proofs.Try.prog 48 [tb kind depth R states, .v (.int .i64 st), .v (.int .i64 h)] ⟨.ro (ints (row R st h)), []⟩ := by
  refine pure_sz pf eqOk_none (env_ok [88] rfl) fun _ => ⟨20, ?_⟩
  obtain ⟨hp1, hp2⟩ := pow_le6 hh
  conv => whnf
  refine ⟨by omega, ?_⟩
  conv => whnf
  rw [shl1 hh]
  refine ⟨_, width_pure h hh, ?_⟩
  conv => whnf
  have e1 : IntKind.i64.wrap (IntKind.i64.wrap (((2 ^ h : Nat) : Int) - 1) + h) = ((off h : Nat) : Int) := by
    rw [wrap64 (n := ((2 ^ h : Nat) : Int) - 1) (by omega) (by omega), wrap64 (by omega) (by omega)]
    unfold off; omega
  have e2 : IntKind.i64.wrap (((off h : Nat) : Int) + ((2 ^ h + 1 : Nat) : Int)) = ((off h + 2 ^ h + 1 : Nat) : Int) := by
    have := off_le6 hh
    rw [wrap64 (by omega) (by omega)]; omega
  have e3 : (((off h + 2 ^ h + 1 : Nat) : Int).toNat - ((off h : Nat) : Int).toNat) = 2 ^ h + 1 := by omega
  match st, hst with
  | 0, _ | 1, _ | 2, _ | 3, _ =>
    refine ⟨⟨by omega, by omega⟩, ?_⟩
    conv => whnf
    rw [e1, e2]
    refine Or.inr ⟨⟨by omega, by omega, Int.le_refl _, by rw [ints_length]; omega, intsAll rfl⟩, ?_⟩
    rw [ints_take, e3]
    conv => whnf
    left
    conv => whnf
    rfl
theorem morep_pure (t : A) (st : Nat) (hst : st < 4) : Pure Go.Proofs.Try.prog 87 [t, .v (.int .i64 st)] ⟨.v (.int .i64 (moreZ st)), []⟩ := by
  refine pure_sz pf eqOk_none (env_ok [] rfl) fun _ => ⟨20, ?_⟩
  match st, hst with
  | 0, _ | 1, _ | 2, _ | 3, _ =>
    conv => whnf
    left
    conv => whnf
    rfl
theorem tmod0 (a b : Nat) (hb : 1 ≤ b) : (((a : Int).tmod (b : Int)) == 0) = decide (a % b = 0) := by
  have h : (a : Int).tmod b = ((a % b : Nat) : Int) := by
    rw [Int.tmod_eq_emod_of_nonneg (by omega)]; exact (Int.natCast_emod a b).symm
  rw [h]
  by_cases h0 : a % b = 0
  · simp [h0]
  · simp only [h0, decide_false]
    simp only [beq_eq_false_iff_ne, ne_eq]; omega
theorem belowp_pure (kind depth states : Nat) (R : Nat → List Int) (st h : Nat) (hst : st < 4) (hh : h ≤ depth) (hd : depth ≤ 6) :
    Pure Go.Proofs.Try.prog 83 [tb kind depth R states, .v (.int .i64 st), .v (.int .i64 h)] ⟨.v (.int .i64 (belowN kind depth st h)), []⟩ := by
  refine pure_sz pf eqOk_none (env_ok [] rfl) fun _ => ⟨20, ?_⟩
  have e1 : IntKind.i64.wrap ((depth : Int) - (h : Int)) = ((depth - h : Nat) : Int) := by rw [wrap64 (by omega) (by omega)]; omega
  conv => whnf
  refine cndK_intro (fun h1 => ?_) (fun h1 => ?_)
  · conv => whnf
    left
    conv => whnf
    have : kind = 2 := by simp at h1; omega
    simp [belowN, this]
  · have hk : kind ≠ 2 := fun e => by subst e; simp at h1
    conv => whnf
    refine Or.inl ⟨14, by kernel_rfl, ?_⟩
    conv => whnf
    refine ⟨by have := strideN_pos depth; omega, ?_⟩
    conv => whnf
    rw [e1, tmod0 _ _ (strideN_pos depth)]
    match st, hst with
    | 0, _ | 1, _ | 2, _ | 3, _ =>
      conv => whnf
      repeat' (refine cndK_intro (fun h2 => ?_) (fun h2 => ?_) <;> conv => whnf)
      all_goals
        left
        conv => whnf
        simp_all [belowN]
def valZ (kind : Nat) (first low : List Int) (more : Int) (k a : Nat) : Int :=
  if kind = 1 then first.getD a 0 + first.getD (k - a) 0 else if 0 < a ∧ a < k then first.getD a 0 + first.getD (k - a) 0 + more else low.getD k 0
/-- Entries are small. -/
def SmallL (xs : List Int) : Prop := ∀ x ∈ xs, 0 ≤ x ∧ x ≤ 1073741824
theorem SmallL.get {xs : List Int} (h : SmallL xs) (i : Nat) (hi : i < xs.length) : 0 ≤ xs.getD i 0 ∧ xs.getD i 0 ≤ 1073741824 := by
  rw [List.getD_eq_getElem?_getD, List.getElem?_eq_getElem hi]; exact h _ (List.getElem_mem _)
theorem ints_getD (xs : List Int) (i : Nat) (h : i < xs.length) : (ints xs)[i]? = some [.v (.int .i64 (xs.getD i 0))] := by
  rw [ints_get xs i h, List.getD_eq_getElem?_getD, List.getElem?_eq_getElem h]; rfl
theorem moreZ_le (st : Nat) : 0 ≤ moreZ st ∧ moreZ st ≤ 2 := by
  unfold moreZ
  match st with
  | 0 | 1 | 2 | 3 => decide
  | n + 4 => simp
theorem belowN_lt (kind depth st h : Nat) (hst : st < 4) : belowN kind depth st h < 4 := by
  unfold belowN; repeat' split
  all_goals omega
theorem valuep_pure (kind depth states : Nat) (R : Nat → List Int) (st g k a : Nat) (hst : st < 4) (hh : g + 1 ≤ depth) (hd : depth ≤ 6) (h0 : off g + 2 ^ g + 1 ≤ (R 0).length) (hb : kind ≠ 1 → off g + 2 ^ g + 1 ≤ (R (belowN kind depth st (g + 1))).length)
    (ha : a ≤ k) (ha2 : a ≤ 2 ^ g) (hka : k - a ≤ 2 ^ g) (s0 : SmallL (row R 0 g)) :
    Pure Go.Proofs.Try.prog 110 [tb kind depth R states, .v (.int .i64 st), .v (.int .i64 (g + 1 : Nat)), .v (.int .i64 k), .v (.int .i64 a)]
      ⟨.v (.int .i64 (valZ kind (row R 0 g) (row R (belowN kind depth st (g + 1)) g) (moreZ st) k a)), []⟩ := by
  refine pure_sz pf eqOk_none (env_ok [48, 87, 83] rfl) fun _ => ⟨40, ?_⟩
  have eg : IntKind.i64.wrap (((g + 1 : Nat) : Int) - 1) = ((g : Nat) : Int) := by rw [wrap64 (by omega) (by omega)]; omega
  have hp := pow_le6 (show g ≤ 6 by omega)
  have l0 := row_length h0
  have ek : IntKind.i64.wrap ((k : Int) - (a : Int)) = ((k - a : Nat) : Int) := by rw [wrap64 (by omega) (by omega)]; omega
  conv => whnf
  rw [eg]
  refine ⟨_, at_pure kind depth states R 0 g (by omega) (by omega) h0, ?_⟩
  conv => whnf
  obtain ⟨b1, b2⟩ := s0.get a (by omega)
  obtain ⟨b3, b4⟩ := s0.get (k - a) (by omega)
  obtain ⟨b5, b6⟩ := moreZ_le st
  refine cndK_intro (fun h1 => ?_) (fun h1 => ?_)
  · have hk : kind = 1 := by simp at h1; omega
    conv => whnf
    refine Or.inl ⟨12, by kernel_rfl, ?_⟩
    conv => whnf
    refine ⟨⟨by omega, by rw [ints_length]; omega⟩, optK_intro _ (ints_getD _ _ (by simp; omega)) ?_⟩
    conv => whnf
    rw [ek]
    refine ⟨⟨by omega, by rw [ints_length]; omega⟩, optK_intro _ (ints_getD _ _ (by simp; omega)) ?_⟩
    conv => whnf
    left
    conv => whnf
    simp only [Int.toNat_natCast]
    rw [wrap64 (by omega) (by omega), valZ, if_pos hk]
  · have hk : kind ≠ 1 := fun e => by subst e; simp at h1
    have hb := hb hk
    have lb := row_length hb
    conv => whnf
    have mid : 0 < a ∧ a < k → valZ kind (row R 0 g) (row R (belowN kind depth st (g + 1)) g) (moreZ st) k a = (row R 0 g).getD a 0 + (row R 0 g).getD (k - a) 0 + moreZ st := fun h => by rw [valZ, if_neg hk, if_pos h]
    have low : ¬ (0 < a ∧ a < k) → valZ kind (row R 0 g) (row R (belowN kind depth st (g + 1)) g) (moreZ st) k a = (row R (belowN kind depth st (g + 1)) g).getD k 0 := fun h => by rw [valZ, if_neg hk, if_neg h]
    refine cndK_intro (fun h2 => ?_) (fun h2 => ?_)
    · rw [h2]
      conv => whnf
      refine cndK_intro (fun h3 => ?_) (fun h3 => ?_)
      · conv => whnf
        refine Or.inl ⟨16, by kernel_rfl, ?_⟩
        conv => whnf
        refine ⟨⟨by omega, by rw [ints_length]; omega⟩, optK_intro _ (ints_getD _ _ (by simp; omega)) ?_⟩
        conv => whnf
        rw [ek]
        refine ⟨⟨by omega, by rw [ints_length]; omega⟩, optK_intro _ (ints_getD _ _ (by simp; omega)) ?_⟩
        conv => whnf
        refine ⟨_, morep_pure _ st hst, ?_⟩
        conv => whnf
        left
        conv => whnf
        simp only [Int.toNat_natCast]
        rw [wrap64 (n := (row R 0 g).getD a 0 + (row R 0 g).getD (k - a) 0) (by omega) (by omega), wrap64 (by omega) (by omega), mid ⟨by simpa using h2, by simpa using h3⟩]
      · conv => whnf
        have hk2 : k ≤ 2 ^ g := by simp at h2 h3; omega
        refine ⟨_, belowp_pure kind depth states R st (g + 1) hst hh hd, ?_⟩
        conv => whnf
        rw [eg]
        refine ⟨_, at_pure kind depth states R (belowN kind depth st (g + 1)) g (belowN_lt _ _ _ _ hst) (by omega) hb, ?_⟩
        conv => whnf
        refine ⟨⟨by omega, by rw [ints_length]; omega⟩, optK_intro _ (ints_getD _ _ (by simp; omega)) ?_⟩
        conv => whnf
        left
        conv => whnf
        simp only [Int.toNat_natCast]
        rw [low (by simp at h2 h3; omega)]
    · rw [h2]
      conv => whnf
      have hk2 : k ≤ 2 ^ g := by simp at h2; omega
      refine ⟨_, belowp_pure kind depth states R st (g + 1) hst hh hd, ?_⟩
      conv => whnf
      rw [eg]
      refine ⟨_, at_pure kind depth states R (belowN kind depth st (g + 1)) g (belowN_lt _ _ _ _ hst) (by omega) hb, ?_⟩
      conv => whnf
      refine ⟨⟨by omega, by rw [ints_length]; omega⟩, optK_intro _ (ints_getD _ _ (by simp; omega)) ?_⟩
      conv => whnf
      left
      conv => whnf
      simp only [Int.toNat_natCast]
      rw [low (by simp at h2; omega)]
/-! ### plan: the greatest value -/
def rangesOf : Code → List (List Nat × Code × Code)
  | .seq a b => rangesOf a ++ rangesOf b
  | .cond _ a b => rangesOf a ++ rangesOf b
  | .block _ c => rangesOf c
  | .loop c => rangesOf c
  | .rangeFunc _ ps a b => (ps.toList, a, b) :: (rangesOf a ++ rangesOf b)
  | _ => []
/-- The round of the k-th loop over a function of a function. -/
def rdB (P : Program) (f k : Nat) (ts : List A) : Rd := match (((P.funcs[f]?).bind (·.body)).elim [] rangesOf)[k]? with
  | some (ps, a, b) => ⟨ps, a, b, ts⟩
  | none => ⟨[], .skip, .skip, ts⟩
/-- The first of the greatest values of n arguments from a on, with what came before. -/
def gr (f : Nat → Int) : Nat → Nat → Int → Nat → Bool → Int × Nat × Bool
  | 0, _, m, b, no => (m, b, no)
  | n + 1, a, m, b, no => if no = true ∨ f a > m then gr f n (a + 1) (f a) a false else gr f n (a + 1) m b no
def bestHp (kind depth states : Nat) (R : Nat → List Int) (st g k : Nat) (m : Int) (b : Nat) (no : Bool) : List Blk :=
  [.bx false [tb kind depth R states], .bx false [.v (.int .i64 st)], .bx false [.v (.int .i64 (g + 1 : Nat))], .bx false [.v (.int .i64 k)], .bx false [.v (.int .i64 (g + 1 : Nat))], .bx false [.v (.int .i64 k)],
    .bx false [.fn 109 [] [.pt 0 0 0 0 0, .pt 1 0 0 0 0, .pt 2 0 0 0 0, .pt 3 0 0 0 0]], .bx false [.v (.int .i64 m)], .bx false [.v (.int .i64 b)], .bx false [.v (.bool no)]]
noncomputable def bestTs : List A := mkT 24 [(0, .fn 131 [] [.pt 4 0 0 0 0, .pt 5 0 0 0 0]), (1, .fn 109 [] [.pt 0 0 0 0 0, .pt 1 0 0 0 0, .pt 2 0 0 0 0, .pt 3 0 0 0 0]),
  (3, .pt 6 0 0 0 0), (4, .pt 7 0 0 0 0), (5, .pt 8 0 0 0 0), (6, .pt 9 0 0 0 0), (9, .fn 131 [] [.pt 4 0 0 0 0, .pt 5 0 0 0 0])]
noncomputable def bestLp : List Lp := [.ready (rdB Go.Proofs.Try.prog 74 0 bestTs)]
theorem best_loop (E : EqT) (kind depth states : Nat) (R : Nat → List Int) (st g k : Nat) (hst : st < 4) (hh : g + 1 ≤ depth) (hd : depth ≤ 6) (h0 : off g + 2 ^ g + 1 ≤ (R 0).length) (hb : kind ≠ 1 → off g + 2 ^ g + 1 ≤ (R (belowN kind depth st (g + 1))).length)
    (s0 : SmallL (row R 0 g)) (K : K) :
    ∀ (d a n : Nat) (m : Int) (b : Nat) (no : Bool), a + d = min k (2 ^ g) + 1 → k - 2 ^ g ≤ a → d + 60 ≤ n →
      (∀ j, K (.exit 0) (mkJ 24 [] j) (match gr (valZ kind (row R 0 g) (row R (belowN kind depth st (g + 1)) g) (moreZ st) k) d a m b no with | (m, b, no) => bestHp kind depth states R st g k m b no) bestLp) →
      loopF (run Go.Proofs.Try.prog E (envL Go.Proofs.Try.prog [110]) n) 10 1 (loopB Go.Proofs.Try.prog 131 0)
        (mkT 24 [(0, .yl 0), (1, .pt 4 0 0 0 0), (2, .pt 5 0 0 0 0), (4, .v (.int .i64 (2 ^ g : Nat))), (5, .v (.int .i64 a))]) (bestHp kind depth states R st g k m b no) bestLp K := by
  intro d
  induction d with
  | zero =>
    intro a n m b no hi hlo hn hK
    obtain ⟨n, rfl⟩ : ∃ m, n = m + 60 := ⟨n - 60, by omega⟩
    conv => whnf
    refine cndK_intro (fun h => ?_) (fun h => ?_)
    · exfalso
      simp only [decide_eq_true_eq] at h
      split at h <;> omega
    · conv => whnf
      exact useJ hK rfl
  | succ d ih =>
    intro a n m b no hi hlo hn hK
    obtain ⟨n, rfl⟩ : ∃ m, n = m + 60 := ⟨n - 60, by omega⟩
    have ea : IntKind.i64.wrap ((a : Int) + 1) = ((a + 1 : Nat) : Int) := by rw [wrap64 (by omega) (by have := pow_le6 (show g ≤ 6 by omega); omega)]; omega
    conv => whnf
    refine cndK_intro (fun h => ?_) (fun h => ?_)
    · conv => whnf
      refine ⟨_, valuep_pure kind depth states R st g k a hst hh hd h0 hb (by omega) (by omega) (by omega) s0, ?_⟩
      conv => whnf
      cases no with
      | true =>
        conv => whnf
        rw [ea]
        refine gc_step ⟨[true, true, true, false, true, true], [], 1⟩ _ _ _ (fun k hk => hk) ?_
        exact ih (a + 1) (n + 59) _ a false (by omega) (by omega) (by omega) (fun j => by have := hK j; rw [gr, if_pos (.inl rfl)] at this; exact this)
      | false =>
        conv => whnf
        refine cndK_intro (fun h2 => ?_) (fun h2 => ?_)
        · have h2' : valZ kind (row R 0 g) (row R (belowN kind depth st (g + 1)) g) (moreZ st) k a > m := by simpa using h2
          conv => whnf
          rw [ea]
          refine gc_step ⟨[true, true, true, false, true, true], [], 1⟩ _ _ _ (fun k hk => hk) ?_
          exact ih (a + 1) (n + 59) _ a false (by omega) (by omega) (by omega) (fun j => by have := hK j; rw [gr, if_pos (.inr h2')] at this; exact this)
        · have h2' : ¬ valZ kind (row R 0 g) (row R (belowN kind depth st (g + 1)) g) (moreZ st) k a > m := by simpa using h2
          conv => whnf
          rw [ea]
          refine gc_step ⟨[true, true, true, false, true, true], [], 1⟩ _ _ _ (fun k hk => hk) ?_
          exact ih (a + 1) (n + 59) m b false (by omega) (by omega) (by omega) (fun j => by have := hK j; rw [gr, if_neg (by simpa using h2')] at this; exact this)
    · exfalso
      simp only [decide_eq_false_iff_not] at h
      split at h <;> omega
/-- The greatest value of an entry, and the least a that has it. -/
def bestZ (kind : Nat) (first low : List Int) (more : Int) (g k : Nat) : Int × Nat × Bool := gr (valZ kind first low more k) (min k (2 ^ g) + 1 - (k - 2 ^ g)) (k - 2 ^ g) 0 0 true
theorem bestp_pure (kind depth states : Nat) (R : Nat → List Int) (st g k : Nat) (hst : st < 4) (hh : g + 1 ≤ depth) (hd : depth ≤ 6) (h0 : off g + 2 ^ g + 1 ≤ (R 0).length) (hb : kind ≠ 1 → off g + 2 ^ g + 1 ≤ (R (belowN kind depth st (g + 1))).length)
    (s0 : SmallL (row R 0 g)) (hk : k ≤ 2 ^ (g + 1)) :
    Pure Go.Proofs.Try.prog 82 [tb kind depth R states, .v (.int .i64 st), .v (.int .i64 (g + 1 : Nat)), .v (.int .i64 k)]
      ⟨.tup [.v (.int .i64 (bestZ kind (row R 0 g) (row R (belowN kind depth st (g + 1)) g) (moreZ st) g k).1), .v (.int .i64 (bestZ kind (row R 0 g) (row R (belowN kind depth st (g + 1)) g) (moreZ st) g k).2.1)], []⟩ := by
  refine pure_sz pf eqOk_none (env_ok [110] rfl) fun _ => ⟨200, ?_⟩
  have eg : IntKind.i64.wrap (((g + 1 : Nat) : Int) - 1) = ((g : Nat) : Int) := by rw [wrap64 (by omega) (by omega)]; omega
  have hp := pow_le6 (show g ≤ 6 by omega)
  have hp2 : 2 ^ (g + 1) = 2 * 2 ^ g := by rw [Nat.pow_succ, Nat.mul_comm]
  have el : (if IntKind.i64.wrap ((k : Int) - ((2 ^ g : Nat) : Int)) > 0 then IntKind.i64.wrap ((k : Int) - ((2 ^ g : Nat) : Int)) else 0) = ((k - 2 ^ g : Nat) : Int) := by
    rw [wrap64 (by omega) (by omega)]
    split <;> omega
  conv => whnf
  rw [eg]
  refine ⟨by omega, ?_⟩
  conv => whnf
  rw [shl1 (show g ≤ 6 by omega), el]
  refine gc_step ⟨[true, true, true, false, true, true], [], 1⟩ _ _ _ (fun k hk => hk) ?_
  refine best_loop _ kind depth states R st g k hst hh hd h0 hb s0 _ (min k (2 ^ g) + 1 - (k - 2 ^ g)) (k - 2 ^ g) 187 0 0 true (by omega) (by omega) ?_ ?_
  · omega
  · intro j
    unfold bestZ
    generalize gr (valZ kind (row R 0 g) (row R (belowN kind depth st (g + 1)) g) (moreZ st) k) (min k (2 ^ g) + 1 - (k - 2 ^ g)) (k - 2 ^ g) 0 0 true = q
    obtain ⟨m, b, no⟩ := q
    conv => whnf
    refine Or.inr ?_
    conv => whnf
    refine ⟨[0, 1], by kernel_rfl, ?_⟩
    conv => whnf
    refine ⟨?_, ?_, trivial⟩
    · conv => whnf
      refine ⟨[1, 2], by kernel_rfl, ?_⟩
      conv => whnf
      refine ⟨?_, ?_, trivial⟩
      · conv => whnf
        refine ⟨[2], by kernel_rfl, ?_⟩
        conv => whnf
        refine ⟨?_, trivial⟩
        conv => whnf
        refine ⟨[3], by kernel_rfl, ?_⟩
        conv => whnf
        refine ⟨?_, trivial⟩
        conv => whnf
        refine ⟨by kernel_rfl, ?_⟩
        conv => whnf
        left
        conv => whnf
      · conv => whnf
        refine ⟨[1], by kernel_rfl, ?_⟩
        conv => whnf
        refine ⟨?_, trivial⟩
        conv => whnf
        refine ⟨[3], by kernel_rfl, ?_⟩
        conv => whnf
        refine ⟨?_, trivial⟩
        conv => whnf
        refine ⟨by kernel_rfl, ?_⟩
        conv => whnf
        left
        conv => whnf
    · conv => whnf
      refine ⟨[0], by kernel_rfl, ?_⟩
      conv => whnf
      refine ⟨?_, trivial⟩
      conv => whnf
      refine ⟨[2], by kernel_rfl, ?_⟩
      conv => whnf
      refine ⟨?_, trivial⟩
      conv => whnf
      refine ⟨[3], by kernel_rfl, ?_⟩
      conv => whnf
      refine ⟨?_, trivial⟩
      conv => whnf
      refine ⟨by kernel_rfl, ?_⟩
      conv => whnf
      left
      conv => whnf
/-! ### plan: the worst number -/
def countZ (R : Nat → List Int) (depth k : Nat) : Int := if k = 0 then 1 else (row R 0 depth).getD k 0
theorem countp_pure (kind depth states : Nat) (R : Nat → List Int) (k : Nat) (hd : depth ≤ 6) (h0 : off depth + 2 ^ depth + 1 ≤ (R 0).length) (hk : k ≤ 2 ^ depth) :
    Pure Go.Proofs.Try.prog 76 [tb kind depth R states, .v (.int .i64 k)] ⟨.v (.int .i64 (countZ R depth k)), []⟩ := by
  refine pure_sz pf eqOk_none (env_ok [48] rfl) fun _ => ⟨30, ?_⟩
  have l0 := row_length h0
  conv => whnf
  refine cndK_intro (fun h1 => ?_) (fun h1 => ?_)
  · conv => whnf
    left
    conv => whnf
    have : k = 0 := by simp at h1; omega
    simp [countZ, this]
  · conv => whnf
    refine ⟨_, at_pure kind depth states R 0 depth (by omega) hd h0, ?_⟩
    conv => whnf
    refine ⟨⟨by omega, by rw [ints_length]; omega⟩, optK_intro _ (ints_getD _ _ (by simp; omega)) ?_⟩
    conv => whnf
    left
    conv => whnf
    have : k ≠ 0 := by simp at h1; omega
    simp [countZ, this]
def worstHp (kind depth states : Nat) (R : Nat → List Int) (r : Nat) (m : Int) (b : Nat) (no : Bool) : List Blk :=
  [.bx false [.v (.int .i64 r)], .bx false [.fn 76 [tb kind depth R states] []], .bx false [.v (.int .i64 m)], .bx false [.v (.int .i64 b)], .bx false [.v (.bool no)]]
noncomputable def worstTs (kind depth states : Nat) (R : Nat → List Int) : List A := mkT 24 [(0, .fn 105 [] [.pt 0 0 0 0 0]), (1, .fn 76 [tb kind depth R states] []),
  (3, .pt 1 0 0 0 0), (4, .pt 2 0 0 0 0), (5, .pt 3 0 0 0 0), (6, .pt 4 0 0 0 0), (9, .fn 105 [] [.pt 0 0 0 0 0])]
noncomputable def worstLp (kind depth states : Nat) (R : Nat → List Int) : List Lp := [.ready (rdB Go.Proofs.Try.prog 74 0 (worstTs kind depth states R))]
theorem worst_loop (E : EqT) (kind depth states : Nat) (R : Nat → List Int) (r : Nat) (hd : depth ≤ 6) (h0 : off depth + 2 ^ depth + 1 ≤ (R 0).length) (hr : r ≤ 2 ^ depth) (K : K) :
    ∀ (d a n : Nat) (m : Int) (b : Nat) (no : Bool), a + d = r + 1 → d + 60 ≤ n →
      (∀ j, K (.exit 0) (mkJ 14 [] j) (match gr (countZ R depth) d a m b no with | (m, b, no) => worstHp kind depth states R r m b no) (worstLp kind depth states R)) →
      loopF (run Go.Proofs.Try.prog E (envL Go.Proofs.Try.prog [76]) n) 5 1 (loopB Go.Proofs.Try.prog 105 0)
        (mkT 14 [(0, .yl 0), (1, .pt 0 0 0 0 0), (3, .v (.int .i64 a))]) (worstHp kind depth states R r m b no) (worstLp kind depth states R) K := by
  intro d
  have hp := pow_le6 hd
  induction d with
  | zero =>
    intro a n m b no hi hn hK
    obtain ⟨n, rfl⟩ : ∃ m, n = m + 60 := ⟨n - 60, by omega⟩
    conv => whnf
    refine cndK_intro (fun h => ?_) (fun h => ?_)
    · exfalso
      simp only [decide_eq_true_eq] at h
      omega
    · rw [h]
      conv => whnf
      exact useJ hK rfl
  | succ d ih =>
    intro a n m b no hi hn hK
    obtain ⟨n, rfl⟩ : ∃ m, n = m + 60 := ⟨n - 60, by omega⟩
    have ea : IntKind.i64.wrap ((a : Int) + 1) = ((a + 1 : Nat) : Int) := by rw [wrap64 (by omega) (by omega)]; omega
    conv => whnf
    refine cndK_intro (fun h => ?_) (fun h => ?_)
    · rw [h]
      conv => whnf
      refine ⟨_, countp_pure kind depth states R a hd h0 (by omega), ?_⟩
      conv => whnf
      cases no with
      | true =>
        conv => whnf
        rw [ea]
        refine gc_step ⟨[true, true, false, true], [], 1⟩ _ _ _ (fun k hk => hk) ?_
        exact ih (a + 1) (n + 59) _ a false (by omega) (by omega) (fun j => by have := hK j; rw [gr, if_pos (.inl rfl)] at this; exact this)
      | false =>
        conv => whnf
        refine cndK_intro (fun h2 => ?_) (fun h2 => ?_)
        · have h2' : countZ R depth a > m := by simpa using h2
          conv => whnf
          rw [ea]
          refine gc_step ⟨[true, true, false, true], [], 1⟩ _ _ _ (fun k hk => hk) ?_
          exact ih (a + 1) (n + 59) _ a false (by omega) (by omega) (fun j => by have := hK j; rw [gr, if_pos (.inr h2')] at this; exact this)
        · have h2' : ¬ countZ R depth a > m := by simpa using h2
          conv => whnf
          rw [ea]
          refine gc_step ⟨[true, true, false, true], [], 1⟩ _ _ _ (fun k hk => hk) ?_
          exact ih (a + 1) (n + 59) m b false (by omega) (by omega) (fun j => by have := hK j; rw [gr, if_neg (by simpa using h2')] at this; exact this)
    · exfalso
      simp only [decide_eq_false_iff_not] at h
      omega
/-- The worst number of items, and the least k that has it. -/
def worstZ (R : Nat → List Int) (depth r : Nat) : Int × Nat × Bool := gr (countZ R depth) (r + 1) 0 0 0 true
theorem worstp_pure (kind depth states : Nat) (R : Nat → List Int) (r : Nat) (hd : depth ≤ 6) (h0 : off depth + 2 ^ depth + 1 ≤ (R 0).length) (hr : r ≤ 2 ^ depth) :
    Pure Go.Proofs.Try.prog 39 [tb kind depth R states, .v (.int .i64 r)] ⟨.tup [.v (.int .i64 (worstZ R depth r).1), .v (.int .i64 (worstZ R depth r).2.1)], []⟩ := by
  refine pure_sz pf eqOk_none (env_ok [76] rfl) fun _ => ⟨200, ?_⟩
  have hp := pow_le6 hd
  conv => whnf
  refine gc_step ⟨[true, true, false, true], [], 1⟩ _ _ _ (fun k hk => hk) ?_
  refine worst_loop _ kind depth states R r hd h0 hr _ (r + 1) 0 188 0 0 true (by omega) (by omega) ?_
  intro j
  unfold worstZ
  generalize gr (countZ R depth) (r + 1) 0 0 0 true = q
  obtain ⟨m, b, no⟩ := q
  conv => whnf
  refine Or.inr ?_
  conv => whnf
  refine ⟨[0, 1], by kernel_rfl, ?_⟩
  conv => whnf
  refine ⟨?_, ?_, trivial⟩
  · conv => whnf
    refine ⟨[1, 2], by kernel_rfl, ?_⟩
    conv => whnf
    refine ⟨?_, ?_, trivial⟩
    · conv => whnf
      refine ⟨[2], by kernel_rfl, ?_⟩
      conv => whnf
      refine ⟨?_, trivial⟩
      conv => whnf
      refine ⟨[3], by kernel_rfl, ?_⟩
      conv => whnf
      refine ⟨?_, trivial⟩
      conv => whnf
      refine ⟨by kernel_rfl, ?_⟩
      conv => whnf
      left
      conv => whnf
    · conv => whnf
      refine ⟨[1], by kernel_rfl, ?_⟩
      conv => whnf
      refine ⟨?_, trivial⟩
      conv => whnf
      refine ⟨[3], by kernel_rfl, ?_⟩
      conv => whnf
      refine ⟨?_, trivial⟩
      conv => whnf
      refine ⟨by kernel_rfl, ?_⟩
      conv => whnf
      left
      conv => whnf
  · conv => whnf
    refine ⟨[0], by kernel_rfl, ?_⟩
    conv => whnf
    refine ⟨?_, trivial⟩
    conv => whnf
    refine ⟨[2], by kernel_rfl, ?_⟩
    conv => whnf
    refine ⟨?_, trivial⟩
    conv => whnf
    refine ⟨[3], by kernel_rfl, ?_⟩
    conv => whnf
    refine ⟨?_, trivial⟩
    conv => whnf
    refine ⟨by kernel_rfl, ?_⟩
    conv => whnf
    left
    conv => whnf
end Go.YtoeophdffhmpmaaE
