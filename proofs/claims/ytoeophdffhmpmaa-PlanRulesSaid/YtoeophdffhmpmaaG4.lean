/- P1: The functions of the seat's program, one by one: what each comes to. P2: plan: the tables at work. P3: plan: newTables. P4: plan: newTables, all of it. P5: plan: newTables as a whole; what asks for it. P6: cover.Check; plan.asked, Worst. P7: plan.asked, Worst. P8: plan: list, Witness. P9: plan.list as a contract; plan.Witness. R1: headendref10: values, entries, counts, lists. R2: headendref10: best, count, greatest. R3: headendref10: listed. -/
import Derived.Test.YtoeophdffhmpmaaProg
import Derived.Test.YtoeophdffhmpmaaG3

section
set_option linter.unusedVariables false
set_option linter.unusedSimpArgs false
set_option maxRecDepth 100000
namespace Go.YtoeophdffhmpmaaE
open Go Go.RowKit

theorem pf : PF Go.Proofs.Try.prog where
  num := by
    have h : Go.Proofs.Try.prog.funcs.all (fun fn => !(fn.name == "runtime.NumGoroutine")) = true := by kernel_rfl
    intro f fn hf
    rw [Array.all_eq_true] at h
    obtain ⟨h1, h2⟩ := Array.getElem?_eq_some_iff.1 hf
    have := h f h1
    rw [h2] at this
    simpa using this
  mix := by kernel_rfl
theorem env_ok (L : List Nat) (hL : (L.all fun f => ((Go.Proofs.Try.prog.funcs[f]?).bind (·.body)).isSome) = true) : EnvOk Go.Proofs.Try.prog (envL Go.Proofs.Try.prog L) :=
  envL_ok pf (fun f hf => List.all_eq_true.1 hL f hf)

/-! ### headendref03.SameInts -/
theorem sameInts_loop (E : EqT) (env : Env) (xs ys : List Int) (hl : xs.length = ys.length) (hm : xs.length ≤ maxLen) (K : K) :
    ∀ (d i n : Nat), i + d = xs.length → d + 30 ≤ n → (∀ j, (hj : j < i) → (h1 : j < xs.length) → (h2 : j < ys.length) → xs[j] = ys[j]) →
      (xs ≠ ys → ∀ j, K .ret (mkJ 26 [(4, .v (.bool false))] j) [] []) → (xs = ys → ∀ j, K (.exit 0) (mkJ 26 [] j) [] []) →
      loopF (run Go.Proofs.Try.prog E env n) 0 0 (loopB Go.Proofs.Try.prog 18 0) (mkT 26 [(0, .ro (ints xs)), (1, .ro (ints ys)), (4, .v (.bool false)), (5, .v (.int .i64 i))]) [] [] K := by
  intro d
  induction d with
  | zero =>
    intro i n hi hn heq hf ht
    obtain ⟨n, rfl⟩ : ∃ m, n = m + 30 := ⟨n - 30, by omega⟩
    conv => whnf
    refine cndK_intro (fun h => ?_) (fun h => ?_)
    · simp [ints_length] at h; omega
    · conv => whnf
      exact useJ (ht (List.ext_getElem hl (fun j h1 h2 => heq j (by omega) h1 h2))) rfl
  | succ d ih =>
    intro i n hi hn heq hf ht
    obtain ⟨n, rfl⟩ : ∃ m, n = m + 30 := ⟨n - 30, by omega⟩
    conv => whnf
    refine cndK_intro (fun h => ?_) (fun h => ?_)
    · conv => whnf
      refine Or.inl ⟨8, by kernel_rfl, ?_⟩
      conv => whnf
      have hi2 : i < xs.length := by omega
      refine ⟨⟨by omega, by simp [ints_length]; omega⟩, optK_intro _ (ints_get xs i hi2) ?_⟩
      conv => whnf
      refine ⟨⟨by omega, by simp [ints_length]; omega⟩, optK_intro _ (ints_get ys i (by omega)) ?_⟩
      conv => whnf
      refine cndK_intro (fun h2 => ?_) (fun h2 => ?_)
      · conv => whnf
        exact useJ (hf (fun e => by subst e; simp at h2)) rfl
      · conv => whnf
        have e1 : IntKind.i64.wrap ((i : Int) + 1) = ((i + 1 : Nat) : Int) := by
          simp only [maxLen] at hm
          simp [IntKind.wrap, IntKind.bits, IntKind.signed]
          omega
        refine gc_step ⟨[true, true, false, false, true, true], [], 0⟩ _ _ _ (fun k hk => hk) ?_
        have e2 : ∀ j, (hj : j < i + 1) → (h1 : j < xs.length) → (h2 : j < ys.length) → xs[j] = ys[j] := fun j hj h1 h3 => by
          by_cases hji : j = i
          · subst hji; simpa using h2
          · exact heq j (by omega) h1 h3
        rw [e1]
        exact ih (i + 1) (n + 29) (by omega) (by omega) e2 hf ht
    · simp [ints_length] at h; omega
theorem sameInts (E : EqT) (env : Env) (xs ys : List Int) (hm : xs.length ≤ maxLen) : fnK Go.Proofs.Try.prog E env 18 (xs.length + 60) [.ro (ints xs), .ro (ints ys)] (fun a hp => expK hp a ⟨.v (.bool (decide (xs = ys))), []⟩) := by
  conv => whnf
  refine cndK_intro (fun h => ?_) (fun h => ?_)
  · conv => whnf
    left
    conv => whnf
    have : xs ≠ ys := fun e => by subst e; simp at h
    simp [this]
  · conv => whnf
    refine gc_step ⟨[true, true, false, false, true, true], [], 0⟩ _ _ _ (fun k hk => hk) ?_
    simp only [ints_length, bne_eq_false_iff_eq] at h
    refine sameInts_loop E env xs ys (by omega) hm _ xs.length 0 (xs.length + 54) (by omega) (by omega) (fun j hj => by omega) (fun hne j => ?_) (fun he j => ?_)
    · conv => whnf
      left
      conv => whnf
      simp [hne]
    · conv => whnf
      left
      conv => whnf
      simp [he]

theorem sameInts_pure (xs ys : List Int) : Pure Go.Proofs.Try.prog 18 [.ro (ints xs), .ro (ints ys)] ⟨.v (.bool (decide (xs = ys))), []⟩ :=
  pure_sz pf eqOk_none (env_ok [] rfl) fun h => ⟨_, sameInts _ _ xs ys (by have := (h 0 (by simp)).len; rwa [ints_length] at this)⟩

/-! ### headendref10: small tables -/
theorem states_pure (k : Nat) (hk : k < 4) : Pure Go.Proofs.Try.prog 79 [.v (.int .u8 k)] ⟨.v (.int .i64 ([0, 1, 2, 4].getD k 0)), []⟩ := by
  refine pure_sz pf eqOk_none (env_ok [] rfl) fun _ => ⟨20, ?_⟩
  match k, hk with
  | 0, _ | 1, _ | 2, _ | 3, _ =>
    conv => whnf
    refine ⟨by decide, ?_⟩
    conv => whnf
    left
    conv => whnf
    rfl
theorem more_pure (k : Nat) (hk : k < 4) : Pure Go.Proofs.Try.prog 106 [.v (.int .i64 k)] ⟨.v (.int .i64 (([0, 1, 1, 2] : List Int).getD k 0)), []⟩ := by
  refine pure_sz pf eqOk_none (env_ok [] rfl) fun _ => ⟨20, ?_⟩
  match k, hk with
  | 0, _ | 1, _ | 2, _ | 3, _ =>
    conv => whnf
    refine ⟨by decide, ?_⟩
    conv => whnf
    left
    conv => whnf
    rfl
theorem start_pure (kind state : Nat) (k : Int) (hs : state < 4) (h1 : 0 ≤ k) (h2 : k ≤ 64) :
    Pure Go.Proofs.Try.prog 80 [.v (.int .u8 kind), .v (.int .i64 state), .v (.int .i64 k)] ⟨.v (.int .i64 (if kind = 1 then 1 - k else k * ([0, 1, 1, 2] : List Int).getD state 0)), []⟩ := by
  refine pure_sz pf eqOk_none (env_ok [106] rfl) fun _ => ⟨20, ?_⟩
  conv => whnf
  refine cndK_intro (fun h => ?_) (fun h => ?_)
  · conv => whnf
    left
    conv => whnf
    have hk : kind = 1 := by simp at h; omega
    rw [wrap64 (by omega) (by omega), if_pos hk]
  · conv => whnf
    refine ⟨_, more_pure state hs, ?_⟩
    conv => whnf
    left
    conv => whnf
    have hk : ¬ kind = 1 := fun e => by subst e; simp at h
    have hb : 0 ≤ k * ([0, 1, 1, 2] : List Int).getD state 0 ∧ k * ([0, 1, 1, 2] : List Int).getD state 0 ≤ 128 := by
      match state, hs with
      | 0, _ | 1, _ | 2, _ | 3, _ => constructor <;> simp <;> omega
    rw [wrap64 (by omega) (by omega), if_neg hk]

theorem receivers_pure (d : Nat) (hd : d ≤ 6) : Pure Go.Proofs.Try.prog 77 [.v (.int .i64 d)] ⟨.v (.int .i64 (2 ^ d : Nat)), []⟩ := by
  refine pure_sz pf eqOk_none (env_ok [] rfl) fun _ => ⟨60, ?_⟩
  match d, hd with
  | 0, _ | 1, _ | 2, _ | 3, _ | 4, _ | 5, _ | 6, _ =>
    conv => whnf
    repeat (refine wk_none ?_; conv => whnf)
    left
    conv => whnf
    rfl

/-! ### headendref03: schemes -/
theorem eqg : EqOk Go.Proofs.Try.prog (eqL Go.Proofs.Try.prog [24]) := eqL_ok (by
  intro t ht
  simp only [List.mem_singleton] at ht
  subst ht
  exact ⟨by kernel_rfl, rfl, by kernel_rfl⟩)
def scheme (kind : Nat) (depth degree : Int) (p q g : Int) : A := .agg [.v (.int .u8 kind), .v (.int .i64 depth), .v (.int .i64 degree), .v (.int .u64 p), .v (.int .u64 q), .v (.int .u64 g)]
theorem valid3_pure (kind : Nat) (depth degree p q g : Int) :
    Pure Go.Proofs.Try.prog 89 [scheme kind depth degree p q g] ⟨.v (.bool (decide (1 ≤ kind ∧ kind ≤ 3 ∧ 0 ≤ depth ∧ depth ≤ 6 ∧ degree = 0 ∧ p = 0 ∧ q = 0 ∧ g = 0))), []⟩ := by
  refine pure_sz pf eqg (env_ok [] rfl) fun _ => ⟨20, ?_⟩
  conv => whnf
  repeat' (refine cndK_intro (fun h => ?_) (fun h => ?_) <;> (try rw [h]) <;> conv => whnf)
  all_goals
    left
    conv => whnf
    refine congrArg (fun b => (⟨.v (.bool b), []⟩ : Res)) ?_
    rw [Bool.eq_iff_iff]
    simp_all
    try omega

def validB (kind : Nat) (depth degree p q g : Int) : Bool := decide (1 ≤ kind ∧ kind ≤ 3 ∧ 0 ≤ depth ∧ depth ≤ 6 ∧ degree = 0 ∧ p = 0 ∧ q = 0 ∧ g = 0)
theorem check3_pure (kind : Nat) (depth degree p q g : Int) :
    Pure Go.Proofs.Try.prog 49 [scheme kind depth degree p q g] ⟨.v (.int .i64 (if validB kind depth degree p q g = true then 0 else 30)), []⟩ := by
  refine pure_sz pf eqg (env_ok [89] rfl) fun _ => ⟨20, ?_⟩
  conv => whnf
  refine ⟨_, valid3_pure kind depth degree p q g, ?_⟩
  conv => whnf
  refine cndK_intro (fun h => ?_) (fun h => ?_)
  · conv => whnf
    left
    conv => whnf
    have h' : (!validB kind depth degree p q g) = true := h
    have : validB kind depth degree p q g = false := by simpa using h'
    rw [this]; rfl
  · conv => whnf
    left
    conv => whnf
    have h' : (!validB kind depth degree p q g) = false := h
    have : validB kind depth degree p q g = true := by simpa using h'
    rw [this]; rfl

/-- The least number whose square is at least d. -/
def strideN (d : Nat) : Nat := if d ≤ 1 then 1 else if d ≤ 4 then 2 else 3
theorem stride3_pure (d : Nat) (hd : d ≤ 6) : Pure Go.Proofs.Try.prog 132 [.v (.int .i64 d)] ⟨.v (.int .i64 (strideN d)), []⟩ := by
  refine pure_sz pf eqOk_none (env_ok [] rfl) fun _ => ⟨60, ?_⟩
  match d, hd with
  | 0, _ | 1, _ | 2, _ | 3, _ | 4, _ | 5, _ | 6, _ =>
    conv => whnf
    repeat (refine wk_none ?_; conv => whnf)
    left
    conv => whnf
    rfl
theorem stride_pure (d : Nat) (hd : d ≤ 6) : Pure Go.Proofs.Try.prog 86 [.v (.int .i64 d)] ⟨.v (.int .i64 (strideN d)), []⟩ := by
  refine pure_sz pf eqOk_none (env_ok [] rfl) fun _ => ⟨60, ?_⟩
  match d, hd with
  | 0, _ | 1, _ | 2, _ | 3, _ | 4, _ | 5, _ | 6, _ =>
    conv => whnf
    repeat (refine wk_none ?_; conv => whnf)
    left
    conv => whnf
    rfl

/-! ### Tables as they stand in memory -/
def nest2 (L : List (List Int)) : List (List A) := L.map fun xs => [.ro (ints xs)]
def nest3 (T : List (List (List Int))) : List (List A) := T.map fun L => [.ro (nest2 L)]
theorem nest2_get (L : List (List Int)) (i : Nat) (h : i < L.length) : (nest2 L)[i]? = some [.ro (ints L[i])] := by simp [nest2, h]
theorem nest3_get (T : List (List (List Int))) (i : Nat) (h : i < T.length) : (nest3 T)[i]? = some [.ro (nest2 T[i])] := by simp [nest3, h]
theorem nest2_length (L : List (List Int)) : (nest2 L).length = L.length := by simp [nest2]
theorem nest3_length (T : List (List (List Int))) : (nest3 T).length = T.length := by simp [nest3]

end Go.YtoeophdffhmpmaaE
end

section
set_option linter.unusedVariables false
set_option linter.unusedSimpArgs false
set_option maxRecDepth 100000
namespace Go.YtoeophdffhmpmaaE
open Go Go.RowKit

/-! ### Words -/
def off (h : Nat) : Nat := 2 ^ h - 1 + h
def row (R : Nat → List Int) (st h : Nat) : List Int := ((R st).drop (off h)).take (2 ^ h + 1)
/-- The cells of the tables at work. -/
def tbC (kind depth : Nat) (R : Nat → List Int) (states : Nat) : List A :=
  [.v (.int .u8 kind), .v (.int .i64 depth), .v (.int .i64 0), .v (.int .u64 0), .v (.int .u64 0), .v (.int .u64 0), .v (.int .i64 (strideN depth)), .ro (ints (R 0)), .ro (ints (R 1)), .ro (ints (R 2)), .ro (ints (R 3)), .v (.int .i64 states)]
def tb (kind depth : Nat) (R : Nat → List Int) (states : Nat) : A := .rp (tbC kind depth R states)
def moreZ (st : Nat) : Int := ([0, 1, 1, 2] : List Int).getD st 0
def belowN (kind depth st h : Nat) : Nat :=
  if kind = 2 then 1 else if (depth - h) % strideN depth = 0 then (if st = 0 then 1 else if st = 2 then 3 else st) else if st = 0 then 2 else st
theorem strideN_pos (d : Nat) : 1 ≤ strideN d := by unfold strideN; split <;> (try split) <;> omega
theorem ints_take (xs : List Int) (l n : Nat) : ((ints xs).drop l).take n = ints ((xs.drop l).take n) := by simp [ints]
theorem pow_le6 {h : Nat} (hh : h ≤ 6) : 1 ≤ 2 ^ h ∧ 2 ^ h ≤ 64 := by
  match h, hh with
  | 0, _ | 1, _ | 2, _ | 3, _ | 4, _ | 5, _ | 6, _ => decide
theorem off_le6 {h : Nat} (hh : h ≤ 6) : off h ≤ 69 := by
  match h, hh with
  | 0, _ | 1, _ | 2, _ | 3, _ | 4, _ | 5, _ | 6, _ => decide
theorem shl1 {h : Nat} (hh : h ≤ 6) : IntKind.i64.wrap (1 * 2 ^ min (h : Int).toNat IntKind.i64.bits) = ((2 ^ h : Nat) : Int) := by
  match h, hh with
  | 0, _ | 1, _ | 2, _ | 3, _ | 4, _ | 5, _ | 6, _ => decide
theorem row_length {R : Nat → List Int} {st h : Nat} (hl : off h + 2 ^ h + 1 ≤ (R st).length) : (row R st h).length = 2 ^ h + 1 := by
  simp only [row, List.length_take, List.length_drop]; omega
theorem intsAll {xs : List Int} {n : Nat} (hn : n = 1) : ∀ c ∈ ints xs, c.length = n := by
  intro c hc
  simp only [ints, List.mem_map] at hc
  obtain ⟨x, _, rfl⟩ := hc
  exact hn.symm

theorem width_pure (h : Nat) (hh : h ≤ 6) : Pure Go.Proofs.Try.prog 88 [.v (.int .i64 h)] ⟨.v (.int .i64 (2 ^ h + 1 : Nat)), []⟩ := by
  refine pure_sz pf eqOk_none (env_ok [] rfl) fun _ => ⟨20, ?_⟩
  match h, hh with
  | 0, _ | 1, _ | 2, _ | 3, _ | 4, _ | 5, _ | 6, _ =>
    conv => whnf
    refine ⟨by decide, ?_⟩
    conv => whnf
    left
    conv => whnf
    rfl

/-- The entries of a height. -/
theorem at_pure (kind depth states : Nat) (R : Nat → List Int) (st h : Nat) (hst : st < 4) (hh : h ≤ 6) (hl : off h + 2 ^ h + 1 ≤ (R st).length) :
    Pure Go.Proofs.Try.prog 48 [tb kind depth R states, .v (.int .i64 st), .v (.int .i64 h)] ⟨.ro (ints (row R st h)), []⟩ := by
  refine pure_sz pf eqOk_none (env_ok [88] rfl) fun _ => ⟨20, ?_⟩
  obtain ⟨hp1, hp2⟩ := pow_le6 hh
  conv => whnf
  refine ⟨by omega, ?_⟩
  conv => whnf
  rw [shl1 hh]
  refine ⟨_, width_pure h hh, ?_⟩
  conv => whnf
  have e1 : IntKind.i64.wrap (IntKind.i64.wrap (((2 ^ h : Nat) : Int) - 1) + h) = ((off h : Nat) : Int) := by
    rw [wrap64 (n := ((2 ^ h : Nat) : Int) - 1) (by omega) (by omega), wrap64 (by omega) (by omega)]
    unfold off; omega
  have e2 : IntKind.i64.wrap (((off h : Nat) : Int) + ((2 ^ h + 1 : Nat) : Int)) = ((off h + 2 ^ h + 1 : Nat) : Int) := by
    have := off_le6 hh
    rw [wrap64 (by omega) (by omega)]; omega
  have e3 : (((off h + 2 ^ h + 1 : Nat) : Int).toNat - ((off h : Nat) : Int).toNat) = 2 ^ h + 1 := by omega
  match st, hst with
  | 0, _ | 1, _ | 2, _ | 3, _ =>
    refine ⟨⟨by omega, by omega⟩, ?_⟩
    conv => whnf
    rw [e1, e2]
    refine Or.inr ⟨⟨by omega, by omega, Int.le_refl _, by rw [ints_length]; omega, intsAll rfl⟩, ?_⟩
    rw [ints_take, e3]
    conv => whnf
    left
    conv => whnf
    rfl
theorem morep_pure (t : A) (st : Nat) (hst : st < 4) : Pure Go.Proofs.Try.prog 87 [t, .v (.int .i64 st)] ⟨.v (.int .i64 (moreZ st)), []⟩ := by
  refine pure_sz pf eqOk_none (env_ok [] rfl) fun _ => ⟨20, ?_⟩
  match st, hst with
  | 0, _ | 1, _ | 2, _ | 3, _ =>
    conv => whnf
    left
    conv => whnf
    rfl
theorem tmod0 (a b : Nat) (hb : 1 ≤ b) : (((a : Int).tmod (b : Int)) == 0) = decide (a % b = 0) := by
  have h : (a : Int).tmod b = ((a % b : Nat) : Int) := by
    rw [Int.tmod_eq_emod_of_nonneg (by omega)]; exact (Int.natCast_emod a b).symm
  rw [h]
  by_cases h0 : a % b = 0
  · simp [h0]
  · simp only [h0, decide_false]
    simp only [beq_eq_false_iff_ne, ne_eq]; omega
theorem belowp_pure (kind depth states : Nat) (R : Nat → List Int) (st h : Nat) (hst : st < 4) (hh : h ≤ depth) (hd : depth ≤ 6) :
    Pure Go.Proofs.Try.prog 83 [tb kind depth R states, .v (.int .i64 st), .v (.int .i64 h)] ⟨.v (.int .i64 (belowN kind depth st h)), []⟩ := by
  refine pure_sz pf eqOk_none (env_ok [] rfl) fun _ => ⟨20, ?_⟩
  have e1 : IntKind.i64.wrap ((depth : Int) - (h : Int)) = ((depth - h : Nat) : Int) := by rw [wrap64 (by omega) (by omega)]; omega
  conv => whnf
  refine cndK_intro (fun h1 => ?_) (fun h1 => ?_)
  · conv => whnf
    left
    conv => whnf
    have : kind = 2 := by simp at h1; omega
    simp [belowN, this]
  · have hk : kind ≠ 2 := fun e => by subst e; simp at h1
    conv => whnf
    refine Or.inl ⟨14, by kernel_rfl, ?_⟩
    conv => whnf
    refine ⟨by have := strideN_pos depth; omega, ?_⟩
    conv => whnf
    rw [e1, tmod0 _ _ (strideN_pos depth)]
    match st, hst with
    | 0, _ | 1, _ | 2, _ | 3, _ =>
      conv => whnf
      repeat' (refine cndK_intro (fun h2 => ?_) (fun h2 => ?_) <;> conv => whnf)
      all_goals
        left
        conv => whnf
        simp_all [belowN]
def valZ (kind : Nat) (first low : List Int) (more : Int) (k a : Nat) : Int :=
  if kind = 1 then first.getD a 0 + first.getD (k - a) 0 else if 0 < a ∧ a < k then first.getD a 0 + first.getD (k - a) 0 + more else low.getD k 0
/-- Entries are small. -/
def SmallL (xs : List Int) : Prop := ∀ x ∈ xs, 0 ≤ x ∧ x ≤ 1073741824
theorem SmallL.get {xs : List Int} (h : SmallL xs) (i : Nat) (hi : i < xs.length) : 0 ≤ xs.getD i 0 ∧ xs.getD i 0 ≤ 1073741824 := by
  rw [List.getD_eq_getElem?_getD, List.getElem?_eq_getElem hi]; exact h _ (List.getElem_mem _)
theorem ints_getD (xs : List Int) (i : Nat) (h : i < xs.length) : (ints xs)[i]? = some [.v (.int .i64 (xs.getD i 0))] := by
  rw [ints_get xs i h, List.getD_eq_getElem?_getD, List.getElem?_eq_getElem h]; rfl
theorem moreZ_le (st : Nat) : 0 ≤ moreZ st ∧ moreZ st ≤ 2 := by
  unfold moreZ
  match st with
  | 0 | 1 | 2 | 3 => decide
  | n + 4 => simp
theorem belowN_lt (kind depth st h : Nat) (hst : st < 4) : belowN kind depth st h < 4 := by
  unfold belowN; repeat' split
  all_goals omega
theorem valuep_pure (kind depth states : Nat) (R : Nat → List Int) (st g k a : Nat) (hst : st < 4) (hh : g + 1 ≤ depth) (hd : depth ≤ 6) (h0 : off g + 2 ^ g + 1 ≤ (R 0).length) (hb : kind ≠ 1 → off g + 2 ^ g + 1 ≤ (R (belowN kind depth st (g + 1))).length)
    (ha : a ≤ k) (ha2 : a ≤ 2 ^ g) (hka : k - a ≤ 2 ^ g) (s0 : SmallL (row R 0 g)) :
    Pure Go.Proofs.Try.prog 110 [tb kind depth R states, .v (.int .i64 st), .v (.int .i64 (g + 1 : Nat)), .v (.int .i64 k), .v (.int .i64 a)]
      ⟨.v (.int .i64 (valZ kind (row R 0 g) (row R (belowN kind depth st (g + 1)) g) (moreZ st) k a)), []⟩ := by
  refine pure_sz pf eqOk_none (env_ok [48, 87, 83] rfl) fun _ => ⟨40, ?_⟩
  have eg : IntKind.i64.wrap (((g + 1 : Nat) : Int) - 1) = ((g : Nat) : Int) := by rw [wrap64 (by omega) (by omega)]; omega
  have hp := pow_le6 (show g ≤ 6 by omega)
  have l0 := row_length h0
  have ek : IntKind.i64.wrap ((k : Int) - (a : Int)) = ((k - a : Nat) : Int) := by rw [wrap64 (by omega) (by omega)]; omega
  conv => whnf
  rw [eg]
  refine ⟨_, at_pure kind depth states R 0 g (by omega) (by omega) h0, ?_⟩
  conv => whnf
  obtain ⟨b1, b2⟩ := s0.get a (by omega)
  obtain ⟨b3, b4⟩ := s0.get (k - a) (by omega)
  obtain ⟨b5, b6⟩ := moreZ_le st
  refine cndK_intro (fun h1 => ?_) (fun h1 => ?_)
  · have hk : kind = 1 := by simp at h1; omega
    conv => whnf
    refine Or.inl ⟨12, by kernel_rfl, ?_⟩
    conv => whnf
    refine ⟨⟨by omega, by rw [ints_length]; omega⟩, optK_intro _ (ints_getD _ _ (by simp; omega)) ?_⟩
    conv => whnf
    rw [ek]
    refine ⟨⟨by omega, by rw [ints_length]; omega⟩, optK_intro _ (ints_getD _ _ (by simp; omega)) ?_⟩
    conv => whnf
    left
    conv => whnf
    simp only [Int.toNat_natCast]
    rw [wrap64 (by omega) (by omega), valZ, if_pos hk]
  · have hk : kind ≠ 1 := fun e => by subst e; simp at h1
    have hb := hb hk
    have lb := row_length hb
    conv => whnf
    have mid : 0 < a ∧ a < k → valZ kind (row R 0 g) (row R (belowN kind depth st (g + 1)) g) (moreZ st) k a = (row R 0 g).getD a 0 + (row R 0 g).getD (k - a) 0 + moreZ st := fun h => by rw [valZ, if_neg hk, if_pos h]
    have low : ¬ (0 < a ∧ a < k) → valZ kind (row R 0 g) (row R (belowN kind depth st (g + 1)) g) (moreZ st) k a = (row R (belowN kind depth st (g + 1)) g).getD k 0 := fun h => by rw [valZ, if_neg hk, if_neg h]
    refine cndK_intro (fun h2 => ?_) (fun h2 => ?_)
    · rw [h2]
      conv => whnf
      refine cndK_intro (fun h3 => ?_) (fun h3 => ?_)
      · conv => whnf
        refine Or.inl ⟨16, by kernel_rfl, ?_⟩
        conv => whnf
        refine ⟨⟨by omega, by rw [ints_length]; omega⟩, optK_intro _ (ints_getD _ _ (by simp; omega)) ?_⟩
        conv => whnf
        rw [ek]
        refine ⟨⟨by omega, by rw [ints_length]; omega⟩, optK_intro _ (ints_getD _ _ (by simp; omega)) ?_⟩
        conv => whnf
        refine ⟨_, morep_pure _ st hst, ?_⟩
        conv => whnf
        left
        conv => whnf
        simp only [Int.toNat_natCast]
        rw [wrap64 (n := (row R 0 g).getD a 0 + (row R 0 g).getD (k - a) 0) (by omega) (by omega), wrap64 (by omega) (by omega), mid ⟨by simpa using h2, by simpa using h3⟩]
      · conv => whnf
        have hk2 : k ≤ 2 ^ g := by simp at h2 h3; omega
        refine ⟨_, belowp_pure kind depth states R st (g + 1) hst hh hd, ?_⟩
        conv => whnf
        rw [eg]
        refine ⟨_, at_pure kind depth states R (belowN kind depth st (g + 1)) g (belowN_lt _ _ _ _ hst) (by omega) hb, ?_⟩
        conv => whnf
        refine ⟨⟨by omega, by rw [ints_length]; omega⟩, optK_intro _ (ints_getD _ _ (by simp; omega)) ?_⟩
        conv => whnf
        left
        conv => whnf
        simp only [Int.toNat_natCast]
        rw [low (by simp at h2 h3; omega)]
    · rw [h2]
      conv => whnf
      have hk2 : k ≤ 2 ^ g := by simp at h2; omega
      refine ⟨_, belowp_pure kind depth states R st (g + 1) hst hh hd, ?_⟩
      conv => whnf
      rw [eg]
      refine ⟨_, at_pure kind depth states R (belowN kind depth st (g + 1)) g (belowN_lt _ _ _ _ hst) (by omega) hb, ?_⟩
      conv => whnf
      refine ⟨⟨by omega, by rw [ints_length]; omega⟩, optK_intro _ (ints_getD _ _ (by simp; omega)) ?_⟩
      conv => whnf
      left
      conv => whnf
      simp only [Int.toNat_natCast]
      rw [low (by simp at h2; omega)]
/-! ### plan: the greatest value -/
def rangesOf : Code → List (List Nat × Code × Code)
  | .seq a b => rangesOf a ++ rangesOf b
  | .cond _ a b => rangesOf a ++ rangesOf b
  | .block _ c => rangesOf c
  | .loop c => rangesOf c
  | .rangeFunc _ ps a b => (ps.toList, a, b) :: (rangesOf a ++ rangesOf b)
  | _ => []
/-- The round of the k-th loop over a function of a function. -/
def rdB (P : Program) (f k : Nat) (ts : List A) : Rd := match (((P.funcs[f]?).bind (·.body)).elim [] rangesOf)[k]? with
  | some (ps, a, b) => ⟨ps, a, b, ts⟩
  | none => ⟨[], .skip, .skip, ts⟩
/-- The first of the greatest values of n arguments from a on, with what came before. -/
def gr (f : Nat → Int) : Nat → Nat → Int → Nat → Bool → Int × Nat × Bool
  | 0, _, m, b, no => (m, b, no)
  | n + 1, a, m, b, no => if no = true ∨ f a > m then gr f n (a + 1) (f a) a false else gr f n (a + 1) m b no
def bestHp (kind depth states : Nat) (R : Nat → List Int) (st g k : Nat) (m : Int) (b : Nat) (no : Bool) : List Blk :=
  [.bx false [tb kind depth R states], .bx false [.v (.int .i64 st)], .bx false [.v (.int .i64 (g + 1 : Nat))], .bx false [.v (.int .i64 k)], .bx false [.v (.int .i64 (g + 1 : Nat))], .bx false [.v (.int .i64 k)],
    .bx false [.fn 109 [] [.pt 0 0 0 0 0, .pt 1 0 0 0 0, .pt 2 0 0 0 0, .pt 3 0 0 0 0]], .bx false [.v (.int .i64 m)], .bx false [.v (.int .i64 b)], .bx false [.v (.bool no)]]
noncomputable def bestTs : List A := mkT 24 [(0, .fn 131 [] [.pt 4 0 0 0 0, .pt 5 0 0 0 0]), (1, .fn 109 [] [.pt 0 0 0 0 0, .pt 1 0 0 0 0, .pt 2 0 0 0 0, .pt 3 0 0 0 0]),
  (3, .pt 6 0 0 0 0), (4, .pt 7 0 0 0 0), (5, .pt 8 0 0 0 0), (6, .pt 9 0 0 0 0), (9, .fn 131 [] [.pt 4 0 0 0 0, .pt 5 0 0 0 0])]
noncomputable def bestLp : List Lp := [.ready (rdB Go.Proofs.Try.prog 74 0 bestTs)]
theorem best_loop (E : EqT) (kind depth states : Nat) (R : Nat → List Int) (st g k : Nat) (hst : st < 4) (hh : g + 1 ≤ depth) (hd : depth ≤ 6) (h0 : off g + 2 ^ g + 1 ≤ (R 0).length) (hb : kind ≠ 1 → off g + 2 ^ g + 1 ≤ (R (belowN kind depth st (g + 1))).length)
    (s0 : SmallL (row R 0 g)) (K : K) :
    ∀ (d a n : Nat) (m : Int) (b : Nat) (no : Bool), a + d = min k (2 ^ g) + 1 → k - 2 ^ g ≤ a → d + 60 ≤ n →
      (∀ j, K (.exit 0) (mkJ 24 [] j) (match gr (valZ kind (row R 0 g) (row R (belowN kind depth st (g + 1)) g) (moreZ st) k) d a m b no with | (m, b, no) => bestHp kind depth states R st g k m b no) bestLp) →
      loopF (run Go.Proofs.Try.prog E (envL Go.Proofs.Try.prog [110]) n) 10 1 (loopB Go.Proofs.Try.prog 131 0)
        (mkT 24 [(0, .yl 0), (1, .pt 4 0 0 0 0), (2, .pt 5 0 0 0 0), (4, .v (.int .i64 (2 ^ g : Nat))), (5, .v (.int .i64 a))]) (bestHp kind depth states R st g k m b no) bestLp K := by
  intro d
  induction d with
  | zero =>
    intro a n m b no hi hlo hn hK
    obtain ⟨n, rfl⟩ : ∃ m, n = m + 60 := ⟨n - 60, by omega⟩
    conv => whnf
    refine cndK_intro (fun h => ?_) (fun h => ?_)
    · exfalso
      simp only [decide_eq_true_eq] at h
      split at h <;> omega
    · conv => whnf
      exact useJ hK rfl
  | succ d ih =>
    intro a n m b no hi hlo hn hK
    obtain ⟨n, rfl⟩ : ∃ m, n = m + 60 := ⟨n - 60, by omega⟩
    have ea : IntKind.i64.wrap ((a : Int) + 1) = ((a + 1 : Nat) : Int) := by rw [wrap64 (by omega) (by have := pow_le6 (show g ≤ 6 by omega); omega)]; omega
    conv => whnf
    refine cndK_intro (fun h => ?_) (fun h => ?_)
    · conv => whnf
      refine ⟨_, valuep_pure kind depth states R st g k a hst hh hd h0 hb (by omega) (by omega) (by omega) s0, ?_⟩
      conv => whnf
      cases no with
      | true =>
        conv => whnf
        rw [ea]
        refine gc_step ⟨[true, true, true, false, true, true], [], 1⟩ _ _ _ (fun k hk => hk) ?_
        exact ih (a + 1) (n + 59) _ a false (by omega) (by omega) (by omega) (fun j => by have := hK j; rw [gr, if_pos (.inl rfl)] at this; exact this)
      | false =>
        conv => whnf
        refine cndK_intro (fun h2 => ?_) (fun h2 => ?_)
        · have h2' : valZ kind (row R 0 g) (row R (belowN kind depth st (g + 1)) g) (moreZ st) k a > m := by simpa using h2
          conv => whnf
          rw [ea]
          refine gc_step ⟨[true, true, true, false, true, true], [], 1⟩ _ _ _ (fun k hk => hk) ?_
          exact ih (a + 1) (n + 59) _ a false (by omega) (by omega) (by omega) (fun j => by have := hK j; rw [gr, if_pos (.inr h2')] at this; exact this)
        · have h2' : ¬ valZ kind (row R 0 g) (row R (belowN kind depth st (g + 1)) g) (moreZ st) k a > m := by simpa using h2
          conv => whnf
          rw [ea]
          refine gc_step ⟨[true, true, true, false, true, true], [], 1⟩ _ _ _ (fun k hk => hk) ?_
          exact ih (a + 1) (n + 59) m b false (by omega) (by omega) (by omega) (fun j => by have := hK j; rw [gr, if_neg (by simpa using h2')] at this; exact this)
    · exfalso
      simp only [decide_eq_false_iff_not] at h
      split at h <;> omega
/-- The greatest value of an entry, and the least a that has it. -/
def bestZ (kind : Nat) (first low : List Int) (more : Int) (g k : Nat) : Int × Nat × Bool := gr (valZ kind first low more k) (min k (2 ^ g) + 1 - (k - 2 ^ g)) (k - 2 ^ g) 0 0 true
theorem bestp_pure (kind depth states : Nat) (R : Nat → List Int) (st g k : Nat) (hst : st < 4) (hh : g + 1 ≤ depth) (hd : depth ≤ 6) (h0 : off g + 2 ^ g + 1 ≤ (R 0).length) (hb : kind ≠ 1 → off g + 2 ^ g + 1 ≤ (R (belowN kind depth st (g + 1))).length)
    (s0 : SmallL (row R 0 g)) (hk : k ≤ 2 ^ (g + 1)) :
    Pure Go.Proofs.Try.prog 82 [tb kind depth R states, .v (.int .i64 st), .v (.int .i64 (g + 1 : Nat)), .v (.int .i64 k)]
      ⟨.tup [.v (.int .i64 (bestZ kind (row R 0 g) (row R (belowN kind depth st (g + 1)) g) (moreZ st) g k).1), .v (.int .i64 (bestZ kind (row R 0 g) (row R (belowN kind depth st (g + 1)) g) (moreZ st) g k).2.1)], []⟩ := by
  refine pure_sz pf eqOk_none (env_ok [110] rfl) fun _ => ⟨200, ?_⟩
  have eg : IntKind.i64.wrap (((g + 1 : Nat) : Int) - 1) = ((g : Nat) : Int) := by rw [wrap64 (by omega) (by omega)]; omega
  have hp := pow_le6 (show g ≤ 6 by omega)
  have hp2 : 2 ^ (g + 1) = 2 * 2 ^ g := by rw [Nat.pow_succ, Nat.mul_comm]
  have el : (if IntKind.i64.wrap ((k : Int) - ((2 ^ g : Nat) : Int)) > 0 then IntKind.i64.wrap ((k : Int) - ((2 ^ g : Nat) : Int)) else 0) = ((k - 2 ^ g : Nat) : Int) := by
    rw [wrap64 (by omega) (by omega)]
    split <;> omega
  conv => whnf
  rw [eg]
  refine ⟨by omega, ?_⟩
  conv => whnf
  rw [shl1 (show g ≤ 6 by omega), el]
  refine gc_step ⟨[true, true, true, false, true, true], [], 1⟩ _ _ _ (fun k hk => hk) ?_
  refine best_loop _ kind depth states R st g k hst hh hd h0 hb s0 _ (min k (2 ^ g) + 1 - (k - 2 ^ g)) (k - 2 ^ g) 187 0 0 true (by omega) (by omega) ?_ ?_
  · omega
  · intro j
    unfold bestZ
    generalize gr (valZ kind (row R 0 g) (row R (belowN kind depth st (g + 1)) g) (moreZ st) k) (min k (2 ^ g) + 1 - (k - 2 ^ g)) (k - 2 ^ g) 0 0 true = q
    obtain ⟨m, b, no⟩ := q
    conv => whnf
    refine Or.inr ?_
    conv => whnf
    refine ⟨[0, 1], by kernel_rfl, ?_⟩
    conv => whnf
    refine ⟨?_, ?_, trivial⟩
    · conv => whnf
      refine ⟨[1, 2], by kernel_rfl, ?_⟩
      conv => whnf
      refine ⟨?_, ?_, trivial⟩
      · conv => whnf
        refine ⟨[2], by kernel_rfl, ?_⟩
        conv => whnf
        refine ⟨?_, trivial⟩
        conv => whnf
        refine ⟨[3], by kernel_rfl, ?_⟩
        conv => whnf
        refine ⟨?_, trivial⟩
        conv => whnf
        refine ⟨by kernel_rfl, ?_⟩
        conv => whnf
        left
        conv => whnf
      · conv => whnf
        refine ⟨[1], by kernel_rfl, ?_⟩
        conv => whnf
        refine ⟨?_, trivial⟩
        conv => whnf
        refine ⟨[3], by kernel_rfl, ?_⟩
        conv => whnf
        refine ⟨?_, trivial⟩
        conv => whnf
        refine ⟨by kernel_rfl, ?_⟩
        conv => whnf
        left
        conv => whnf
    · conv => whnf
      refine ⟨[0], by kernel_rfl, ?_⟩
      conv => whnf
      refine ⟨?_, trivial⟩
      conv => whnf
      refine ⟨[2], by kernel_rfl, ?_⟩
      conv => whnf
      refine ⟨?_, trivial⟩
      conv => whnf
      refine ⟨[3], by kernel_rfl, ?_⟩
      conv => whnf
      refine ⟨?_, trivial⟩
      conv => whnf
      refine ⟨by kernel_rfl, ?_⟩
      conv => whnf
      left
      conv => whnf
/-! ### plan: the worst number -/
def countZ (R : Nat → List Int) (depth k : Nat) : Int := if k = 0 then 1 else (row R 0 depth).getD k 0
theorem countp_pure (kind depth states : Nat) (R : Nat → List Int) (k : Nat) (hd : depth ≤ 6) (h0 : off depth + 2 ^ depth + 1 ≤ (R 0).length) (hk : k ≤ 2 ^ depth) :
    Pure Go.Proofs.Try.prog 76 [tb kind depth R states, .v (.int .i64 k)] ⟨.v (.int .i64 (countZ R depth k)), []⟩ := by
  refine pure_sz pf eqOk_none (env_ok [48] rfl) fun _ => ⟨30, ?_⟩
  have l0 := row_length h0
  conv => whnf
  refine cndK_intro (fun h1 => ?_) (fun h1 => ?_)
  · conv => whnf
    left
    conv => whnf
    have : k = 0 := by simp at h1; omega
    simp [countZ, this]
  · conv => whnf
    refine ⟨_, at_pure kind depth states R 0 depth (by omega) hd h0, ?_⟩
    conv => whnf
    refine ⟨⟨by omega, by rw [ints_length]; omega⟩, optK_intro _ (ints_getD _ _ (by simp; omega)) ?_⟩
    conv => whnf
    left
    conv => whnf
    have : k ≠ 0 := by simp at h1; omega
    simp [countZ, this]
def worstHp (kind depth states : Nat) (R : Nat → List Int) (r : Nat) (m : Int) (b : Nat) (no : Bool) : List Blk :=
  [.bx false [.v (.int .i64 r)], .bx false [.fn 76 [tb kind depth R states] []], .bx false [.v (.int .i64 m)], .bx false [.v (.int .i64 b)], .bx false [.v (.bool no)]]
noncomputable def worstTs (kind depth states : Nat) (R : Nat → List Int) : List A := mkT 24 [(0, .fn 105 [] [.pt 0 0 0 0 0]), (1, .fn 76 [tb kind depth R states] []),
  (3, .pt 1 0 0 0 0), (4, .pt 2 0 0 0 0), (5, .pt 3 0 0 0 0), (6, .pt 4 0 0 0 0), (9, .fn 105 [] [.pt 0 0 0 0 0])]
noncomputable def worstLp (kind depth states : Nat) (R : Nat → List Int) : List Lp := [.ready (rdB Go.Proofs.Try.prog 74 0 (worstTs kind depth states R))]
theorem worst_loop (E : EqT) (kind depth states : Nat) (R : Nat → List Int) (r : Nat) (hd : depth ≤ 6) (h0 : off depth + 2 ^ depth + 1 ≤ (R 0).length) (hr : r ≤ 2 ^ depth) (K : K) :
    ∀ (d a n : Nat) (m : Int) (b : Nat) (no : Bool), a + d = r + 1 → d + 60 ≤ n →
      (∀ j, K (.exit 0) (mkJ 14 [] j) (match gr (countZ R depth) d a m b no with | (m, b, no) => worstHp kind depth states R r m b no) (worstLp kind depth states R)) →
      loopF (run Go.Proofs.Try.prog E (envL Go.Proofs.Try.prog [76]) n) 5 1 (loopB Go.Proofs.Try.prog 105 0)
        (mkT 14 [(0, .yl 0), (1, .pt 0 0 0 0 0), (3, .v (.int .i64 a))]) (worstHp kind depth states R r m b no) (worstLp kind depth states R) K := by
  intro d
  have hp := pow_le6 hd
  induction d with
  | zero =>
    intro a n m b no hi hn hK
    obtain ⟨n, rfl⟩ : ∃ m, n = m + 60 := ⟨n - 60, by omega⟩
    conv => whnf
    refine cndK_intro (fun h => ?_) (fun h => ?_)
    · exfalso
      simp only [decide_eq_true_eq] at h
      omega
    · rw [h]
      conv => whnf
      exact useJ hK rfl
  | succ d ih =>
    intro a n m b no hi hn hK
    obtain ⟨n, rfl⟩ : ∃ m, n = m + 60 := ⟨n - 60, by omega⟩
    have ea : IntKind.i64.wrap ((a : Int) + 1) = ((a + 1 : Nat) : Int) := by rw [wrap64 (by omega) (by omega)]; omega
    conv => whnf
    refine cndK_intro (fun h => ?_) (fun h => ?_)
    · rw [h]
      conv => whnf
      refine ⟨_, countp_pure kind depth states R a hd h0 (by omega), ?_⟩
      conv => whnf
      cases no with
      | true =>
        conv => whnf
        rw [ea]
        refine gc_step ⟨[true, true, false, true], [], 1⟩ _ _ _ (fun k hk => hk) ?_
        exact ih (a + 1) (n + 59) _ a false (by omega) (by omega) (fun j => by have := hK j; rw [gr, if_pos (.inl rfl)] at this; exact this)
      | false =>
        conv => whnf
        refine cndK_intro (fun h2 => ?_) (fun h2 => ?_)
        · have h2' : countZ R depth a > m := by simpa using h2
          conv => whnf
          rw [ea]
          refine gc_step ⟨[true, true, false, true], [], 1⟩ _ _ _ (fun k hk => hk) ?_
          exact ih (a + 1) (n + 59) _ a false (by omega) (by omega) (fun j => by have := hK j; rw [gr, if_pos (.inr h2')] at this; exact this)
        · have h2' : ¬ countZ R depth a > m := by simpa using h2
          conv => whnf
          rw [ea]
          refine gc_step ⟨[true, true, false, true], [], 1⟩ _ _ _ (fun k hk => hk) ?_
          exact ih (a + 1) (n + 59) m b false (by omega) (by omega) (fun j => by have := hK j; rw [gr, if_neg (by simpa using h2')] at this; exact this)
    · exfalso
      simp only [decide_eq_false_iff_not] at h
      omega
/-- The worst number of items, and the least k that has it. -/
def worstZ (R : Nat → List Int) (depth r : Nat) : Int × Nat × Bool := gr (countZ R depth) (r + 1) 0 0 0 true
theorem worstp_pure (kind depth states : Nat) (R : Nat → List Int) (r : Nat) (hd : depth ≤ 6) (h0 : off depth + 2 ^ depth + 1 ≤ (R 0).length) (hr : r ≤ 2 ^ depth) :
    Pure Go.Proofs.Try.prog 39 [tb kind depth R states, .v (.int .i64 r)] ⟨.tup [.v (.int .i64 (worstZ R depth r).1), .v (.int .i64 (worstZ R depth r).2.1)], []⟩ := by
  refine pure_sz pf eqOk_none (env_ok [76] rfl) fun _ => ⟨200, ?_⟩
  have hp := pow_le6 hd
  conv => whnf
  refine gc_step ⟨[true, true, false, true], [], 1⟩ _ _ _ (fun k hk => hk) ?_
  refine worst_loop _ kind depth states R r hd h0 hr _ (r + 1) 0 188 0 0 true (by omega) (by omega) ?_
  intro j
  unfold worstZ
  generalize gr (countZ R depth) (r + 1) 0 0 0 true = q
  obtain ⟨m, b, no⟩ := q
  conv => whnf
  refine Or.inr ?_
  conv => whnf
  refine ⟨[0, 1], by kernel_rfl, ?_⟩
  conv => whnf
  refine ⟨?_, ?_, trivial⟩
  · conv => whnf
    refine ⟨[1, 2], by kernel_rfl, ?_⟩
    conv => whnf
    refine ⟨?_, ?_, trivial⟩
    · conv => whnf
      refine ⟨[2], by kernel_rfl, ?_⟩
      conv => whnf
      refine ⟨?_, trivial⟩
      conv => whnf
      refine ⟨[3], by kernel_rfl, ?_⟩
      conv => whnf
      refine ⟨?_, trivial⟩
      conv => whnf
      refine ⟨by kernel_rfl, ?_⟩
      conv => whnf
      left
      conv => whnf
    · conv => whnf
      refine ⟨[1], by kernel_rfl, ?_⟩
      conv => whnf
      refine ⟨?_, trivial⟩
      conv => whnf
      refine ⟨[3], by kernel_rfl, ?_⟩
      conv => whnf
      refine ⟨?_, trivial⟩
      conv => whnf
      refine ⟨by kernel_rfl, ?_⟩
      conv => whnf
      left
      conv => whnf
  · conv => whnf
    refine ⟨[0], by kernel_rfl, ?_⟩
    conv => whnf
    refine ⟨?_, trivial⟩
    conv => whnf
    refine ⟨[2], by kernel_rfl, ?_⟩
    conv => whnf
    refine ⟨?_, trivial⟩
    conv => whnf
    refine ⟨[3], by kernel_rfl, ?_⟩
    conv => whnf
    refine ⟨?_, trivial⟩
    conv => whnf
    refine ⟨by kernel_rfl, ?_⟩
    conv => whnf
    left
    conv => whnf
end Go.YtoeophdffhmpmaaE
end

section
set_option linter.unusedVariables false
set_option linter.unusedSimpArgs false
set_option maxRecDepth 100000
set_option maxHeartbeats 4000000
namespace Go.YtoeophdffhmpmaaE
open Go Go.RowKit

/-! ### The tables -/
/-- The entries of a height, for a state. -/
def lvl (kind depth : Nat) : Nat → Nat → List Int
  | 0, st => if kind = 1 then [1, 0] else [0, moreZ st]
  | g + 1, st => (if kind = 1 then 1 else 0) :: (List.range (2 ^ (g + 1))).map fun i => (bestZ kind (lvl kind depth g 0) (lvl kind depth g (belowN kind depth st (g + 1))) (moreZ st) g (i + 1)).1
theorem lvl_length (kind depth h st : Nat) : (lvl kind depth h st).length = 2 ^ h + 1 := by
  cases h with
  | zero => unfold lvl; split <;> rfl
  | succ g => simp [lvl]
/-- All entries of a state, one height behind the other. -/
def flatN (f : Nat → List Int) : Nat → List Int
  | 0 => []
  | n + 1 => flatN f n ++ f n
theorem off_succ (n : Nat) : off (n + 1) = off n + (2 ^ n + 1) := by
  have : 1 ≤ 2 ^ n := Nat.one_le_two_pow
  simp only [off, Nat.pow_succ]; omega
theorem flatN_length {f : Nat → List Int} (hf : ∀ h, (f h).length = 2 ^ h + 1) (n : Nat) : (flatN f n).length = off n := by
  induction n with
  | zero => rfl
  | succ n ih => rw [flatN, List.length_append, ih, hf, off_succ]
theorem off_mono {a b : Nat} (h : a ≤ b) : off a ≤ off b := by
  induction b with
  | zero => have : a = 0 := by omega
            subst this; exact Nat.le_refl _
  | succ b ih =>
    by_cases ha : a = b + 1
    · subst ha; exact Nat.le_refl _
    · have := ih (by omega); have : 1 ≤ 2 ^ b := Nat.one_le_two_pow; rw [off_succ]; omega
theorem flatN_get {f : Nat → List Int} (hf : ∀ h, (f h).length = 2 ^ h + 1) (n g k : Nat) (hg : g < n) (hk : k < 2 ^ g + 1) : (flatN f n)[off g + k]? = (f g)[k]? := by
  induction n with
  | zero => omega
  | succ n ih =>
    rw [flatN]
    by_cases h : g = n
    · subst h
      rw [List.getElem?_append_right (by rw [flatN_length hf]; omega), flatN_length hf, Nat.add_sub_cancel_left]
    · have h1 := off_mono (show g + 1 ≤ n by omega)
      rw [off_succ] at h1
      rw [List.getElem?_append_left (by rw [flatN_length hf]; omega)]
      exact ih (by omega)
def fullZ (kind depth st : Nat) : List Int := flatN (fun h => lvl kind depth h st) (depth + 1)
theorem fullZ_length (kind depth st : Nat) : (fullZ kind depth st).length = off (depth + 1) := flatN_length (fun h => lvl_length kind depth h st) _
/-- A row that is filled up to p. -/
def fillL (F : List Int) (p : Nat) : List Int := F.take p ++ List.replicate (F.length - p) 0
theorem fillL_length (F : List Int) (p : Nat) : (fillL F p).length = F.length := by simp [fillL]; omega
theorem fillL_set (F : List Int) (p : Nat) (v : Int) (h : F[p]? = some v) : (fillL F p).set p v = fillL F (p + 1) := by
  obtain ⟨h1, h2⟩ := List.getElem?_eq_some_iff.1 h
  apply List.ext_getElem?
  intro i
  simp only [fillL]
  rw [List.getElem?_set]
  by_cases hi : p = i
  · subst hi
    rw [if_pos rfl]
    have : p < (List.take p F ++ List.replicate (F.length - p) 0).length := by simp; omega
    rw [if_pos this, List.getElem?_append_left (by simp; omega), List.getElem?_take_of_lt (by omega), h]
  · rw [if_neg hi]
    by_cases hl : i < p
    · rw [List.getElem?_append_left (by simp; omega), List.getElem?_append_left (by simp; omega), List.getElem?_take_of_lt hl, List.getElem?_take_of_lt (by omega)]
    · rw [List.getElem?_append_right (by simp; omega), List.getElem?_append_right (by simp; omega)]
      simp only [List.length_take, List.getElem?_replicate]
      have e1 : min p F.length = p := by omega
      have e2 : min (p + 1) F.length = p + 1 := by omega
      rw [e1, e2]
      have : (i - p < F.length - p) ↔ (i - (p + 1) < F.length - (p + 1)) := by omega
      simp only [this]
theorem fillL_row (kind depth st p g : Nat) (hg : g ≤ depth) (hp : off (g + 1) ≤ p) : ((fillL (fullZ kind depth st) p).drop (off g)).take (2 ^ g + 1) = lvl kind depth g st := by
  have hb := off_mono (show g + 1 ≤ depth + 1 by omega)
  rw [off_succ] at hp
  apply List.ext_getElem?
  intro k
  by_cases hk : k < 2 ^ g + 1
  · rw [List.getElem?_take_of_lt hk, List.getElem?_drop, fillL, List.getElem?_append_left (by rw [List.length_take, fullZ_length]; rw [off_succ] at hb; omega), List.getElem?_take_of_lt (by omega)]
    exact flatN_get (fun h => lvl_length kind depth h st) _ g k (by omega) hk
  · rw [List.getElem?_eq_none (by simp; omega), List.getElem?_eq_none (by rw [lvl_length]; omega)]
theorem ints_set (xs : List Int) (i : Nat) (v : Int) : (ints xs).set i [.v (.int .i64 v)] = ints (xs.set i v) := by simp [ints, List.map_set]
theorem ints_full {xs : List Int} {n : Nat} (h : n = xs.length) : ((ints xs).drop 0).take n = ints xs := by
  subst h; rw [List.drop_zero, ← ints_length]; exact List.take_length ..
theorem fillL_all (F : List Int) (p : Nat) (h : F.length ≤ p) : fillL F p = F := by
  simp [fillL, List.take_of_length_le h, show F.length - p = 0 by omega]
theorem fillL_none (F : List Int) : fillL F 0 = List.replicate F.length 0 := by simp [fillL]
/-! ### The run -/
/-- The tables' struct, in the own heap. -/
def ntC (kind depth : Nat) : List A :=
  match kind with
  | 1 => [.v (.int .u8 1), .v (.int .i64 depth), .v (.int .i64 0), .v (.int .u64 0), .v (.int .u64 0), .v (.int .u64 0), .v (.int .i64 (strideN depth)), .sl 2 0 1 0 (off (depth + 1)), .v (.slice none 0 0), .v (.slice none 0 0), .v (.slice none 0 0), .v (.int .i64 1)]
  | 2 => [.v (.int .u8 2), .v (.int .i64 depth), .v (.int .i64 0), .v (.int .u64 0), .v (.int .u64 0), .v (.int .u64 0), .v (.int .i64 (strideN depth)), .sl 2 0 1 0 (off (depth + 1)), .sl 3 0 1 0 (off (depth + 1)), .v (.slice none 0 0), .v (.slice none 0 0), .v (.int .i64 2)]
  | _ => [.v (.int .u8 3), .v (.int .i64 depth), .v (.int .i64 0), .v (.int .u64 0), .v (.int .u64 0), .v (.int .u64 0), .v (.int .i64 (strideN depth)), .sl 2 0 1 0 (off (depth + 1)), .sl 3 0 1 0 (off (depth + 1)), .sl 4 0 1 0 (off (depth + 1)), .sl 5 0 1 0 (off (depth + 1)), .v (.int .i64 4)]
def ntB (kind depth st p : Nat) : Blk := .rw false false 0 1 (ints (fillL (fullZ kind depth st) p))
def ntHp (kind depth : Nat) (p : Nat → Nat) : List Blk :=
  match kind with
  | 1 => [.bx false [.v (.int .u8 1), .v (.int .i64 depth), .v (.int .i64 0), .v (.int .u64 0), .v (.int .u64 0), .v (.int .u64 0)], .bx false (ntC 1 depth), ntB 1 depth 0 (p 0)]
  | 2 => [.bx false [.v (.int .u8 2), .v (.int .i64 depth), .v (.int .i64 0), .v (.int .u64 0), .v (.int .u64 0), .v (.int .u64 0)], .bx false (ntC 2 depth), ntB 2 depth 0 (p 0), ntB 2 depth 1 (p 1)]
  | _ => [.bx false [.v (.int .u8 3), .v (.int .i64 depth), .v (.int .i64 0), .v (.int .u64 0), .v (.int .u64 0), .v (.int .u64 0)], .bx false (ntC 3 depth), ntB 3 depth 0 (p 0), ntB 3 depth 1 (p 1), ntB 3 depth 2 (p 2), ntB 3 depth 3 (p 3)]
def statesN (kind : Nat) : Nat := match kind with | 1 => 1 | 2 => 2 | _ => 4
def ntEnv : List Nat := [86, 88, 87, 82]
theorem nt_set (kind depth st h k pp : Nat) (hpk : pp = off h + k) (hh : h ≤ depth) (hk : k < 2 ^ h + 1) (v : Int) (hv : (lvl kind depth h st)[k]? = some v) :
    (ints (fillL (fullZ kind depth st) pp)).set (off h + (k : Int).toNat) [.v (.int .i64 v)] = ints (fillL (fullZ kind depth st) (pp + 1)) := by
  subst hpk
  rw [Int.toNat_natCast, ints_set, fillL_set]
  rw [← hv]; exact flatN_get (fun h => lvl_length kind depth h st) _ h k (by omega) hk
theorem nt_get (kind depth st h k pp : Nat) (hh : h ≤ depth) (hk : k < 2 ^ h + 1) : ∃ v, (ints (fillL (fullZ kind depth st) pp))[off h + (k : Int).toNat]? = some [.v (.int .i64 v)] := by
  have := off_mono (show h + 1 ≤ depth + 1 by omega)
  rw [off_succ] at this
  rw [Int.toNat_natCast]
  exact ⟨_, ints_get _ _ (by rw [fillL_length, fullZ_length]; omega)⟩
theorem belowN_2 (depth st h : Nat) : belowN 2 depth st h = 1 := rfl
theorem getD_bd {xs : List Int} {B : Int} (h : ∀ x ∈ xs, 0 ≤ x ∧ x ≤ B) (hB : 0 ≤ B) (i : Nat) : 0 ≤ xs.getD i 0 ∧ xs.getD i 0 ≤ B := by
  rw [List.getD_eq_getElem?_getD]
  cases hi : xs[i]? with
  | none => exact ⟨Int.le_refl _, hB⟩
  | some x => exact h x (List.mem_of_getElem? hi)
theorem gr_bd {f : Nat → Int} {B : Int} (hf : ∀ a, 0 ≤ f a ∧ f a ≤ B) : ∀ (n a : Nat) (m : Int) (b : Nat) (no : Bool), 0 ≤ m ∧ m ≤ B → 0 ≤ (gr f n a m b no).1 ∧ (gr f n a m b no).1 ≤ B := by
  intro n
  induction n with
  | zero => intro a m b no hm; exact hm
  | succ n ih =>
    intro a m b no hm
    rw [gr]
    split
    · exact ih _ _ _ _ (hf a)
    · exact ih _ _ _ _ hm
theorem lvl_bd (kind depth : Nat) : ∀ h st, ∀ x ∈ lvl kind depth h st, 0 ≤ x ∧ x ≤ ((2 ^ (h + 2) : Nat) : Int) - 2 := by
  intro h
  induction h with
  | zero =>
    intro st x hx
    have := moreZ_le st
    unfold lvl at hx
    split at hx <;> simp at hx <;> rcases hx with rfl | rfl <;> simp <;> omega
  | succ g ih =>
    intro st x hx
    have h4 : 1 ≤ 2 ^ g := Nat.one_le_two_pow
    have h3 : 2 ^ (g + 2) = 4 * 2 ^ g := by rw [Nat.pow_add]; omega
    have h2 : 2 ^ (g + 1 + 2) = 8 * 2 ^ g := by rw [Nat.pow_add, Nat.pow_add]; omega
    rw [h2]
    simp only [h3] at ih
    rw [lvl, List.mem_cons] at hx
    rcases hx with rfl | hx
    · split <;> omega
    · obtain ⟨i, _, rfl⟩ := List.mem_map.1 hx
      refine gr_bd (fun a => ?_) _ _ _ _ _ ⟨Int.le_refl _, by omega⟩
      have b1 := getD_bd (ih 0) (by omega) a
      have b2 := getD_bd (ih 0) (by omega) (i + 1 - a)
      have b3 := getD_bd (ih (belowN kind depth st (g + 1))) (by omega) (i + 1)
      have b4 := moreZ_le st
      unfold valZ
      repeat' split
      all_goals omega
theorem lvl_small (kind depth : Nat) : ∀ h st, h ≤ 6 → SmallL (lvl kind depth h st) := fun h st hh x hx => by
  have h1 := lvl_bd kind depth h st x hx
  have h2 : 2 ^ (h + 2) = 4 * 2 ^ h := by rw [Nat.pow_add]; omega
  rw [h2] at h1
  have := pow_le6 hh
  omega
theorem bestZ_one (first low low2 : List Int) (more : Int) (g k : Nat) : bestZ 1 first low more g k = bestZ 1 first low2 more g k := by
  unfold bestZ
  congr 1
theorem lvl_get0 (kind depth h st : Nat) : (lvl kind depth h st)[0]? = some (if kind = 1 then 1 else 0) := by
  cases h with
  | zero => unfold lvl; split <;> rfl
  | succ g => rfl
theorem lvl_get1 (kind depth st k : Nat) (h0 : k ≠ 0) (hk : k < 2 ^ 0 + 1) : (lvl kind depth 0 st)[k]? = some (if kind = 1 then 0 else moreZ st) := by
  have : k = 1 := by omega
  subst this
  unfold lvl; split <;> rfl
theorem lvl_getS (kind depth g st k : Nat) (h0 : k ≠ 0) (hk : k < 2 ^ (g + 1) + 1) : (lvl kind depth (g + 1) st)[k]? = some (bestZ kind (lvl kind depth g 0) (lvl kind depth g (belowN kind depth st (g + 1))) (moreZ st) g k).1 := by
  obtain ⟨i, rfl⟩ : ∃ i, k = i + 1 := ⟨k - 1, by omega⟩
  rw [lvl, List.getElem?_cons_succ, List.getElem?_map, List.getElem?_range (by omega)]; rfl
def ntR (kind depth : Nat) (p : Nat → Nat) : Nat → List Int := fun s => if s < statesN kind then fillL (fullZ kind depth s) (p s) else []
theorem ntR_row (kind depth : Nat) (p : Nat → Nat) (s g : Nat) (hs : s < statesN kind) (hg : g ≤ depth) (hp : off (g + 1) ≤ p s) : row (ntR kind depth p) s g = lvl kind depth g s := by
  unfold row ntR; rw [if_pos hs]; exact fillL_row kind depth s (p s) g hg hp
theorem ntR_len (kind depth : Nat) (p : Nat → Nat) (s g : Nat) (hs : s < statesN kind) (hg : g ≤ depth) : off g + 2 ^ g + 1 ≤ (ntR kind depth p s).length := by
  unfold ntR; rw [if_pos hs, fillL_length, fullZ_length]
  have := off_mono (show g + 1 ≤ depth + 1 by omega)
  rw [off_succ] at this; omega
theorem fill_len (kind depth st p : Nat) : off (depth + 1) = (fillL (fullZ kind depth st) p).length := by rw [fillL_length, fullZ_length]
theorem nt_row_1_0 (E : EqT) (depth h : Nat) (hh : h ≤ depth) (hd : depth ≤ 6) (K : K) :
    ∀ (d k n : Nat) (p : Nat → Nat) (hp : ∀ s, s ≠ 0 → off h ≤ p s), k + d = 2 ^ h + 1 → d + 60 ≤ n → p 0 = off h + k →
      (∀ j, K (.exit 6) (mkJ 116 [(1, .pt 0 0 0 0 0), (3, .pt 1 0 0 0 0), (6, .v (.int .i64 h)), (46, .v (.int .i64 (depth + 1 : Nat))), (47, .v (.int .i64 h)), (53, .v (.int .i64 (statesN 1))), (54, .v (.int .i64 (0 : Nat)))] j)
        (ntHp 1 depth (fun s => if s = 0 then off h + (2 ^ h + 1) else p s)) []) →
      loopF (run Go.Proofs.Try.prog E (envL Go.Proofs.Try.prog ntEnv) n) 0 0 (loopB Go.Proofs.Try.prog 46 3)
        (mkT 116 [(1, .pt 0 0 0 0 0), (3, .pt 1 0 0 0 0), (6, .v (.int .i64 h)), (7, .v (.int .i64 (0 : Nat))), (8, .sl (2 + 0) 0 1 (off h) (2 ^ h + 1)), (46, .v (.int .i64 (depth + 1 : Nat))), (47, .v (.int .i64 h)), (53, .v (.int .i64 (statesN 1))), (54, .v (.int .i64 (0 : Nat))), (62, .v (.int .i64 (2 ^ h + 1 : Nat))), (63, .v (.int .i64 k))])
        (ntHp 1 depth p) [] K := by
  intro d
  have hp6 := pow_le6 (show h ≤ 6 by omega)
  have ho := off_le6 (show h ≤ 6 by omega)
  induction d with
  | zero =>
    intro k n p hp hi hn hpk hK
    obtain ⟨n, rfl⟩ : ∃ m, n = m + 60 := ⟨n - 60, by omega⟩
    have e : (fun s => if s = 0 then off h + (2 ^ h + 1) else p s) = p := by
      funext s; split
      · rename_i hs; subst hs; omega
      · rfl
    rw [e] at hK
    conv => whnf
    refine cndK_intro (fun h => ?_) (fun h => ?_)
    · exfalso
      simp only [decide_eq_true_eq] at h
      omega
    · conv => whnf
      exact useJ hK rfl
  | succ d ih =>
    intro k n p hp hi hn hpk hK
    obtain ⟨n, rfl⟩ : ∃ m, n = m + 60 := ⟨n - 60, by omega⟩
    have ek : IntKind.i64.wrap ((k : Int) + 1) = ((k + 1 : Nat) : Int) := by rw [wrap64 (by omega) (by omega)]; omega
    conv => whnf
    refine cndK_intro (fun h1 => ?_) (fun h1 => ?_)
    rotate_left
    · exfalso
      simp only [decide_eq_false_iff_not] at h1
      omega
    have hK2 : ∀ j, K (.exit 6) (mkJ 116 [(1, .pt 0 0 0 0 0), (3, .pt 1 0 0 0 0), (6, .v (.int .i64 h)), (46, .v (.int .i64 (depth + 1 : Nat))), (47, .v (.int .i64 h)), (53, .v (.int .i64 (statesN 1))), (54, .v (.int .i64 (0 : Nat)))] j)
        (ntHp 1 depth (fun s => if s = 0 then off h + (2 ^ h + 1) else (fun s => if s = 0 then p s + 1 else p s) s)) [] := fun j => by
      have := hK j
      have e : (fun s => if s = 0 then off h + (2 ^ h + 1) else (fun s => if s = 0 then p s + 1 else p s) s) = (fun s => if s = 0 then off h + (2 ^ h + 1) else p s) := by
        funext s; split <;> simp_all
      rw [e]; exact this
    have next := ih (k + 1) (n + 59) (fun s => if s = 0 then p s + 1 else p s) (fun s hs => by simp [hs]; exact hp s hs) (by omega) (by omega) (by simp [hpk]; omega) hK2
    clear hK hK2 ih
    have hkb : k < 2 ^ h + 1 := by omega
    obtain ⟨ov, hov⟩ := nt_get 1 depth 0 h k (p 0) hh hkb
    conv => whnf
    refine cndK_intro (fun h2 => ?_) (fun h2 => ?_)
    · have hk0 : k = 0 := by simp at h2; omega
      have hv : (lvl 1 depth h 0)[k]? = some (if 1 = 1 then 1 else 0) := by rw [hk0]; exact lvl_get0 1 depth h 0
      conv => whnf
      try (rw [h2]; conv => whnf)
      refine ⟨⟨by omega, by omega⟩, ?_⟩
      conv => whnf
      refine optK_intro _ hov ?_
      conv => whnf
      rw [ek]
      refine wk_mask [false, true, false, true, false, false, true, true, true, false, false, false, false, false, false, false, false, false, false, false, false, false, false, false, false, false, false, false, false, false, false, false, false, false, false, false, false, false, false, false, false, false, false, false, false, false, true, true, false, false, false, false, false, true, true, false, false, false, false, false, false, false, true, true] _ rfl ?_
      first | rw [nt_set 1 depth 0 h k (p 0) hpk hh hkb 1 hv] | rw [nt_set 1 depth 0 h k (p 0) hpk hh hkb 0 hv] | rw [nt_set 1 depth 0 h k (p 0) hpk hh hkb (moreZ 0) hv]
      exact next
    · have hk0 : k ≠ 0 := by simp at h2; omega
      conv => whnf
      try (rw [h2]; conv => whnf)
      refine cndK_intro (fun h3 => ?_) (fun h3 => ?_)
      · have hh0 : h = 0 := by simp at h3; omega
        have hv : (lvl 1 depth h 0)[k]? = some (if 1 = 1 then 0 else moreZ 0) := by
          have hkb2 := hkb
          rw [hh0] at hkb2 ⊢; exact lvl_get1 1 depth 0 k hk0 hkb2
        conv => whnf
        repeat (refine ⟨by rw [ints_length, fillL_length, fullZ_length]; omega, ?_⟩; conv => whnf)
        try (refine ⟨_, morep_pure _ 0 (by decide), ?_⟩; conv => whnf)
        refine ⟨⟨by omega, by omega⟩, ?_⟩
        conv => whnf
        refine optK_intro _ hov ?_
        conv => whnf
        rw [ek]
        refine wk_mask [false, true, false, true, false, false, true, true, true, false, false, false, false, false, false, false, false, false, false, false, false, false, false, false, false, false, false, false, false, false, false, false, false, false, false, false, false, false, false, false, false, false, false, false, false, false, true, true, false, false, false, false, false, true, true, false, false, false, false, false, false, false, true, true] _ rfl ?_
        first | rw [nt_set 1 depth 0 h k (p 0) hpk hh hkb 1 hv] | rw [nt_set 1 depth 0 h k (p 0) hpk hh hkb 0 hv] | rw [nt_set 1 depth 0 h k (p 0) hpk hh hkb (moreZ 0) hv]
        exact next
      · have hh0 : h ≠ 0 := by simp at h3; omega
        obtain ⟨g, rfl⟩ : ∃ g, h = g + 1 := ⟨h - 1, by omega⟩
        conv => whnf
        try (rw [h3]; conv => whnf)
        repeat (refine ⟨by rw [ints_length, fillL_length, fullZ_length]; omega, ?_⟩; conv => whnf)
        repeat rw [ints_full (fill_len 1 depth _ _)]
        have r0 : row (ntR 1 depth p) 0 g = lvl 1 depth g 0 := ntR_row 1 depth p 0 g (by decide) (by omega) (by first | exact hp 0 (by decide) | omega)
        have hbv : (lvl 1 depth (g + 1) 0)[k]? = some (bestZ 1 (row (ntR 1 depth p) 0 g) (row (ntR 1 depth p) (belowN 1 depth 0 (g + 1)) g) (moreZ 0) g k).1 := by
          rw [lvl_getS 1 depth g 0 k hk0 hkb, r0]
          first
            | rw [bestZ_one]; done
            | (rw [ntR_row 1 depth p (belowN 1 depth 0 (g + 1)) g (by first | exact (show 1 < 2 by decide) | exact belowN_lt _ _ _ _ (by decide)) (by omega)
                (by
                  by_cases he : belowN 1 depth 0 (g + 1) = 0
                  · rw [he, hpk]; omega
                  · exact hp _ he)]; done)
            | (rw [bestZ_one 
                (lvl 1 depth g 0) _ (row (ntR 1 depth p) (belowN 1 depth 0 (g + 1)) g)]; done)
        refine ⟨_, bestp_pure 1 depth (statesN 1) (ntR 1 depth p) 0 g k (by decide) hh hd (ntR_len 1 depth p 0 g (by decide) (by omega))
          (fun hne => ntR_len 1 depth p _ g (by first | exact absurd rfl hne | exact (by decide : 1 < 2) | exact belowN_lt _ _ _ _ (by decide)) (by omega)) (by rw [r0]; exact lvl_small 1 depth g 0 (by omega)) (by omega), ?_⟩
        conv => whnf
        refine ⟨⟨by omega, by omega⟩, ?_⟩
        conv => whnf
        refine optK_intro _ hov ?_
        conv => whnf
        rw [ek]
        refine wk_mask [false, true, false, true, false, false, true, true, true, false, false, false, false, false, false, false, false, false, false, false, false, false, false, false, false, false, false, false, false, false, false, false, false, false, false, false, false, false, false, false, false, false, false, false, false, false, true, true, false, false, false, false, false, true, true, false, false, false, false, false, false, false, true, true] _ rfl ?_
        rw [nt_set 1 depth 0 (g + 1) k (p 0) hpk hh hkb _ hbv]
        exact next
theorem nt_row_2_0 (E : EqT) (depth h : Nat) (hh : h ≤ depth) (hd : depth ≤ 6) (K : K) :
    ∀ (d k n : Nat) (p : Nat → Nat) (hp : ∀ s, s ≠ 0 → off h ≤ p s), k + d = 2 ^ h + 1 → d + 60 ≤ n → p 0 = off h + k →
      (∀ j, K (.exit 6) (mkJ 116 [(1, .pt 0 0 0 0 0), (3, .pt 1 0 0 0 0), (6, .v (.int .i64 h)), (46, .v (.int .i64 (depth + 1 : Nat))), (47, .v (.int .i64 h)), (53, .v (.int .i64 (statesN 2))), (54, .v (.int .i64 (0 : Nat)))] j)
        (ntHp 2 depth (fun s => if s = 0 then off h + (2 ^ h + 1) else p s)) []) →
      loopF (run Go.Proofs.Try.prog E (envL Go.Proofs.Try.prog ntEnv) n) 0 0 (loopB Go.Proofs.Try.prog 46 3)
        (mkT 116 [(1, .pt 0 0 0 0 0), (3, .pt 1 0 0 0 0), (6, .v (.int .i64 h)), (7, .v (.int .i64 (0 : Nat))), (8, .sl (2 + 0) 0 1 (off h) (2 ^ h + 1)), (46, .v (.int .i64 (depth + 1 : Nat))), (47, .v (.int .i64 h)), (53, .v (.int .i64 (statesN 2))), (54, .v (.int .i64 (0 : Nat))), (62, .v (.int .i64 (2 ^ h + 1 : Nat))), (63, .v (.int .i64 k))])
        (ntHp 2 depth p) [] K := by
  intro d
  have hp6 := pow_le6 (show h ≤ 6 by omega)
  have ho := off_le6 (show h ≤ 6 by omega)
  induction d with
  | zero =>
    intro k n p hp hi hn hpk hK
    obtain ⟨n, rfl⟩ : ∃ m, n = m + 60 := ⟨n - 60, by omega⟩
    have e : (fun s => if s = 0 then off h + (2 ^ h + 1) else p s) = p := by
      funext s; split
      · rename_i hs; subst hs; omega
      · rfl
    rw [e] at hK
    conv => whnf
    refine cndK_intro (fun h => ?_) (fun h => ?_)
    · exfalso
      simp only [decide_eq_true_eq] at h
      omega
    · conv => whnf
      exact useJ hK rfl
  | succ d ih =>
    intro k n p hp hi hn hpk hK
    obtain ⟨n, rfl⟩ : ∃ m, n = m + 60 := ⟨n - 60, by omega⟩
    have ek : IntKind.i64.wrap ((k : Int) + 1) = ((k + 1 : Nat) : Int) := by rw [wrap64 (by omega) (by omega)]; omega
    conv => whnf
    refine cndK_intro (fun h1 => ?_) (fun h1 => ?_)
    rotate_left
    · exfalso
      simp only [decide_eq_false_iff_not] at h1
      omega
    have hK2 : ∀ j, K (.exit 6) (mkJ 116 [(1, .pt 0 0 0 0 0), (3, .pt 1 0 0 0 0), (6, .v (.int .i64 h)), (46, .v (.int .i64 (depth + 1 : Nat))), (47, .v (.int .i64 h)), (53, .v (.int .i64 (statesN 2))), (54, .v (.int .i64 (0 : Nat)))] j)
        (ntHp 2 depth (fun s => if s = 0 then off h + (2 ^ h + 1) else (fun s => if s = 0 then p s + 1 else p s) s)) [] := fun j => by
      have := hK j
      have e : (fun s => if s = 0 then off h + (2 ^ h + 1) else (fun s => if s = 0 then p s + 1 else p s) s) = (fun s => if s = 0 then off h + (2 ^ h + 1) else p s) := by
        funext s; split <;> simp_all
      rw [e]; exact this
    have next := ih (k + 1) (n + 59) (fun s => if s = 0 then p s + 1 else p s) (fun s hs => by simp [hs]; exact hp s hs) (by omega) (by omega) (by simp [hpk]; omega) hK2
    clear hK hK2 ih
    have hkb : k < 2 ^ h + 1 := by omega
    obtain ⟨ov, hov⟩ := nt_get 2 depth 0 h k (p 0) hh hkb
    conv => whnf
    refine cndK_intro (fun h2 => ?_) (fun h2 => ?_)
    · have hk0 : k = 0 := by simp at h2; omega
      have hv : (lvl 2 depth h 0)[k]? = some (if 2 = 1 then 1 else 0) := by rw [hk0]; exact lvl_get0 2 depth h 0
      conv => whnf
      try (rw [h2]; conv => whnf)
      refine ⟨⟨by omega, by omega⟩, ?_⟩
      conv => whnf
      refine optK_intro _ hov ?_
      conv => whnf
      rw [ek]
      refine wk_mask [false, true, false, true, false, false, true, true, true, false, false, false, false, false, false, false, false, false, false, false, false, false, false, false, false, false, false, false, false, false, false, false, false, false, false, false, false, false, false, false, false, false, false, false, false, false, true, true, false, false, false, false, false, true, true, false, false, false, false, false, false, false, true, true] _ rfl ?_
      first | rw [nt_set 2 depth 0 h k (p 0) hpk hh hkb 1 hv] | rw [nt_set 2 depth 0 h k (p 0) hpk hh hkb 0 hv] | rw [nt_set 2 depth 0 h k (p 0) hpk hh hkb (moreZ 0) hv]
      exact next
    · have hk0 : k ≠ 0 := by simp at h2; omega
      conv => whnf
      try (rw [h2]; conv => whnf)
      refine cndK_intro (fun h3 => ?_) (fun h3 => ?_)
      · have hh0 : h = 0 := by simp at h3; omega
        have hv : (lvl 2 depth h 0)[k]? = some (if 2 = 1 then 0 else moreZ 0) := by
          have hkb2 := hkb
          rw [hh0] at hkb2 ⊢; exact lvl_get1 2 depth 0 k hk0 hkb2
        conv => whnf
        repeat (refine ⟨by rw [ints_length, fillL_length, fullZ_length]; omega, ?_⟩; conv => whnf)
        try (refine ⟨_, morep_pure _ 0 (by decide), ?_⟩; conv => whnf)
        refine ⟨⟨by omega, by omega⟩, ?_⟩
        conv => whnf
        refine optK_intro _ hov ?_
        conv => whnf
        rw [ek]
        refine wk_mask [false, true, false, true, false, false, true, true, true, false, false, false, false, false, false, false, false, false, false, false, false, false, false, false, false, false, false, false, false, false, false, false, false, false, false, false, false, false, false, false, false, false, false, false, false, false, true, true, false, false, false, false, false, true, true, false, false, false, false, false, false, false, true, true] _ rfl ?_
        first | rw [nt_set 2 depth 0 h k (p 0) hpk hh hkb 1 hv] | rw [nt_set 2 depth 0 h k (p 0) hpk hh hkb 0 hv] | rw [nt_set 2 depth 0 h k (p 0) hpk hh hkb (moreZ 0) hv]
        exact next
      · have hh0 : h ≠ 0 := by simp at h3; omega
        obtain ⟨g, rfl⟩ : ∃ g, h = g + 1 := ⟨h - 1, by omega⟩
        conv => whnf
        try (rw [h3]; conv => whnf)
        repeat (refine ⟨by rw [ints_length, fillL_length, fullZ_length]; omega, ?_⟩; conv => whnf)
        repeat rw [ints_full (fill_len 2 depth _ _)]
        have r0 : row (ntR 2 depth p) 0 g = lvl 2 depth g 0 := ntR_row 2 depth p 0 g (by decide) (by omega) (by first | exact hp 0 (by decide) | omega)
        have hbv : (lvl 2 depth (g + 1) 0)[k]? = some (bestZ 2 (row (ntR 2 depth p) 0 g) (row (ntR 2 depth p) (belowN 2 depth 0 (g + 1)) g) (moreZ 0) g k).1 := by
          rw [lvl_getS 2 depth g 0 k hk0 hkb, r0]
          first
            | rw [bestZ_one]; done
            | (rw [ntR_row 2 depth p (belowN 2 depth 0 (g + 1)) g (by first | exact (show 1 < 2 by decide) | exact belowN_lt _ _ _ _ (by decide)) (by omega)
                (by
                  by_cases he : belowN 2 depth 0 (g + 1) = 0
                  · rw [he, hpk]; omega
                  · exact hp _ he)]; done)
            | (rw [bestZ_one 
                (lvl 1 depth g 0) _ (row (ntR 1 depth p) (belowN 1 depth 0 (g + 1)) g)]; done)
        refine ⟨_, bestp_pure 2 depth (statesN 2) (ntR 2 depth p) 0 g k (by decide) hh hd (ntR_len 2 depth p 0 g (by decide) (by omega))
          (fun hne => ntR_len 2 depth p _ g (by first | exact absurd rfl hne | exact (by decide : 1 < 2) | exact belowN_lt _ _ _ _ (by decide)) (by omega)) (by rw [r0]; exact lvl_small 2 depth g 0 (by omega)) (by omega), ?_⟩
        conv => whnf
        refine ⟨⟨by omega, by omega⟩, ?_⟩
        conv => whnf
        refine optK_intro _ hov ?_
        conv => whnf
        rw [ek]
        refine wk_mask [false, true, false, true, false, false, true, true, true, false, false, false, false, false, false, false, false, false, false, false, false, false, false, false, false, false, false, false, false, false, false, false, false, false, false, false, false, false, false, false, false, false, false, false, false, false, true, true, false, false, false, false, false, true, true, false, false, false, false, false, false, false, true, true] _ rfl ?_
        rw [nt_set 2 depth 0 (g + 1) k (p 0) hpk hh hkb _ hbv]
        exact next
theorem nt_row_2_1 (E : EqT) (depth h : Nat) (hh : h ≤ depth) (hd : depth ≤ 6) (K : K) :
    ∀ (d k n : Nat) (p : Nat → Nat) (hp : ∀ s, s ≠ 1 → off h ≤ p s), k + d = 2 ^ h + 1 → d + 60 ≤ n → p 1 = off h + k →
      (∀ j, K (.exit 6) (mkJ 116 [(1, .pt 0 0 0 0 0), (3, .pt 1 0 0 0 0), (6, .v (.int .i64 h)), (46, .v (.int .i64 (depth + 1 : Nat))), (47, .v (.int .i64 h)), (53, .v (.int .i64 (statesN 2))), (54, .v (.int .i64 (1 : Nat)))] j)
        (ntHp 2 depth (fun s => if s = 1 then off h + (2 ^ h + 1) else p s)) []) →
      loopF (run Go.Proofs.Try.prog E (envL Go.Proofs.Try.prog ntEnv) n) 0 0 (loopB Go.Proofs.Try.prog 46 3)
        (mkT 116 [(1, .pt 0 0 0 0 0), (3, .pt 1 0 0 0 0), (6, .v (.int .i64 h)), (7, .v (.int .i64 (1 : Nat))), (8, .sl (2 + 1) 0 1 (off h) (2 ^ h + 1)), (46, .v (.int .i64 (depth + 1 : Nat))), (47, .v (.int .i64 h)), (53, .v (.int .i64 (statesN 2))), (54, .v (.int .i64 (1 : Nat))), (62, .v (.int .i64 (2 ^ h + 1 : Nat))), (63, .v (.int .i64 k))])
        (ntHp 2 depth p) [] K := by
  intro d
  have hp6 := pow_le6 (show h ≤ 6 by omega)
  have ho := off_le6 (show h ≤ 6 by omega)
  induction d with
  | zero =>
    intro k n p hp hi hn hpk hK
    obtain ⟨n, rfl⟩ : ∃ m, n = m + 60 := ⟨n - 60, by omega⟩
    have e : (fun s => if s = 1 then off h + (2 ^ h + 1) else p s) = p := by
      funext s; split
      · rename_i hs; subst hs; omega
      · rfl
    rw [e] at hK
    conv => whnf
    refine cndK_intro (fun h => ?_) (fun h => ?_)
    · exfalso
      simp only [decide_eq_true_eq] at h
      omega
    · conv => whnf
      exact useJ hK rfl
  | succ d ih =>
    intro k n p hp hi hn hpk hK
    obtain ⟨n, rfl⟩ : ∃ m, n = m + 60 := ⟨n - 60, by omega⟩
    have ek : IntKind.i64.wrap ((k : Int) + 1) = ((k + 1 : Nat) : Int) := by rw [wrap64 (by omega) (by omega)]; omega
    conv => whnf
    refine cndK_intro (fun h1 => ?_) (fun h1 => ?_)
    rotate_left
    · exfalso
      simp only [decide_eq_false_iff_not] at h1
      omega
    have hK2 : ∀ j, K (.exit 6) (mkJ 116 [(1, .pt 0 0 0 0 0), (3, .pt 1 0 0 0 0), (6, .v (.int .i64 h)), (46, .v (.int .i64 (depth + 1 : Nat))), (47, .v (.int .i64 h)), (53, .v (.int .i64 (statesN 2))), (54, .v (.int .i64 (1 : Nat)))] j)
        (ntHp 2 depth (fun s => if s = 1 then off h + (2 ^ h + 1) else (fun s => if s = 1 then p s + 1 else p s) s)) [] := fun j => by
      have := hK j
      have e : (fun s => if s = 1 then off h + (2 ^ h + 1) else (fun s => if s = 1 then p s + 1 else p s) s) = (fun s => if s = 1 then off h + (2 ^ h + 1) else p s) := by
        funext s; split <;> simp_all
      rw [e]; exact this
    have next := ih (k + 1) (n + 59) (fun s => if s = 1 then p s + 1 else p s) (fun s hs => by simp [hs]; exact hp s hs) (by omega) (by omega) (by simp [hpk]; omega) hK2
    clear hK hK2 ih
    have hkb : k < 2 ^ h + 1 := by omega
    obtain ⟨ov, hov⟩ := nt_get 2 depth 1 h k (p 1) hh hkb
    conv => whnf
    refine cndK_intro (fun h2 => ?_) (fun h2 => ?_)
    · have hk0 : k = 0 := by simp at h2; omega
      have hv : (lvl 2 depth h 1)[k]? = some (if 2 = 1 then 1 else 0) := by rw [hk0]; exact lvl_get0 2 depth h 1
      conv => whnf
      try (rw [h2]; conv => whnf)
      refine ⟨⟨by omega, by omega⟩, ?_⟩
      conv => whnf
      refine optK_intro _ hov ?_
      conv => whnf
      rw [ek]
      refine wk_mask [false, true, false, true, false, false, true, true, true, false, false, false, false, false, false, false, false, false, false, false, false, false, false, false, false, false, false, false, false, false, false, false, false, false, false, false, false, false, false, false, false, false, false, false, false, false, true, true, false, false, false, false, false, true, true, false, false, false, false, false, false, false, true, true] _ rfl ?_
      first | rw [nt_set 2 depth 1 h k (p 1) hpk hh hkb 1 hv] | rw [nt_set 2 depth 1 h k (p 1) hpk hh hkb 0 hv] | rw [nt_set 2 depth 1 h k (p 1) hpk hh hkb (moreZ 1) hv]
      exact next
    · have hk0 : k ≠ 0 := by simp at h2; omega
      conv => whnf
      try (rw [h2]; conv => whnf)
      refine cndK_intro (fun h3 => ?_) (fun h3 => ?_)
      · have hh0 : h = 0 := by simp at h3; omega
        have hv : (lvl 2 depth h 1)[k]? = some (if 2 = 1 then 0 else moreZ 1) := by
          have hkb2 := hkb
          rw [hh0] at hkb2 ⊢; exact lvl_get1 2 depth 1 k hk0 hkb2
        conv => whnf
        repeat (refine ⟨by rw [ints_length, fillL_length, fullZ_length]; omega, ?_⟩; conv => whnf)
        try (refine ⟨_, morep_pure _ 1 (by decide), ?_⟩; conv => whnf)
        refine ⟨⟨by omega, by omega⟩, ?_⟩
        conv => whnf
        refine optK_intro _ hov ?_
        conv => whnf
        rw [ek]
        refine wk_mask [false, true, false, true, false, false, true, true, true, false, false, false, false, false, false, false, false, false, false, false, false, false, false, false, false, false, false, false, false, false, false, false, false, false, false, false, false, false, false, false, false, false, false, false, false, false, true, true, false, false, false, false, false, true, true, false, false, false, false, false, false, false, true, true] _ rfl ?_
        first | rw [nt_set 2 depth 1 h k (p 1) hpk hh hkb 1 hv] | rw [nt_set 2 depth 1 h k (p 1) hpk hh hkb 0 hv] | rw [nt_set 2 depth 1 h k (p 1) hpk hh hkb (moreZ 1) hv]
        exact next
      · have hh0 : h ≠ 0 := by simp at h3; omega
        obtain ⟨g, rfl⟩ : ∃ g, h = g + 1 := ⟨h - 1, by omega⟩
        conv => whnf
        try (rw [h3]; conv => whnf)
        repeat (refine ⟨by rw [ints_length, fillL_length, fullZ_length]; omega, ?_⟩; conv => whnf)
        repeat rw [ints_full (fill_len 2 depth _ _)]
        have r0 : row (ntR 2 depth p) 0 g = lvl 2 depth g 0 := ntR_row 2 depth p 0 g (by decide) (by omega) (by first | exact hp 0 (by decide) | omega)
        have hbv : (lvl 2 depth (g + 1) 1)[k]? = some (bestZ 2 (row (ntR 2 depth p) 0 g) (row (ntR 2 depth p) (belowN 2 depth 1 (g + 1)) g) (moreZ 1) g k).1 := by
          rw [lvl_getS 2 depth g 1 k hk0 hkb, r0]
          first
            | rw [bestZ_one]; done
            | (rw [ntR_row 2 depth p (belowN 2 depth 1 (g + 1)) g (by first | exact (show 1 < 2 by decide) | exact belowN_lt _ _ _ _ (by decide)) (by omega)
                (by
                  by_cases he : belowN 2 depth 1 (g + 1) = 1
                  · rw [he, hpk]; omega
                  · exact hp _ he)]; done)
            | (rw [bestZ_one 
                (lvl 1 depth g 0) _ (row (ntR 1 depth p) (belowN 1 depth 0 (g + 1)) g)]; done)
        refine ⟨_, bestp_pure 2 depth (statesN 2) (ntR 2 depth p) 1 g k (by decide) hh hd (ntR_len 2 depth p 0 g (by decide) (by omega))
          (fun hne => ntR_len 2 depth p _ g (by first | exact absurd rfl hne | exact (by decide : 1 < 2) | exact belowN_lt _ _ _ _ (by decide)) (by omega)) (by rw [r0]; exact lvl_small 2 depth g 0 (by omega)) (by omega), ?_⟩
        conv => whnf
        refine ⟨⟨by omega, by omega⟩, ?_⟩
        conv => whnf
        refine optK_intro _ hov ?_
        conv => whnf
        rw [ek]
        refine wk_mask [false, true, false, true, false, false, true, true, true, false, false, false, false, false, false, false, false, false, false, false, false, false, false, false, false, false, false, false, false, false, false, false, false, false, false, false, false, false, false, false, false, false, false, false, false, false, true, true, false, false, false, false, false, true, true, false, false, false, false, false, false, false, true, true] _ rfl ?_
        rw [nt_set 2 depth 1 (g + 1) k (p 1) hpk hh hkb _ hbv]
        exact next
theorem nt_row_3_0 (E : EqT) (depth h : Nat) (hh : h ≤ depth) (hd : depth ≤ 6) (K : K) :
    ∀ (d k n : Nat) (p : Nat → Nat) (hp : ∀ s, s ≠ 0 → off h ≤ p s), k + d = 2 ^ h + 1 → d + 60 ≤ n → p 0 = off h + k →
      (∀ j, K (.exit 6) (mkJ 116 [(1, .pt 0 0 0 0 0), (3, .pt 1 0 0 0 0), (6, .v (.int .i64 h)), (46, .v (.int .i64 (depth + 1 : Nat))), (47, .v (.int .i64 h)), (53, .v (.int .i64 (statesN 3))), (54, .v (.int .i64 (0 : Nat)))] j)
        (ntHp 3 depth (fun s => if s = 0 then off h + (2 ^ h + 1) else p s)) []) →
      loopF (run Go.Proofs.Try.prog E (envL Go.Proofs.Try.prog ntEnv) n) 0 0 (loopB Go.Proofs.Try.prog 46 3)
        (mkT 116 [(1, .pt 0 0 0 0 0), (3, .pt 1 0 0 0 0), (6, .v (.int .i64 h)), (7, .v (.int .i64 (0 : Nat))), (8, .sl (2 + 0) 0 1 (off h) (2 ^ h + 1)), (46, .v (.int .i64 (depth + 1 : Nat))), (47, .v (.int .i64 h)), (53, .v (.int .i64 (statesN 3))), (54, .v (.int .i64 (0 : Nat))), (62, .v (.int .i64 (2 ^ h + 1 : Nat))), (63, .v (.int .i64 k))])
        (ntHp 3 depth p) [] K := by
  intro d
  have hp6 := pow_le6 (show h ≤ 6 by omega)
  have ho := off_le6 (show h ≤ 6 by omega)
  induction d with
  | zero =>
    intro k n p hp hi hn hpk hK
    obtain ⟨n, rfl⟩ : ∃ m, n = m + 60 := ⟨n - 60, by omega⟩
    have e : (fun s => if s = 0 then off h + (2 ^ h + 1) else p s) = p := by
      funext s; split
      · rename_i hs; subst hs; omega
      · rfl
    rw [e] at hK
    conv => whnf
    refine cndK_intro (fun h => ?_) (fun h => ?_)
    · exfalso
      simp only [decide_eq_true_eq] at h
      omega
    · conv => whnf
      exact useJ hK rfl
  | succ d ih =>
    intro k n p hp hi hn hpk hK
    obtain ⟨n, rfl⟩ : ∃ m, n = m + 60 := ⟨n - 60, by omega⟩
    have ek : IntKind.i64.wrap ((k : Int) + 1) = ((k + 1 : Nat) : Int) := by rw [wrap64 (by omega) (by omega)]; omega
    conv => whnf
    refine cndK_intro (fun h1 => ?_) (fun h1 => ?_)
    rotate_left
    · exfalso
      simp only [decide_eq_false_iff_not] at h1
      omega
    have hK2 : ∀ j, K (.exit 6) (mkJ 116 [(1, .pt 0 0 0 0 0), (3, .pt 1 0 0 0 0), (6, .v (.int .i64 h)), (46, .v (.int .i64 (depth + 1 : Nat))), (47, .v (.int .i64 h)), (53, .v (.int .i64 (statesN 3))), (54, .v (.int .i64 (0 : Nat)))] j)
        (ntHp 3 depth (fun s => if s = 0 then off h + (2 ^ h + 1) else (fun s => if s = 0 then p s + 1 else p s) s)) [] := fun j => by
      have := hK j
      have e : (fun s => if s = 0 then off h + (2 ^ h + 1) else (fun s => if s = 0 then p s + 1 else p s) s) = (fun s => if s = 0 then off h + (2 ^ h + 1) else p s) := by
        funext s; split <;> simp_all
      rw [e]; exact this
    have next := ih (k + 1) (n + 59) (fun s => if s = 0 then p s + 1 else p s) (fun s hs => by simp [hs]; exact hp s hs) (by omega) (by omega) (by simp [hpk]; omega) hK2
    clear hK hK2 ih
    have hkb : k < 2 ^ h + 1 := by omega
    obtain ⟨ov, hov⟩ := nt_get 3 depth 0 h k (p 0) hh hkb
    conv => whnf
    refine cndK_intro (fun h2 => ?_) (fun h2 => ?_)
    · have hk0 : k = 0 := by simp at h2; omega
      have hv : (lvl 3 depth h 0)[k]? = some (if 3 = 1 then 1 else 0) := by rw [hk0]; exact lvl_get0 3 depth h 0
      conv => whnf
      try (rw [h2]; conv => whnf)
      refine ⟨⟨by omega, by omega⟩, ?_⟩
      conv => whnf
      refine optK_intro _ hov ?_
      conv => whnf
      rw [ek]
      refine wk_mask [false, true, false, true, false, false, true, true, true, false, false, false, false, false, false, false, false, false, false, false, false, false, false, false, false, false, false, false, false, false, false, false, false, false, false, false, false, false, false, false, false, false, false, false, false, false, true, true, false, false, false, false, false, true, true, false, false, false, false, false, false, false, true, true] _ rfl ?_
      first | rw [nt_set 3 depth 0 h k (p 0) hpk hh hkb 1 hv] | rw [nt_set 3 depth 0 h k (p 0) hpk hh hkb 0 hv] | rw [nt_set 3 depth 0 h k (p 0) hpk hh hkb (moreZ 0) hv]
      exact next
    · have hk0 : k ≠ 0 := by simp at h2; omega
      conv => whnf
      try (rw [h2]; conv => whnf)
      refine cndK_intro (fun h3 => ?_) (fun h3 => ?_)
      · have hh0 : h = 0 := by simp at h3; omega
        have hv : (lvl 3 depth h 0)[k]? = some (if 3 = 1 then 0 else moreZ 0) := by
          have hkb2 := hkb
          rw [hh0] at hkb2 ⊢; exact lvl_get1 3 depth 0 k hk0 hkb2
        conv => whnf
        repeat (refine ⟨by rw [ints_length, fillL_length, fullZ_length]; omega, ?_⟩; conv => whnf)
        try (refine ⟨_, morep_pure _ 0 (by decide), ?_⟩; conv => whnf)
        refine ⟨⟨by omega, by omega⟩, ?_⟩
        conv => whnf
        refine optK_intro _ hov ?_
        conv => whnf
        rw [ek]
        refine wk_mask [false, true, false, true, false, false, true, true, true, false, false, false, false, false, false, false, false, false, false, false, false, false, false, false, false, false, false, false, false, false, false, false, false, false, false, false, false, false, false, false, false, false, false, false, false, false, true, true, false, false, false, false, false, true, true, false, false, false, false, false, false, false, true, true] _ rfl ?_
        first | rw [nt_set 3 depth 0 h k (p 0) hpk hh hkb 1 hv] | rw [nt_set 3 depth 0 h k (p 0) hpk hh hkb 0 hv] | rw [nt_set 3 depth 0 h k (p 0) hpk hh hkb (moreZ 0) hv]
        exact next
      · have hh0 : h ≠ 0 := by simp at h3; omega
        obtain ⟨g, rfl⟩ : ∃ g, h = g + 1 := ⟨h - 1, by omega⟩
        conv => whnf
        try (rw [h3]; conv => whnf)
        repeat (refine ⟨by rw [ints_length, fillL_length, fullZ_length]; omega, ?_⟩; conv => whnf)
        repeat rw [ints_full (fill_len 3 depth _ _)]
        have r0 : row (ntR 3 depth p) 0 g = lvl 3 depth g 0 := ntR_row 3 depth p 0 g (by decide) (by omega) (by first | exact hp 0 (by decide) | omega)
        have hbv : (lvl 3 depth (g + 1) 0)[k]? = some (bestZ 3 (row (ntR 3 depth p) 0 g) (row (ntR 3 depth p) (belowN 3 depth 0 (g + 1)) g) (moreZ 0) g k).1 := by
          rw [lvl_getS 3 depth g 0 k hk0 hkb, r0]
          first
            | rw [bestZ_one]; done
            | (rw [ntR_row 3 depth p (belowN 3 depth 0 (g + 1)) g (by first | exact (show 1 < 2 by decide) | exact belowN_lt _ _ _ _ (by decide)) (by omega)
                (by
                  by_cases he : belowN 3 depth 0 (g + 1) = 0
                  · rw [he, hpk]; omega
                  · exact hp _ he)]; done)
            | (rw [bestZ_one 
                (lvl 1 depth g 0) _ (row (ntR 1 depth p) (belowN 1 depth 0 (g + 1)) g)]; done)
        refine ⟨_, bestp_pure 3 depth (statesN 3) (ntR 3 depth p) 0 g k (by decide) hh hd (ntR_len 3 depth p 0 g (by decide) (by omega))
          (fun hne => ntR_len 3 depth p _ g (by first | exact absurd rfl hne | exact (by decide : 1 < 2) | exact belowN_lt _ _ _ _ (by decide)) (by omega)) (by rw [r0]; exact lvl_small 3 depth g 0 (by omega)) (by omega), ?_⟩
        conv => whnf
        refine ⟨⟨by omega, by omega⟩, ?_⟩
        conv => whnf
        refine optK_intro _ hov ?_
        conv => whnf
        rw [ek]
        refine wk_mask [false, true, false, true, false, false, true, true, true, false, false, false, false, false, false, false, false, false, false, false, false, false, false, false, false, false, false, false, false, false, false, false, false, false, false, false, false, false, false, false, false, false, false, false, false, false, true, true, false, false, false, false, false, true, true, false, false, false, false, false, false, false, true, true] _ rfl ?_
        rw [nt_set 3 depth 0 (g + 1) k (p 0) hpk hh hkb _ hbv]
        exact next
theorem nt_row_3_1 (E : EqT) (depth h : Nat) (hh : h ≤ depth) (hd : depth ≤ 6) (K : K) :
    ∀ (d k n : Nat) (p : Nat → Nat) (hp : ∀ s, s ≠ 1 → off h ≤ p s), k + d = 2 ^ h + 1 → d + 60 ≤ n → p 1 = off h + k →
      (∀ j, K (.exit 6) (mkJ 116 [(1, .pt 0 0 0 0 0), (3, .pt 1 0 0 0 0), (6, .v (.int .i64 h)), (46, .v (.int .i64 (depth + 1 : Nat))), (47, .v (.int .i64 h)), (53, .v (.int .i64 (statesN 3))), (54, .v (.int .i64 (1 : Nat)))] j)
        (ntHp 3 depth (fun s => if s = 1 then off h + (2 ^ h + 1) else p s)) []) →
      loopF (run Go.Proofs.Try.prog E (envL Go.Proofs.Try.prog ntEnv) n) 0 0 (loopB Go.Proofs.Try.prog 46 3)
        (mkT 116 [(1, .pt 0 0 0 0 0), (3, .pt 1 0 0 0 0), (6, .v (.int .i64 h)), (7, .v (.int .i64 (1 : Nat))), (8, .sl (2 + 1) 0 1 (off h) (2 ^ h + 1)), (46, .v (.int .i64 (depth + 1 : Nat))), (47, .v (.int .i64 h)), (53, .v (.int .i64 (statesN 3))), (54, .v (.int .i64 (1 : Nat))), (62, .v (.int .i64 (2 ^ h + 1 : Nat))), (63, .v (.int .i64 k))])
        (ntHp 3 depth p) [] K := by
  intro d
  have hp6 := pow_le6 (show h ≤ 6 by omega)
  have ho := off_le6 (show h ≤ 6 by omega)
  induction d with
  | zero =>
    intro k n p hp hi hn hpk hK
    obtain ⟨n, rfl⟩ : ∃ m, n = m + 60 := ⟨n - 60, by omega⟩
    have e : (fun s => if s = 1 then off h + (2 ^ h + 1) else p s) = p := by
      funext s; split
      · rename_i hs; subst hs; omega
      · rfl
    rw [e] at hK
    conv => whnf
    refine cndK_intro (fun h => ?_) (fun h => ?_)
    · exfalso
      simp only [decide_eq_true_eq] at h
      omega
    · conv => whnf
      exact useJ hK rfl
  | succ d ih =>
    intro k n p hp hi hn hpk hK
    obtain ⟨n, rfl⟩ : ∃ m, n = m + 60 := ⟨n - 60, by omega⟩
    have ek : IntKind.i64.wrap ((k : Int) + 1) = ((k + 1 : Nat) : Int) := by rw [wrap64 (by omega) (by omega)]; omega
    conv => whnf
    refine cndK_intro (fun h1 => ?_) (fun h1 => ?_)
    rotate_left
    · exfalso
      simp only [decide_eq_false_iff_not] at h1
      omega
    have hK2 : ∀ j, K (.exit 6) (mkJ 116 [(1, .pt 0 0 0 0 0), (3, .pt 1 0 0 0 0), (6, .v (.int .i64 h)), (46, .v (.int .i64 (depth + 1 : Nat))), (47, .v (.int .i64 h)), (53, .v (.int .i64 (statesN 3))), (54, .v (.int .i64 (1 : Nat)))] j)
        (ntHp 3 depth (fun s => if s = 1 then off h + (2 ^ h + 1) else (fun s => if s = 1 then p s + 1 else p s) s)) [] := fun j => by
      have := hK j
      have e : (fun s => if s = 1 then off h + (2 ^ h + 1) else (fun s => if s = 1 then p s + 1 else p s) s) = (fun s => if s = 1 then off h + (2 ^ h + 1) else p s) := by
        funext s; split <;> simp_all
      rw [e]; exact this
    have next := ih (k + 1) (n + 59) (fun s => if s = 1 then p s + 1 else p s) (fun s hs => by simp [hs]; exact hp s hs) (by omega) (by omega) (by simp [hpk]; omega) hK2
    clear hK hK2 ih
    have hkb : k < 2 ^ h + 1 := by omega
    obtain ⟨ov, hov⟩ := nt_get 3 depth 1 h k (p 1) hh hkb
    conv => whnf
    refine cndK_intro (fun h2 => ?_) (fun h2 => ?_)
    · have hk0 : k = 0 := by simp at h2; omega
      have hv : (lvl 3 depth h 1)[k]? = some (if 3 = 1 then 1 else 0) := by rw [hk0]; exact lvl_get0 3 depth h 1
      conv => whnf
      try (rw [h2]; conv => whnf)
      refine ⟨⟨by omega, by omega⟩, ?_⟩
      conv => whnf
      refine optK_intro _ hov ?_
      conv => whnf
      rw [ek]
      refine wk_mask [false, true, false, true, false, false, true, true, true, false, false, false, false, false, false, false, false, false, false, false, false, false, false, false, false, false, false, false, false, false, false, false, false, false, false, false, false, false, false, false, false, false, false, false, false, false, true, true, false, false, false, false, false, true, true, false, false, false, false, false, false, false, true, true] _ rfl ?_
      first | rw [nt_set 3 depth 1 h k (p 1) hpk hh hkb 1 hv] | rw [nt_set 3 depth 1 h k (p 1) hpk hh hkb 0 hv] | rw [nt_set 3 depth 1 h k (p 1) hpk hh hkb (moreZ 1) hv]
      exact next
    · have hk0 : k ≠ 0 := by simp at h2; omega
      conv => whnf
      try (rw [h2]; conv => whnf)
      refine cndK_intro (fun h3 => ?_) (fun h3 => ?_)
      · have hh0 : h = 0 := by simp at h3; omega
        have hv : (lvl 3 depth h 1)[k]? = some (if 3 = 1 then 0 else moreZ 1) := by
          have hkb2 := hkb
          rw [hh0] at hkb2 ⊢; exact lvl_get1 3 depth 1 k hk0 hkb2
        conv => whnf
        repeat (refine ⟨by rw [ints_length, fillL_length, fullZ_length]; omega, ?_⟩; conv => whnf)
        try (refine ⟨_, morep_pure _ 1 (by decide), ?_⟩; conv => whnf)
        refine ⟨⟨by omega, by omega⟩, ?_⟩
        conv => whnf
        refine optK_intro _ hov ?_
        conv => whnf
        rw [ek]
        refine wk_mask [false, true, false, true, false, false, true, true, true, false, false, false, false, false, false, false, false, false, false, false, false, false, false, false, false, false, false, false, false, false, false, false, false, false, false, false, false, false, false, false, false, false, false, false, false, false, true, true, false, false, false, false, false, true, true, false, false, false, false, false, false, false, true, true] _ rfl ?_
        first | rw [nt_set 3 depth 1 h k (p 1) hpk hh hkb 1 hv] | rw [nt_set 3 depth 1 h k (p 1) hpk hh hkb 0 hv] | rw [nt_set 3 depth 1 h k (p 1) hpk hh hkb (moreZ 1) hv]
        exact next
      · have hh0 : h ≠ 0 := by simp at h3; omega
        obtain ⟨g, rfl⟩ : ∃ g, h = g + 1 := ⟨h - 1, by omega⟩
        conv => whnf
        try (rw [h3]; conv => whnf)
        repeat (refine ⟨by rw [ints_length, fillL_length, fullZ_length]; omega, ?_⟩; conv => whnf)
        repeat rw [ints_full (fill_len 3 depth _ _)]
        have r0 : row (ntR 3 depth p) 0 g = lvl 3 depth g 0 := ntR_row 3 depth p 0 g (by decide) (by omega) (by first | exact hp 0 (by decide) | omega)
        have hbv : (lvl 3 depth (g + 1) 1)[k]? = some (bestZ 3 (row (ntR 3 depth p) 0 g) (row (ntR 3 depth p) (belowN 3 depth 1 (g + 1)) g) (moreZ 1) g k).1 := by
          rw [lvl_getS 3 depth g 1 k hk0 hkb, r0]
          first
            | rw [bestZ_one]; done
            | (rw [ntR_row 3 depth p (belowN 3 depth 1 (g + 1)) g (by first | exact (show 1 < 2 by decide) | exact belowN_lt _ _ _ _ (by decide)) (by omega)
                (by
                  by_cases he : belowN 3 depth 1 (g + 1) = 1
                  · rw [he, hpk]; omega
                  · exact hp _ he)]; done)
            | (rw [bestZ_one 
                (lvl 1 depth g 0) _ (row (ntR 1 depth p) (belowN 1 depth 0 (g + 1)) g)]; done)
        refine ⟨_, bestp_pure 3 depth (statesN 3) (ntR 3 depth p) 1 g k (by decide) hh hd (ntR_len 3 depth p 0 g (by decide) (by omega))
          (fun hne => ntR_len 3 depth p _ g (by first | exact absurd rfl hne | exact (by decide : 1 < 2) | exact belowN_lt _ _ _ _ (by decide)) (by omega)) (by rw [r0]; exact lvl_small 3 depth g 0 (by omega)) (by omega), ?_⟩
        conv => whnf
        refine ⟨⟨by omega, by omega⟩, ?_⟩
        conv => whnf
        refine optK_intro _ hov ?_
        conv => whnf
        rw [ek]
        refine wk_mask [false, true, false, true, false, false, true, true, true, false, false, false, false, false, false, false, false, false, false, false, false, false, false, false, false, false, false, false, false, false, false, false, false, false, false, false, false, false, false, false, false, false, false, false, false, false, true, true, false, false, false, false, false, true, true, false, false, false, false, false, false, false, true, true] _ rfl ?_
        rw [nt_set 3 depth 1 (g + 1) k (p 1) hpk hh hkb _ hbv]
        exact next
theorem nt_row_3_2 (E : EqT) (depth h : Nat) (hh : h ≤ depth) (hd : depth ≤ 6) (K : K) :
    ∀ (d k n : Nat) (p : Nat → Nat) (hp : ∀ s, s ≠ 2 → off h ≤ p s), k + d = 2 ^ h + 1 → d + 60 ≤ n → p 2 = off h + k →
      (∀ j, K (.exit 6) (mkJ 116 [(1, .pt 0 0 0 0 0), (3, .pt 1 0 0 0 0), (6, .v (.int .i64 h)), (46, .v (.int .i64 (depth + 1 : Nat))), (47, .v (.int .i64 h)), (53, .v (.int .i64 (statesN 3))), (54, .v (.int .i64 (2 : Nat)))] j)
        (ntHp 3 depth (fun s => if s = 2 then off h + (2 ^ h + 1) else p s)) []) →
      loopF (run Go.Proofs.Try.prog E (envL Go.Proofs.Try.prog ntEnv) n) 0 0 (loopB Go.Proofs.Try.prog 46 3)
        (mkT 116 [(1, .pt 0 0 0 0 0), (3, .pt 1 0 0 0 0), (6, .v (.int .i64 h)), (7, .v (.int .i64 (2 : Nat))), (8, .sl (2 + 2) 0 1 (off h) (2 ^ h + 1)), (46, .v (.int .i64 (depth + 1 : Nat))), (47, .v (.int .i64 h)), (53, .v (.int .i64 (statesN 3))), (54, .v (.int .i64 (2 : Nat))), (62, .v (.int .i64 (2 ^ h + 1 : Nat))), (63, .v (.int .i64 k))])
        (ntHp 3 depth p) [] K := by
  intro d
  have hp6 := pow_le6 (show h ≤ 6 by omega)
  have ho := off_le6 (show h ≤ 6 by omega)
  induction d with
  | zero =>
    intro k n p hp hi hn hpk hK
    obtain ⟨n, rfl⟩ : ∃ m, n = m + 60 := ⟨n - 60, by omega⟩
    have e : (fun s => if s = 2 then off h + (2 ^ h + 1) else p s) = p := by
      funext s; split
      · rename_i hs; subst hs; omega
      · rfl
    rw [e] at hK
    conv => whnf
    refine cndK_intro (fun h => ?_) (fun h => ?_)
    · exfalso
      simp only [decide_eq_true_eq] at h
      omega
    · conv => whnf
      exact useJ hK rfl
  | succ d ih =>
    intro k n p hp hi hn hpk hK
    obtain ⟨n, rfl⟩ : ∃ m, n = m + 60 := ⟨n - 60, by omega⟩
    have ek : IntKind.i64.wrap ((k : Int) + 1) = ((k + 1 : Nat) : Int) := by rw [wrap64 (by omega) (by omega)]; omega
    conv => whnf
    refine cndK_intro (fun h1 => ?_) (fun h1 => ?_)
    rotate_left
    · exfalso
      simp only [decide_eq_false_iff_not] at h1
      omega
    have hK2 : ∀ j, K (.exit 6) (mkJ 116 [(1, .pt 0 0 0 0 0), (3, .pt 1 0 0 0 0), (6, .v (.int .i64 h)), (46, .v (.int .i64 (depth + 1 : Nat))), (47, .v (.int .i64 h)), (53, .v (.int .i64 (statesN 3))), (54, .v (.int .i64 (2 : Nat)))] j)
        (ntHp 3 depth (fun s => if s = 2 then off h + (2 ^ h + 1) else (fun s => if s = 2 then p s + 1 else p s) s)) [] := fun j => by
      have := hK j
      have e : (fun s => if s = 2 then off h + (2 ^ h + 1) else (fun s => if s = 2 then p s + 1 else p s) s) = (fun s => if s = 2 then off h + (2 ^ h + 1) else p s) := by
        funext s; split <;> simp_all
      rw [e]; exact this
    have next := ih (k + 1) (n + 59) (fun s => if s = 2 then p s + 1 else p s) (fun s hs => by simp [hs]; exact hp s hs) (by omega) (by omega) (by simp [hpk]; omega) hK2
    clear hK hK2 ih
    have hkb : k < 2 ^ h + 1 := by omega
    obtain ⟨ov, hov⟩ := nt_get 3 depth 2 h k (p 2) hh hkb
    conv => whnf
    refine cndK_intro (fun h2 => ?_) (fun h2 => ?_)
    · have hk0 : k = 0 := by simp at h2; omega
      have hv : (lvl 3 depth h 2)[k]? = some (if 3 = 1 then 1 else 0) := by rw [hk0]; exact lvl_get0 3 depth h 2
      conv => whnf
      try (rw [h2]; conv => whnf)
      refine ⟨⟨by omega, by omega⟩, ?_⟩
      conv => whnf
      refine optK_intro _ hov ?_
      conv => whnf
      rw [ek]
      refine wk_mask [false, true, false, true, false, false, true, true, true, false, false, false, false, false, false, false, false, false, false, false, false, false, false, false, false, false, false, false, false, false, false, false, false, false, false, false, false, false, false, false, false, false, false, false, false, false, true, true, false, false, false, false, false, true, true, false, false, false, false, false, false, false, true, true] _ rfl ?_
      first | rw [nt_set 3 depth 2 h k (p 2) hpk hh hkb 1 hv] | rw [nt_set 3 depth 2 h k (p 2) hpk hh hkb 0 hv] | rw [nt_set 3 depth 2 h k (p 2) hpk hh hkb (moreZ 2) hv]
      exact next
    · have hk0 : k ≠ 0 := by simp at h2; omega
      conv => whnf
      try (rw [h2]; conv => whnf)
      refine cndK_intro (fun h3 => ?_) (fun h3 => ?_)
      · have hh0 : h = 0 := by simp at h3; omega
        have hv : (lvl 3 depth h 2)[k]? = some (if 3 = 1 then 0 else moreZ 2) := by
          have hkb2 := hkb
          rw [hh0] at hkb2 ⊢; exact lvl_get1 3 depth 2 k hk0 hkb2
        conv => whnf
        repeat (refine ⟨by rw [ints_length, fillL_length, fullZ_length]; omega, ?_⟩; conv => whnf)
        try (refine ⟨_, morep_pure _ 2 (by decide), ?_⟩; conv => whnf)
        refine ⟨⟨by omega, by omega⟩, ?_⟩
        conv => whnf
        refine optK_intro _ hov ?_
        conv => whnf
        rw [ek]
        refine wk_mask [false, true, false, true, false, false, true, true, true, false, false, false, false, false, false, false, false, false, false, false, false, false, false, false, false, false, false, false, false, false, false, false, false, false, false, false, false, false, false, false, false, false, false, false, false, false, true, true, false, false, false, false, false, true, true, false, false, false, false, false, false, false, true, true] _ rfl ?_
        first | rw [nt_set 3 depth 2 h k (p 2) hpk hh hkb 1 hv] | rw [nt_set 3 depth 2 h k (p 2) hpk hh hkb 0 hv] | rw [nt_set 3 depth 2 h k (p 2) hpk hh hkb (moreZ 2) hv]
        exact next
      · have hh0 : h ≠ 0 := by simp at h3; omega
        obtain ⟨g, rfl⟩ : ∃ g, h = g + 1 := ⟨h - 1, by omega⟩
        conv => whnf
        try (rw [h3]; conv => whnf)
        repeat (refine ⟨by rw [ints_length, fillL_length, fullZ_length]; omega, ?_⟩; conv => whnf)
        repeat rw [ints_full (fill_len 3 depth _ _)]
        have r0 : row (ntR 3 depth p) 0 g = lvl 3 depth g 0 := ntR_row 3 depth p 0 g (by decide) (by omega) (by first | exact hp 0 (by decide) | omega)
        have hbv : (lvl 3 depth (g + 1) 2)[k]? = some (bestZ 3 (row (ntR 3 depth p) 0 g) (row (ntR 3 depth p) (belowN 3 depth 2 (g + 1)) g) (moreZ 2) g k).1 := by
          rw [lvl_getS 3 depth g 2 k hk0 hkb, r0]
          first
            | rw [bestZ_one]; done
            | (rw [ntR_row 3 depth p (belowN 3 depth 2 (g + 1)) g (by first | exact (show 1 < 2 by decide) | exact belowN_lt _ _ _ _ (by decide)) (by omega)
                (by
                  by_cases he : belowN 3 depth 2 (g + 1) = 2
                  · rw [he, hpk]; omega
                  · exact hp _ he)]; done)
            | (rw [bestZ_one 
                (lvl 1 depth g 0) _ (row (ntR 1 depth p) (belowN 1 depth 0 (g + 1)) g)]; done)
        refine ⟨_, bestp_pure 3 depth (statesN 3) (ntR 3 depth p) 2 g k (by decide) hh hd (ntR_len 3 depth p 0 g (by decide) (by omega))
          (fun hne => ntR_len 3 depth p _ g (by first | exact absurd rfl hne | exact (by decide : 1 < 2) | exact belowN_lt _ _ _ _ (by decide)) (by omega)) (by rw [r0]; exact lvl_small 3 depth g 0 (by omega)) (by omega), ?_⟩
        conv => whnf
        refine ⟨⟨by omega, by omega⟩, ?_⟩
        conv => whnf
        refine optK_intro _ hov ?_
        conv => whnf
        rw [ek]
        refine wk_mask [false, true, false, true, false, false, true, true, true, false, false, false, false, false, false, false, false, false, false, false, false, false, false, false, false, false, false, false, false, false, false, false, false, false, false, false, false, false, false, false, false, false, false, false, false, false, true, true, false, false, false, false, false, true, true, false, false, false, false, false, false, false, true, true] _ rfl ?_
        rw [nt_set 3 depth 2 (g + 1) k (p 2) hpk hh hkb _ hbv]
        exact next
theorem nt_row_3_3 (E : EqT) (depth h : Nat) (hh : h ≤ depth) (hd : depth ≤ 6) (K : K) :
    ∀ (d k n : Nat) (p : Nat → Nat) (hp : ∀ s, s ≠ 3 → off h ≤ p s), k + d = 2 ^ h + 1 → d + 60 ≤ n → p 3 = off h + k →
      (∀ j, K (.exit 6) (mkJ 116 [(1, .pt 0 0 0 0 0), (3, .pt 1 0 0 0 0), (6, .v (.int .i64 h)), (46, .v (.int .i64 (depth + 1 : Nat))), (47, .v (.int .i64 h)), (53, .v (.int .i64 (statesN 3))), (54, .v (.int .i64 (3 : Nat)))] j)
        (ntHp 3 depth (fun s => if s = 3 then off h + (2 ^ h + 1) else p s)) []) →
      loopF (run Go.Proofs.Try.prog E (envL Go.Proofs.Try.prog ntEnv) n) 0 0 (loopB Go.Proofs.Try.prog 46 3)
        (mkT 116 [(1, .pt 0 0 0 0 0), (3, .pt 1 0 0 0 0), (6, .v (.int .i64 h)), (7, .v (.int .i64 (3 : Nat))), (8, .sl (2 + 3) 0 1 (off h) (2 ^ h + 1)), (46, .v (.int .i64 (depth + 1 : Nat))), (47, .v (.int .i64 h)), (53, .v (.int .i64 (statesN 3))), (54, .v (.int .i64 (3 : Nat))), (62, .v (.int .i64 (2 ^ h + 1 : Nat))), (63, .v (.int .i64 k))])
        (ntHp 3 depth p) [] K := by
  intro d
  have hp6 := pow_le6 (show h ≤ 6 by omega)
  have ho := off_le6 (show h ≤ 6 by omega)
  induction d with
  | zero =>
    intro k n p hp hi hn hpk hK
    obtain ⟨n, rfl⟩ : ∃ m, n = m + 60 := ⟨n - 60, by omega⟩
    have e : (fun s => if s = 3 then off h + (2 ^ h + 1) else p s) = p := by
      funext s; split
      · rename_i hs; subst hs; omega
      · rfl
    rw [e] at hK
    conv => whnf
    refine cndK_intro (fun h => ?_) (fun h => ?_)
    · exfalso
      simp only [decide_eq_true_eq] at h
      omega
    · conv => whnf
      exact useJ hK rfl
  | succ d ih =>
    intro k n p hp hi hn hpk hK
    obtain ⟨n, rfl⟩ : ∃ m, n = m + 60 := ⟨n - 60, by omega⟩
    have ek : IntKind.i64.wrap ((k : Int) + 1) = ((k + 1 : Nat) : Int) := by rw [wrap64 (by omega) (by omega)]; omega
    conv => whnf
    refine cndK_intro (fun h1 => ?_) (fun h1 => ?_)
    rotate_left
    · exfalso
      simp only [decide_eq_false_iff_not] at h1
      omega
    have hK2 : ∀ j, K (.exit 6) (mkJ 116 [(1, .pt 0 0 0 0 0), (3, .pt 1 0 0 0 0), (6, .v (.int .i64 h)), (46, .v (.int .i64 (depth + 1 : Nat))), (47, .v (.int .i64 h)), (53, .v (.int .i64 (statesN 3))), (54, .v (.int .i64 (3 : Nat)))] j)
        (ntHp 3 depth (fun s => if s = 3 then off h + (2 ^ h + 1) else (fun s => if s = 3 then p s + 1 else p s) s)) [] := fun j => by
      have := hK j
      have e : (fun s => if s = 3 then off h + (2 ^ h + 1) else (fun s => if s = 3 then p s + 1 else p s) s) = (fun s => if s = 3 then off h + (2 ^ h + 1) else p s) := by
        funext s; split <;> simp_all
      rw [e]; exact this
    have next := ih (k + 1) (n + 59) (fun s => if s = 3 then p s + 1 else p s) (fun s hs => by simp [hs]; exact hp s hs) (by omega) (by omega) (by simp [hpk]; omega) hK2
    clear hK hK2 ih
    have hkb : k < 2 ^ h + 1 := by omega
    obtain ⟨ov, hov⟩ := nt_get 3 depth 3 h k (p 3) hh hkb
    conv => whnf
    refine cndK_intro (fun h2 => ?_) (fun h2 => ?_)
    · have hk0 : k = 0 := by simp at h2; omega
      have hv : (lvl 3 depth h 3)[k]? = some (if 3 = 1 then 1 else 0) := by rw [hk0]; exact lvl_get0 3 depth h 3
      conv => whnf
      try (rw [h2]; conv => whnf)
      refine ⟨⟨by omega, by omega⟩, ?_⟩
      conv => whnf
      refine optK_intro _ hov ?_
      conv => whnf
      rw [ek]
      refine wk_mask [false, true, false, true, false, false, true, true, true, false, false, false, false, false, false, false, false, false, false, false, false, false, false, false, false, false, false, false, false, false, false, false, false, false, false, false, false, false, false, false, false, false, false, false, false, false, true, true, false, false, false, false, false, true, true, false, false, false, false, false, false, false, true, true] _ rfl ?_
      first | rw [nt_set 3 depth 3 h k (p 3) hpk hh hkb 1 hv] | rw [nt_set 3 depth 3 h k (p 3) hpk hh hkb 0 hv] | rw [nt_set 3 depth 3 h k (p 3) hpk hh hkb (moreZ 3) hv]
      exact next
    · have hk0 : k ≠ 0 := by simp at h2; omega
      conv => whnf
      try (rw [h2]; conv => whnf)
      refine cndK_intro (fun h3 => ?_) (fun h3 => ?_)
      · have hh0 : h = 0 := by simp at h3; omega
        have hv : (lvl 3 depth h 3)[k]? = some (if 3 = 1 then 0 else moreZ 3) := by
          have hkb2 := hkb
          rw [hh0] at hkb2 ⊢; exact lvl_get1 3 depth 3 k hk0 hkb2
        conv => whnf
        repeat (refine ⟨by rw [ints_length, fillL_length, fullZ_length]; omega, ?_⟩; conv => whnf)
        try (refine ⟨_, morep_pure _ 3 (by decide), ?_⟩; conv => whnf)
        refine ⟨⟨by omega, by omega⟩, ?_⟩
        conv => whnf
        refine optK_intro _ hov ?_
        conv => whnf
        rw [ek]
        refine wk_mask [false, true, false, true, false, false, true, true, true, false, false, false, false, false, false, false, false, false, false, false, false, false, false, false, false, false, false, false, false, false, false, false, false, false, false, false, false, false, false, false, false, false, false, false, false, false, true, true, false, false, false, false, false, true, true, false, false, false, false, false, false, false, true, true] _ rfl ?_
        first | rw [nt_set 3 depth 3 h k (p 3) hpk hh hkb 1 hv] | rw [nt_set 3 depth 3 h k (p 3) hpk hh hkb 0 hv] | rw [nt_set 3 depth 3 h k (p 3) hpk hh hkb (moreZ 3) hv]
        exact next
      · have hh0 : h ≠ 0 := by simp at h3; omega
        obtain ⟨g, rfl⟩ : ∃ g, h = g + 1 := ⟨h - 1, by omega⟩
        conv => whnf
        try (rw [h3]; conv => whnf)
        repeat (refine ⟨by rw [ints_length, fillL_length, fullZ_length]; omega, ?_⟩; conv => whnf)
        repeat rw [ints_full (fill_len 3 depth _ _)]
        have r0 : row (ntR 3 depth p) 0 g = lvl 3 depth g 0 := ntR_row 3 depth p 0 g (by decide) (by omega) (by first | exact hp 0 (by decide) | omega)
        have hbv : (lvl 3 depth (g + 1) 3)[k]? = some (bestZ 3 (row (ntR 3 depth p) 0 g) (row (ntR 3 depth p) (belowN 3 depth 3 (g + 1)) g) (moreZ 3) g k).1 := by
          rw [lvl_getS 3 depth g 3 k hk0 hkb, r0]
          first
            | rw [bestZ_one]; done
            | (rw [ntR_row 3 depth p (belowN 3 depth 3 (g + 1)) g (by first | exact (show 1 < 2 by decide) | exact belowN_lt _ _ _ _ (by decide)) (by omega)
                (by
                  by_cases he : belowN 3 depth 3 (g + 1) = 3
                  · rw [he, hpk]; omega
                  · exact hp _ he)]; done)
            | (rw [bestZ_one 
                (lvl 1 depth g 0) _ (row (ntR 1 depth p) (belowN 1 depth 0 (g + 1)) g)]; done)
        refine ⟨_, bestp_pure 3 depth (statesN 3) (ntR 3 depth p) 3 g k (by decide) hh hd (ntR_len 3 depth p 0 g (by decide) (by omega))
          (fun hne => ntR_len 3 depth p _ g (by first | exact absurd rfl hne | exact (by decide : 1 < 2) | exact belowN_lt _ _ _ _ (by decide)) (by omega)) (by rw [r0]; exact lvl_small 3 depth g 0 (by omega)) (by omega), ?_⟩
        conv => whnf
        refine ⟨⟨by omega, by omega⟩, ?_⟩
        conv => whnf
        refine optK_intro _ hov ?_
        conv => whnf
        rw [ek]
        refine wk_mask [false, true, false, true, false, false, true, true, true, false, false, false, false, false, false, false, false, false, false, false, false, false, false, false, false, false, false, false, false, false, false, false, false, false, false, false, false, false, false, false, false, false, false, false, false, false, true, true, false, false, false, false, false, true, true, false, false, false, false, false, false, false, true, true] _ rfl ?_
        rw [nt_set 3 depth 3 (g + 1) k (p 3) hpk hh hkb _ hbv]
        exact next
end Go.YtoeophdffhmpmaaE
end

section
set_option linter.unusedVariables false
set_option linter.unusedSimpArgs false
set_option maxRecDepth 100000
set_option maxHeartbeats 4000000
namespace Go.YtoeophdffhmpmaaE
open Go Go.RowKit

theorem at_e1 {h : Nat} (hh : h ≤ 6) : IntKind.i64.wrap (IntKind.i64.wrap (((2 ^ h : Nat) : Int) - 1) + h) = ((off h : Nat) : Int) := by
  obtain ⟨hp1, hp2⟩ := pow_le6 hh
  rw [wrap64 (n := ((2 ^ h : Nat) : Int) - 1) (by omega) (by omega), wrap64 (by omega) (by omega)]
  unfold off; omega
theorem at_e2 {h : Nat} (hh : h ≤ 6) : IntKind.i64.wrap (((off h : Nat) : Int) + ((2 ^ h + 1 : Nat) : Int)) = ((off h + 2 ^ h + 1 : Nat) : Int) := by
  have := off_le6 hh
  obtain ⟨hp1, hp2⟩ := pow_le6 hh
  rw [wrap64 (by omega) (by omega)]; omega
theorem at_e3 (h : Nat) : (((off h + 2 ^ h + 1 : Nat) : Int).toNat - ((off h : Nat) : Int).toNat) = 2 ^ h + 1 := by
  rw [Int.toNat_natCast, Int.toNat_natCast, Nat.add_assoc, Nat.add_sub_cancel_left]
theorem at_e4 (h : Nat) : 0 + ((off h : Nat) : Int).toNat = off h := by omega
theorem nt_level_1 (E : EqT) (depth : Nat) (hd : depth ≤ 6) (K : K) :
    ∀ (d h n : Nat), h + d = depth + 1 → d + 300 ≤ n →
      (∀ j, K (.exit 2) (mkJ 116 [(3, .pt 1 0 0 0 0)] j) (ntHp 1 depth (fun _ => off (depth + 1))) []) →
      loopF (run Go.Proofs.Try.prog E (envL Go.Proofs.Try.prog ntEnv) n) 0 0 (loopB Go.Proofs.Try.prog 46 1)
        (mkT 116 [(1, .pt 0 0 0 0 0), (3, .pt 1 0 0 0 0), (46, .v (.int .i64 (depth + 1 : Nat))), (47, .v (.int .i64 h))])
        (ntHp 1 depth (fun _ => off h)) [] K := by
  intro d
  induction d with
  | zero =>
    intro h n hi hn hK
    obtain ⟨n, rfl⟩ : ∃ m, n = m + 300 := ⟨n - 300, by omega⟩
    obtain rfl : h = depth + 1 := by omega
    conv => whnf
    refine cndK_intro (fun h => ?_) (fun h => ?_)
    · exfalso
      simp only [decide_eq_true_eq] at h
      omega
    · conv => whnf
      exact useJ hK rfl
  | succ d ih =>
    intro h n hi hn hK
    obtain ⟨n, rfl⟩ : ∃ m, n = m + 300 := ⟨n - 300, by omega⟩
    have h6 : h ≤ 6 := by omega
    have hp6 := pow_le6 h6
    have ho := off_le6 h6
    have hlen : off h + 2 ^ h + 1 ≤ off (depth + 1) := by
      have := off_mono (show h + 1 ≤ depth + 1 by omega)
      rw [off_succ] at this; omega
    have eh : IntKind.i64.wrap ((h : Int) + 1) = ((h + 1 : Nat) : Int) := by rw [wrap64 (by omega) (by omega)]; omega
    conv => whnf
    refine cndK_intro (fun h1 => ?_) (fun h1 => ?_)
    rotate_left
    · exfalso
      simp only [decide_eq_false_iff_not] at h1
      omega
    conv => whnf
    refine wk_none ?_
    conv => whnf
    refine ⟨by omega, ?_⟩
    conv => whnf
    rw [shl1 h6]
    refine ⟨_, width_pure h h6, ?_⟩
    conv => whnf
    rw [at_e1 h6, at_e2 h6]
    refine ⟨⟨by decide, by decide⟩, ?_⟩
    conv => whnf
    refine ⟨⟨by omega, by omega, Int.le_refl _, by omega⟩, ?_⟩
    rw [at_e3, at_e4]
    conv => whnf
    refine wk_mask [false, true, false, true, false, false, true, true, true, false, false, false, false, false, false, false, false, false, false, false, false, false, false, false, false, false, false, false, false, false, false, false, false, false, false, false, false, false, false, false, false, false, false, false, false, false, true, true, false, false, false, false, false, true, true, false, false, false, false, false, false, false, true, true] _ rfl ?_
    refine nt_row_1_0 _ depth h (by omega) hd _ (2 ^ h + 1) 0 (n + 283) (fun s => if s < 0 then off h + (2 ^ h + 1) else off h) (fun s hs => by split <;> omega) (by omega) (by omega) (by simp) (fun j => ?_)
    conv => whnf
    refine wk_none ?_
    conv => whnf
    rw [eh]
    refine wk_mask [false, true, false, true, false, false, false, false, false, false, false, false, false, false, false, false, false, false, false, false, false, false, false, false, false, false, false, false, false, false, false, false, false, false, false, false, false, false, false, false, false, false, false, false, false, false, true, true] _ rfl ?_
    have next := ih (h + 1) (n + 299) (by omega) (by omega) hK
    simp only [off_succ h] at next
    exact next
theorem nt_level_2 (E : EqT) (depth : Nat) (hd : depth ≤ 6) (K : K) :
    ∀ (d h n : Nat), h + d = depth + 1 → d + 300 ≤ n →
      (∀ j, K (.exit 2) (mkJ 116 [(3, .pt 1 0 0 0 0)] j) (ntHp 2 depth (fun _ => off (depth + 1))) []) →
      loopF (run Go.Proofs.Try.prog E (envL Go.Proofs.Try.prog ntEnv) n) 0 0 (loopB Go.Proofs.Try.prog 46 1)
        (mkT 116 [(1, .pt 0 0 0 0 0), (3, .pt 1 0 0 0 0), (46, .v (.int .i64 (depth + 1 : Nat))), (47, .v (.int .i64 h))])
        (ntHp 2 depth (fun _ => off h)) [] K := by
  intro d
  induction d with
  | zero =>
    intro h n hi hn hK
    obtain ⟨n, rfl⟩ : ∃ m, n = m + 300 := ⟨n - 300, by omega⟩
    obtain rfl : h = depth + 1 := by omega
    conv => whnf
    refine cndK_intro (fun h => ?_) (fun h => ?_)
    · exfalso
      simp only [decide_eq_true_eq] at h
      omega
    · conv => whnf
      exact useJ hK rfl
  | succ d ih =>
    intro h n hi hn hK
    obtain ⟨n, rfl⟩ : ∃ m, n = m + 300 := ⟨n - 300, by omega⟩
    have h6 : h ≤ 6 := by omega
    have hp6 := pow_le6 h6
    have ho := off_le6 h6
    have hlen : off h + 2 ^ h + 1 ≤ off (depth + 1) := by
      have := off_mono (show h + 1 ≤ depth + 1 by omega)
      rw [off_succ] at this; omega
    have eh : IntKind.i64.wrap ((h : Int) + 1) = ((h + 1 : Nat) : Int) := by rw [wrap64 (by omega) (by omega)]; omega
    conv => whnf
    refine cndK_intro (fun h1 => ?_) (fun h1 => ?_)
    rotate_left
    · exfalso
      simp only [decide_eq_false_iff_not] at h1
      omega
    conv => whnf
    refine wk_none ?_
    conv => whnf
    refine ⟨by omega, ?_⟩
    conv => whnf
    rw [shl1 h6]
    refine ⟨_, width_pure h h6, ?_⟩
    conv => whnf
    rw [at_e1 h6, at_e2 h6]
    refine ⟨⟨by decide, by decide⟩, ?_⟩
    conv => whnf
    refine ⟨⟨by omega, by omega, Int.le_refl _, by omega⟩, ?_⟩
    rw [at_e3, at_e4]
    conv => whnf
    refine wk_mask [false, true, false, true, false, false, true, true, true, false, false, false, false, false, false, false, false, false, false, false, false, false, false, false, false, false, false, false, false, false, false, false, false, false, false, false, false, false, false, false, false, false, false, false, false, false, true, true, false, false, false, false, false, true, true, false, false, false, false, false, false, false, true, true] _ rfl ?_
    refine nt_row_2_0 _ depth h (by omega) hd _ (2 ^ h + 1) 0 (n + 283) (fun s => if s < 0 then off h + (2 ^ h + 1) else off h) (fun s hs => by split <;> omega) (by omega) (by omega) (by simp) (fun j => ?_)
    conv => whnf
    refine wk_none ?_
    conv => whnf
    refine ⟨by omega, ?_⟩
    conv => whnf
    rw [shl1 h6]
    refine ⟨_, width_pure h h6, ?_⟩
    conv => whnf
    rw [at_e1 h6, at_e2 h6]
    refine ⟨⟨by decide, by decide⟩, ?_⟩
    conv => whnf
    refine ⟨⟨by omega, by omega, Int.le_refl _, by omega⟩, ?_⟩
    rw [at_e3, at_e4]
    conv => whnf
    refine wk_mask [false, true, false, true, false, false, true, true, true, false, false, false, false, false, false, false, false, false, false, false, false, false, false, false, false, false, false, false, false, false, false, false, false, false, false, false, false, false, false, false, false, false, false, false, false, false, true, true, false, false, false, false, false, true, true, false, false, false, false, false, false, false, true, true] _ rfl ?_
    refine nt_row_2_1 _ depth h (by omega) hd _ (2 ^ h + 1) 0 (n + 282) (fun s => if s < 1 then off h + (2 ^ h + 1) else off h) (fun s hs => by split <;> omega) (by omega) (by omega) (by simp) (fun j => ?_)
    conv => whnf
    refine wk_none ?_
    conv => whnf
    rw [eh]
    refine wk_mask [false, true, false, true, false, false, false, false, false, false, false, false, false, false, false, false, false, false, false, false, false, false, false, false, false, false, false, false, false, false, false, false, false, false, false, false, false, false, false, false, false, false, false, false, false, false, true, true] _ rfl ?_
    have next := ih (h + 1) (n + 299) (by omega) (by omega) hK
    simp only [off_succ h] at next
    exact next
theorem nt_level_3 (E : EqT) (depth : Nat) (hd : depth ≤ 6) (K : K) :
    ∀ (d h n : Nat), h + d = depth + 1 → d + 300 ≤ n →
      (∀ j, K (.exit 2) (mkJ 116 [(3, .pt 1 0 0 0 0)] j) (ntHp 3 depth (fun _ => off (depth + 1))) []) →
      loopF (run Go.Proofs.Try.prog E (envL Go.Proofs.Try.prog ntEnv) n) 0 0 (loopB Go.Proofs.Try.prog 46 1)
        (mkT 116 [(1, .pt 0 0 0 0 0), (3, .pt 1 0 0 0 0), (46, .v (.int .i64 (depth + 1 : Nat))), (47, .v (.int .i64 h))])
        (ntHp 3 depth (fun _ => off h)) [] K := by
  intro d
  induction d with
  | zero =>
    intro h n hi hn hK
    obtain ⟨n, rfl⟩ : ∃ m, n = m + 300 := ⟨n - 300, by omega⟩
    obtain rfl : h = depth + 1 := by omega
    conv => whnf
    refine cndK_intro (fun h => ?_) (fun h => ?_)
    · exfalso
      simp only [decide_eq_true_eq] at h
      omega
    · conv => whnf
      exact useJ hK rfl
  | succ d ih =>
    intro h n hi hn hK
    obtain ⟨n, rfl⟩ : ∃ m, n = m + 300 := ⟨n - 300, by omega⟩
    have h6 : h ≤ 6 := by omega
    have hp6 := pow_le6 h6
    have ho := off_le6 h6
    have hlen : off h + 2 ^ h + 1 ≤ off (depth + 1) := by
      have := off_mono (show h + 1 ≤ depth + 1 by omega)
      rw [off_succ] at this; omega
    have eh : IntKind.i64.wrap ((h : Int) + 1) = ((h + 1 : Nat) : Int) := by rw [wrap64 (by omega) (by omega)]; omega
    conv => whnf
    refine cndK_intro (fun h1 => ?_) (fun h1 => ?_)
    rotate_left
    · exfalso
      simp only [decide_eq_false_iff_not] at h1
      omega
    conv => whnf
    refine wk_none ?_
    conv => whnf
    refine ⟨by omega, ?_⟩
    conv => whnf
    rw [shl1 h6]
    refine ⟨_, width_pure h h6, ?_⟩
    conv => whnf
    rw [at_e1 h6, at_e2 h6]
    refine ⟨⟨by decide, by decide⟩, ?_⟩
    conv => whnf
    refine ⟨⟨by omega, by omega, Int.le_refl _, by omega⟩, ?_⟩
    rw [at_e3, at_e4]
    conv => whnf
    refine wk_mask [false, true, false, true, false, false, true, true, true, false, false, false, false, false, false, false, false, false, false, false, false, false, false, false, false, false, false, false, false, false, false, false, false, false, false, false, false, false, false, false, false, false, false, false, false, false, true, true, false, false, false, false, false, true, true, false, false, false, false, false, false, false, true, true] _ rfl ?_
    refine nt_row_3_0 _ depth h (by omega) hd _ (2 ^ h + 1) 0 (n + 283) (fun s => if s < 0 then off h + (2 ^ h + 1) else off h) (fun s hs => by split <;> omega) (by omega) (by omega) (by simp) (fun j => ?_)
    conv => whnf
    refine wk_none ?_
    conv => whnf
    refine ⟨by omega, ?_⟩
    conv => whnf
    rw [shl1 h6]
    refine ⟨_, width_pure h h6, ?_⟩
    conv => whnf
    rw [at_e1 h6, at_e2 h6]
    refine ⟨⟨by decide, by decide⟩, ?_⟩
    conv => whnf
    refine ⟨⟨by omega, by omega, Int.le_refl _, by omega⟩, ?_⟩
    rw [at_e3, at_e4]
    conv => whnf
    refine wk_mask [false, true, false, true, false, false, true, true, true, false, false, false, false, false, false, false, false, false, false, false, false, false, false, false, false, false, false, false, false, false, false, false, false, false, false, false, false, false, false, false, false, false, false, false, false, false, true, true, false, false, false, false, false, true, true, false, false, false, false, false, false, false, true, true] _ rfl ?_
    refine nt_row_3_1 _ depth h (by omega) hd _ (2 ^ h + 1) 0 (n + 282) (fun s => if s < 1 then off h + (2 ^ h + 1) else off h) (fun s hs => by split <;> omega) (by omega) (by omega) (by simp) (fun j => ?_)
    conv => whnf
    refine wk_none ?_
    conv => whnf
    refine ⟨by omega, ?_⟩
    conv => whnf
    rw [shl1 h6]
    refine ⟨_, width_pure h h6, ?_⟩
    conv => whnf
    rw [at_e1 h6, at_e2 h6]
    refine ⟨⟨by decide, by decide⟩, ?_⟩
    conv => whnf
    refine ⟨⟨by omega, by omega, Int.le_refl _, by omega⟩, ?_⟩
    rw [at_e3, at_e4]
    conv => whnf
    refine wk_mask [false, true, false, true, false, false, true, true, true, false, false, false, false, false, false, false, false, false, false, false, false, false, false, false, false, false, false, false, false, false, false, false, false, false, false, false, false, false, false, false, false, false, false, false, false, false, true, true, false, false, false, false, false, true, true, false, false, false, false, false, false, false, true, true] _ rfl ?_
    refine nt_row_3_2 _ depth h (by omega) hd _ (2 ^ h + 1) 0 (n + 281) (fun s => if s < 2 then off h + (2 ^ h + 1) else off h) (fun s hs => by split <;> omega) (by omega) (by omega) (by simp) (fun j => ?_)
    conv => whnf
    refine wk_none ?_
    conv => whnf
    refine ⟨by omega, ?_⟩
    conv => whnf
    rw [shl1 h6]
    refine ⟨_, width_pure h h6, ?_⟩
    conv => whnf
    rw [at_e1 h6, at_e2 h6]
    refine ⟨⟨by decide, by decide⟩, ?_⟩
    conv => whnf
    refine ⟨⟨by omega, by omega, Int.le_refl _, by omega⟩, ?_⟩
    rw [at_e3, at_e4]
    conv => whnf
    refine wk_mask [false, true, false, true, false, false, true, true, true, false, false, false, false, false, false, false, false, false, false, false, false, false, false, false, false, false, false, false, false, false, false, false, false, false, false, false, false, false, false, false, false, false, false, false, false, false, true, true, false, false, false, false, false, true, true, false, false, false, false, false, false, false, true, true] _ rfl ?_
    refine nt_row_3_3 _ depth h (by omega) hd _ (2 ^ h + 1) 0 (n + 280) (fun s => if s < 3 then off h + (2 ^ h + 1) else off h) (fun s hs => by split <;> omega) (by omega) (by omega) (by simp) (fun j => ?_)
    conv => whnf
    refine wk_none ?_
    conv => whnf
    rw [eh]
    refine wk_mask [false, true, false, true, false, false, false, false, false, false, false, false, false, false, false, false, false, false, false, false, false, false, false, false, false, false, false, false, false, false, false, false, false, false, false, false, false, false, false, false, false, false, false, false, false, false, true, true] _ rfl ?_
    have next := ih (h + 1) (n + 299) (by omega) (by omega) hK
    simp only [off_succ h] at next
    exact next
end Go.YtoeophdffhmpmaaE
end

section
set_option linter.unusedVariables false
set_option linter.unusedSimpArgs false
set_option maxRecDepth 100000
set_option maxHeartbeats 4000000
namespace Go.YtoeophdffhmpmaaE
open Go Go.RowKit

theorem shl7 {h : Nat} (hh : h ≤ 7) : IntKind.i64.wrap (1 * 2 ^ min (h : Int).toNat IntKind.i64.bits) = ((2 ^ h : Nat) : Int) := by
  match h, hh with
  | 0, _ | 1, _ | 2, _ | 3, _ | 4, _ | 5, _ | 6, _ | 7, _ => decide
def fullR (kind depth : Nat) : Nat → List Int := fun s => if s < statesN kind then fullZ kind depth s else []
theorem nt_make (kind depth st : Nat) : List.replicate (off (depth + 1)) [A.v (.int .i64 0)] = ints (fillL (fullZ kind depth st) (off 0)) := by
  rw [show off 0 = 0 from rfl, fillL_none, fullZ_length]
  simp [ints]
theorem nt_size {depth : Nat} (hd : depth ≤ 6) : IntKind.i64.wrap (IntKind.i64.wrap (IntKind.i64.wrap (((2 ^ (depth + 1) : Nat) : Int) - 1) + (depth : Int)) + 1) = ((off (depth + 1) : Nat) : Int) := by
  match depth, hd with
  | 0, _ | 1, _ | 2, _ | 3, _ | 4, _ | 5, _ | 6, _ => decide
theorem off7 {depth : Nat} (hd : depth ≤ 6) : off (depth + 1) ≤ 134 := by
  match depth, hd with
  | 0, _ | 1, _ | 2, _ | 3, _ | 4, _ | 5, _ | 6, _ => decide
theorem newTables_1 (depth : Nat) (hd : depth ≤ 6) : Pure Go.Proofs.Try.prog 46 [scheme 1 depth 0 0 0 0] ⟨tb 1 depth (fullR 1 depth) (statesN 1), []⟩ := by
  refine pure_sz pf eqOk_none (env_ok ntEnv rfl) fun _ => ⟨600, ?_⟩
  have ed : IntKind.i64.wrap ((depth : Int) + 1) = ((depth + 1 : Nat) : Int) := by rw [wrap64 (by omega) (by omega)]; omega
  have h7 := off7 hd
  conv => whnf
  refine Or.inl ⟨11, by kernel_rfl, ?_⟩
  conv => whnf
  refine ⟨_, stride_pure depth hd, ?_⟩
  conv => whnf
  refine ⟨by decide, ?_⟩
  conv => whnf
  refine Or.inl ⟨10, by kernel_rfl, ?_⟩
  conv => whnf
  rw [ed]
  refine ⟨by omega, ?_⟩
  conv => whnf
  rw [shl7 (show depth + 1 ≤ 7 by omega), nt_size hd]
  refine wk_none ?_
  conv => whnf
  refine Or.inl ⟨7, by kernel_rfl, ?_⟩
  conv => whnf
  refine ⟨⟨by omega, by omega, by show ((off (depth + 1) : Nat) : Int) * ((8 : Nat) : Int) ≤ _; omega⟩, ?_⟩
  conv => whnf
  refine ⟨by decide, ?_⟩
  conv => whnf
  refine wk_none ?_
  conv => whnf
  rw [ed]
  refine wk_mask [false, true, false, true, false, false, false, false, false, false, false, false, false, false, false, false, false, false, false, false, false, false, false, false, false, false, false, false, false, false, false, false, false, false, false, false, false, false, false, false, false, false, false, false, false, false, true, true] _ rfl ?_
  have L := fun K => nt_level_1 (fun _ => none) depth hd K (depth + 1) 0 592 (by omega) (by omega)
  simp only [ntHp, ntB, ← nt_make] at L
  simp only [Int.toNat_natCast]
  refine L _ fun j => ?_
  conv => whnf
  simp only [fillL_all _ _ (Nat.le_of_eq (fullZ_length _ _ _))]
  left
  conv => whnf
  repeat (refine ⟨by rw [ints_length, fullZ_length]; omega, ?_⟩; conv => whnf)
  repeat rw [ints_full (fullZ_length _ _ _).symm]
  rfl
theorem newTables_2 (depth : Nat) (hd : depth ≤ 6) : Pure Go.Proofs.Try.prog 46 [scheme 2 depth 0 0 0 0] ⟨tb 2 depth (fullR 2 depth) (statesN 2), []⟩ := by
  refine pure_sz pf eqOk_none (env_ok ntEnv rfl) fun _ => ⟨600, ?_⟩
  have ed : IntKind.i64.wrap ((depth : Int) + 1) = ((depth + 1 : Nat) : Int) := by rw [wrap64 (by omega) (by omega)]; omega
  have h7 := off7 hd
  conv => whnf
  refine Or.inl ⟨11, by kernel_rfl, ?_⟩
  conv => whnf
  refine ⟨_, stride_pure depth hd, ?_⟩
  conv => whnf
  refine ⟨by decide, ?_⟩
  conv => whnf
  refine Or.inl ⟨10, by kernel_rfl, ?_⟩
  conv => whnf
  rw [ed]
  refine ⟨by omega, ?_⟩
  conv => whnf
  rw [shl7 (show depth + 1 ≤ 7 by omega), nt_size hd]
  refine wk_none ?_
  conv => whnf
  refine Or.inl ⟨7, by kernel_rfl, ?_⟩
  conv => whnf
  refine ⟨⟨by omega, by omega, by show ((off (depth + 1) : Nat) : Int) * ((8 : Nat) : Int) ≤ _; omega⟩, ?_⟩
  conv => whnf
  refine ⟨by decide, ?_⟩
  conv => whnf
  refine wk_none ?_
  conv => whnf
  refine Or.inl ⟨7, by kernel_rfl, ?_⟩
  conv => whnf
  refine ⟨⟨by omega, by omega, by show ((off (depth + 1) : Nat) : Int) * ((8 : Nat) : Int) ≤ _; omega⟩, ?_⟩
  conv => whnf
  refine ⟨by decide, ?_⟩
  conv => whnf
  refine wk_none ?_
  conv => whnf
  rw [ed]
  refine wk_mask [false, true, false, true, false, false, false, false, false, false, false, false, false, false, false, false, false, false, false, false, false, false, false, false, false, false, false, false, false, false, false, false, false, false, false, false, false, false, false, false, false, false, false, false, false, false, true, true] _ rfl ?_
  have L := fun K => nt_level_2 (fun _ => none) depth hd K (depth + 1) 0 592 (by omega) (by omega)
  simp only [ntHp, ntB, ← nt_make] at L
  simp only [Int.toNat_natCast]
  refine L _ fun j => ?_
  conv => whnf
  simp only [fillL_all _ _ (Nat.le_of_eq (fullZ_length _ _ _))]
  left
  conv => whnf
  repeat (refine ⟨by rw [ints_length, fullZ_length]; omega, ?_⟩; conv => whnf)
  repeat rw [ints_full (fullZ_length _ _ _).symm]
  rfl
theorem newTables_3 (depth : Nat) (hd : depth ≤ 6) : Pure Go.Proofs.Try.prog 46 [scheme 3 depth 0 0 0 0] ⟨tb 3 depth (fullR 3 depth) (statesN 3), []⟩ := by
  refine pure_sz pf eqOk_none (env_ok ntEnv rfl) fun _ => ⟨600, ?_⟩
  have ed : IntKind.i64.wrap ((depth : Int) + 1) = ((depth + 1 : Nat) : Int) := by rw [wrap64 (by omega) (by omega)]; omega
  have h7 := off7 hd
  conv => whnf
  refine Or.inl ⟨11, by kernel_rfl, ?_⟩
  conv => whnf
  refine ⟨_, stride_pure depth hd, ?_⟩
  conv => whnf
  refine ⟨by decide, ?_⟩
  conv => whnf
  refine Or.inl ⟨10, by kernel_rfl, ?_⟩
  conv => whnf
  rw [ed]
  refine ⟨by omega, ?_⟩
  conv => whnf
  rw [shl7 (show depth + 1 ≤ 7 by omega), nt_size hd]
  refine wk_none ?_
  conv => whnf
  refine Or.inl ⟨7, by kernel_rfl, ?_⟩
  conv => whnf
  refine ⟨⟨by omega, by omega, by show ((off (depth + 1) : Nat) : Int) * ((8 : Nat) : Int) ≤ _; omega⟩, ?_⟩
  conv => whnf
  refine ⟨by decide, ?_⟩
  conv => whnf
  refine wk_none ?_
  conv => whnf
  refine Or.inl ⟨7, by kernel_rfl, ?_⟩
  conv => whnf
  refine ⟨⟨by omega, by omega, by show ((off (depth + 1) : Nat) : Int) * ((8 : Nat) : Int) ≤ _; omega⟩, ?_⟩
  conv => whnf
  refine ⟨by decide, ?_⟩
  conv => whnf
  refine wk_none ?_
  conv => whnf
  refine Or.inl ⟨7, by kernel_rfl, ?_⟩
  conv => whnf
  refine ⟨⟨by omega, by omega, by show ((off (depth + 1) : Nat) : Int) * ((8 : Nat) : Int) ≤ _; omega⟩, ?_⟩
  conv => whnf
  refine ⟨by decide, ?_⟩
  conv => whnf
  refine wk_none ?_
  conv => whnf
  refine Or.inl ⟨7, by kernel_rfl, ?_⟩
  conv => whnf
  refine ⟨⟨by omega, by omega, by show ((off (depth + 1) : Nat) : Int) * ((8 : Nat) : Int) ≤ _; omega⟩, ?_⟩
  conv => whnf
  refine ⟨by decide, ?_⟩
  conv => whnf
  refine wk_none ?_
  conv => whnf
  rw [ed]
  refine wk_mask [false, true, false, true, false, false, false, false, false, false, false, false, false, false, false, false, false, false, false, false, false, false, false, false, false, false, false, false, false, false, false, false, false, false, false, false, false, false, false, false, false, false, false, false, false, false, true, true] _ rfl ?_
  have L := fun K => nt_level_3 (fun _ => none) depth hd K (depth + 1) 0 592 (by omega) (by omega)
  simp only [ntHp, ntB, ← nt_make] at L
  simp only [Int.toNat_natCast]
  refine L _ fun j => ?_
  conv => whnf
  simp only [fillL_all _ _ (Nat.le_of_eq (fullZ_length _ _ _))]
  left
  conv => whnf
  repeat (refine ⟨by rw [ints_length, fullZ_length]; omega, ?_⟩; conv => whnf)
  repeat rw [ints_full (fullZ_length _ _ _).symm]
  rfl
end Go.YtoeophdffhmpmaaE
end

section
set_option linter.unusedVariables false
set_option linter.unusedSimpArgs false
set_option maxRecDepth 100000
set_option maxHeartbeats 1000000
namespace Go.YtoeophdffhmpmaaE
open Go Go.RowKit

theorem eqs : EqOk Go.Proofs.Try.prog (eqN Go.Proofs.Try.prog [26, 24]) := eqN_ok (by kernel_rfl)
theorem eqScheme : eqN Go.Proofs.Try.prog [26, 24] 26 = some [some .u8, some .i64, some .i64, some .u64, some .u64, some .u64] := by kernel_rfl
theorem schemeNeq {E : EqT} (hE : E 26 = some [some .u8, some .i64, some .i64, some .u64, some .u64, some .u64]) (kind : Nat) (depth degree p q g : Int) (k : Bool → Prop) (h : k (degree == 0 && (p == 0 && (q == 0 && g == 0)))) :
    optK (E 26) fun cks => eqCells cks [.v (.int .u8 kind), .v (.int .i64 depth), .v (.int .i64 degree), .v (.int .u64 p), .v (.int .u64 q), .v (.int .u64 g)]
      [.v (.int .u8 kind), .v (.int .i64 depth), .v (.int .i64 0), .v (.int .u64 0), .v (.int .u64 0), .v (.int .u64 0)] fun b => k b := by
  refine optK_intro _ hE ?_
  have : ∀ x1 x2 : Int, ∀ y1 y2 : Int, (eqCells [some .u8, some .i64, some .i64, some .u64, some .u64, some .u64] [.v (.int .u8 x1), .v (.int .i64 y1), .v (.int .i64 degree), .v (.int .u64 p), .v (.int .u64 q), .v (.int .u64 g)]
      [.v (.int .u8 x2), .v (.int .i64 y2), .v (.int .i64 0), .v (.int .u64 0), .v (.int .u64 0), .v (.int .u64 0)] fun b => k b) = k ((x1 == x2) && ((y1 == y2) && ((degree == 0) && ((p == 0) && ((q == 0) && ((g == 0) && true)))))) := fun x1 x2 y1 y2 => rfl
  rw [this]
  simpa using h
def treeA (kind : Nat) (depth stride : Int) : A := .agg [.v (.int .u8 kind), .v (.int .i64 depth), .v (.int .i64 stride)]
theorem treeOf_ok (kind d : Nat) (h1 : 1 ≤ kind) (h3 : kind ≤ 3) (hd : d ≤ 6) :
    Pure Go.Proofs.Try.prog 85 [scheme kind d 0 0 0 0] ⟨.tup [treeA kind d (strideN d), .v (.bool true)], []⟩ := by
  refine pure_sz pf eqs (env_ok [] rfl) fun _ => ⟨60, ?_⟩
  generalize hEE : eqN Go.Proofs.Try.prog [26, 24] = E
  have hE : E 26 = some [some .u8, some .i64, some .i64, some .u64, some .u64, some .u64] := by rw [← hEE]; exact eqScheme
  clear hEE
  have hk : kind = 1 ∨ kind = 2 ∨ kind = 3 := by omega
  rcases hk with rfl | rfl | rfl
  all_goals
    match d, hd with
    | 0, _ | 1, _ | 2, _ | 3, _ | 4, _ | 5, _ | 6, _ =>
      conv => whnf
      refine optK_intro _ hE ?_
      conv => whnf
      repeat (refine wk_none ?_; conv => whnf)
      left
      conv => whnf
      try rfl
theorem treeOf_bad (kind : Nat) (depth degree p q g : Int) (hv : validB kind depth degree p q g = false) :
    Pure Go.Proofs.Try.prog 85 [scheme kind depth degree p q g] ⟨.tup [treeA 0 0 0, .v (.bool false)], []⟩ := by
  refine pure_sz pf eqs (env_ok [] rfl) fun _ => ⟨60, ?_⟩
  generalize hEE : eqN Go.Proofs.Try.prog [26, 24] = E
  have hE : E 26 = some [some .u8, some .i64, some .i64, some .u64, some .u64, some .u64] := by rw [← hEE]; exact eqScheme
  clear hEE
  conv => whnf
  refine cndK_intro (fun h => ?_) (fun h1 => ?_)
  · rw [h]; conv => whnf
    left
    conv => whnf
    try rfl
  rw [h1]; conv => whnf
  refine cndK_intro (fun h => ?_) (fun h2 => ?_)
  · rw [h]; conv => whnf
    left
    conv => whnf
    try rfl
  rw [h2]; conv => whnf
  refine cndK_intro (fun h => ?_) (fun h3 => ?_)
  · rw [h]; conv => whnf
    left
    conv => whnf
    try rfl
  rw [h3]; conv => whnf
  refine cndK_intro (fun h => ?_) (fun h4 => ?_)
  · rw [h]; conv => whnf
    left
    conv => whnf
    try rfl
  rw [h4]; conv => whnf
  rw [hE]
  conv => whnf
  rw [show ((kind : Int) == kind && (depth == depth && (degree == 0 && (p == 0 && (q == 0 && (g == 0 && true)))))) = (degree == 0 && (p == 0 && (q == 0 && g == 0))) from by simp]
  have h5 : (degree == 0 && (p == 0 && (q == 0 && g == 0))) = false := by
    cases h6 : (degree == 0 && (p == 0 && (q == 0 && g == 0))) with
    | false => rfl
    | true =>
      exfalso
      simp only [validB, decide_eq_false_iff_not] at hv
      simp at h1 h2 h3 h4 h6
      omega
  rw [h5]
  conv => whnf
  left
  conv => whnf
  try rfl
theorem check_pure (kind : Nat) (depth degree p q g : Int) :
    Pure Go.Proofs.Try.prog 45 [scheme kind depth degree p q g] ⟨.v (.int .i64 (if validB kind depth degree p q g = true then 0 else 30)), []⟩ := by
  refine pure_sz pf eqs (env_ok [85] rfl) fun _ => ⟨60, ?_⟩
  cases hv : validB kind depth degree p q g with
  | false =>
    conv => whnf
    refine ⟨_, treeOf_bad kind depth degree p q g hv, ?_⟩
    conv => whnf
    left
    conv => whnf
    try rfl
  | true =>
    simp only [validB, decide_eq_true_eq] at hv
    obtain ⟨h1, h2, h3, h4, rfl, rfl, rfl, rfl⟩ := hv
    obtain ⟨d, rfl⟩ : ∃ d : Nat, depth = d := ⟨depth.toNat, by omega⟩
    conv => whnf
    refine ⟨_, treeOf_ok kind d h1 h2 (by omega), ?_⟩
    conv => whnf
    left
    conv => whnf
    try rfl
end Go.YtoeophdffhmpmaaE
end

section
set_option linter.unusedVariables false
set_option linter.unusedSimpArgs false
set_option maxRecDepth 100000
set_option maxHeartbeats 1000000
namespace Go.YtoeophdffhmpmaaE
open Go Go.RowKit

theorem newTables_pure (kind depth : Nat) (h1 : 1 ≤ kind) (h3 : kind ≤ 3) (hd : depth ≤ 6) :
    Pure Go.Proofs.Try.prog 46 [scheme kind depth 0 0 0 0] ⟨tb kind depth (fullR kind depth) (statesN kind), []⟩ := by
  have hk : kind = 1 ∨ kind = 2 ∨ kind = 3 := by omega
  rcases hk with rfl | rfl | rfl
  · exact newTables_1 depth hd
  · exact newTables_2 depth hd
  · exact newTables_3 depth hd
theorem asked_bad (kind : Nat) (depth degree p q g r : Int) (hv : validB kind depth degree p q g = false) :
    Pure Go.Proofs.Try.prog 38 [scheme kind depth degree p q g, .v (.int .i64 r)] ⟨.tup [.v (.pointer none), .v (.int .i64 30)], []⟩ := by
  refine pure_sz pf eqOk_none (env_ok [45, 46] rfl) fun _ => ⟨60, ?_⟩
  conv => whnf
  refine ⟨_, check_pure kind depth degree p q g, ?_⟩
  rw [hv]
  conv => whnf
  left
  conv => whnf
  try rfl
theorem validB_ok (kind d : Nat) (h1 : 1 ≤ kind) (h3 : kind ≤ 3) (hd : d ≤ 6) : validB kind d 0 0 0 0 = true := by
  simp [validB]; omega
theorem asked_arg (kind d : Nat) (r : Int) (h1 : 1 ≤ kind) (h3 : kind ≤ 3) (hd : d ≤ 6) (hr : r < 0 ∨ r > ((2 ^ d : Nat) : Int)) :
    Pure Go.Proofs.Try.prog 38 [scheme kind d 0 0 0 0, .v (.int .i64 r)] ⟨.tup [.v (.pointer none), .v (.int .i64 2)], []⟩ := by
  refine pure_sz pf eqOk_none (env_ok [45, 46] rfl) fun _ => ⟨60, ?_⟩
  conv => whnf
  refine ⟨_, check_pure kind d 0 0 0 0, ?_⟩
  rw [validB_ok kind d h1 h3 hd]
  conv => whnf
  refine cndK_intro (fun h => ?_) (fun h => ?_)
  · rw [h]
    conv => whnf
    left
    conv => whnf
    try rfl
  · rw [h]
    conv => whnf
    refine ⟨by omega, ?_⟩
    conv => whnf
    rw [shl1 hd]
    refine cndK_intro (fun h => ?_) (fun h2 => ?_)
    · conv => whnf
      left
      conv => whnf
      try rfl
    · exfalso
      simp only [decide_eq_false_iff_not] at h h2
      omega
theorem asked_ok (kind d r : Nat) (h1 : 1 ≤ kind) (h3 : kind ≤ 3) (hd : d ≤ 6) (hr : r ≤ 2 ^ d) :
    Pure Go.Proofs.Try.prog 38 [scheme kind d 0 0 0 0, .v (.int .i64 r)] ⟨.tup [tb kind d (fullR kind d) (statesN kind), .v (.int .i64 0)], []⟩ := by
  refine pure_sz pf eqOk_none (env_ok [45, 46] rfl) fun _ => ⟨60, ?_⟩
  conv => whnf
  refine ⟨_, check_pure kind d 0 0 0 0, ?_⟩
  rw [validB_ok kind d h1 h3 hd]
  conv => whnf
  refine ⟨by omega, ?_⟩
  conv => whnf
  rw [shl1 hd]
  refine cndK_intro (fun h => ?_) (fun h2 => ?_)
  · exfalso
    simp only [decide_eq_true_eq] at h
    omega
  · conv => whnf
    refine ⟨_, newTables_pure kind d h1 h3 hd, ?_⟩
    conv => whnf
    left
    conv => whnf
    try rfl
theorem fullR_len (kind d : Nat) : off d + 2 ^ d + 1 ≤ (fullR kind d 0).length := by
  have h : 0 < statesN kind := by unfold statesN; split <;> decide
  unfold fullR; rw [if_pos h, fullZ_length, off_succ]; omega
/-- What Worst says. -/
def wE (kind : Nat) (depth degree p q g r : Int) : Int := if validB kind depth degree p q g = true then (if r < 0 ∨ r > ((2 ^ depth.toNat : Nat) : Int) then 2 else 0) else 30
def wN (kind : Nat) (depth degree p q g r : Int) : Int := if wE kind depth degree p q g r = 0 then (worstZ (fullR kind depth.toNat) depth.toNat r.toNat).1 else 0
theorem Worst_pure (kind : Nat) (depth degree p q g r : Int) :
    Pure Go.Proofs.Try.prog 14 [scheme kind depth degree p q g, .v (.int .i64 r)] ⟨.tup [.v (.int .i64 (wN kind depth degree p q g r)), .v (.int .i64 (wE kind depth degree p q g r))], []⟩ := by
  refine pure_sz pf eqOk_none (env_ok [38, 39] rfl) fun _ => ⟨60, ?_⟩
  cases hv : validB kind depth degree p q g with
  | false =>
    have e1 : wE kind depth degree p q g r = 30 := by simp [wE, hv]
    have e2 : wN kind depth degree p q g r = 0 := by simp [wN, e1]
    rw [e1, e2]
    conv => whnf
    refine ⟨_, asked_bad kind depth degree p q g r hv, ?_⟩
    conv => whnf
    left
    conv => whnf
    try rfl
  | true =>
    have hv2 := hv
    simp only [validB, decide_eq_true_eq] at hv
    obtain ⟨h1, h2, h3, h4, rfl, rfl, rfl, rfl⟩ := hv
    obtain ⟨d, rfl⟩ : ∃ d : Nat, depth = d := ⟨depth.toNat, by omega⟩
    by_cases hr : r < 0 ∨ r > ((2 ^ d : Nat) : Int)
    · have e1 : wE kind d 0 0 0 0 r = 2 := by unfold wE; rw [if_pos hv2, Int.toNat_natCast, if_pos hr]
      have e2 : wN kind d 0 0 0 0 r = 0 := by simp [wN, e1]
      rw [e1, e2]
      conv => whnf
      refine ⟨_, asked_arg kind d r h1 h2 (by omega) hr, ?_⟩
      conv => whnf
      left
      conv => whnf
      try rfl
    · obtain ⟨k, rfl⟩ : ∃ k : Nat, r = k := ⟨r.toNat, by omega⟩
      have e1 : wE kind d 0 0 0 0 k = 0 := by unfold wE; rw [if_pos hv2, Int.toNat_natCast, if_neg hr]
      have e2 : wN kind d 0 0 0 0 k = (worstZ (fullR kind d) d k).1 := by unfold wN; rw [if_pos e1, Int.toNat_natCast, Int.toNat_natCast]
      rw [e1, e2]
      conv => whnf
      refine ⟨_, asked_ok kind d k h1 h2 (by omega) (by omega), ?_⟩
      conv => whnf
      refine ⟨_, worstp_pure kind d (statesN kind) (fullR kind d) k (by omega) (fullR_len kind d) (by omega), ?_⟩
      conv => whnf
      left
      conv => whnf
      try rfl
end Go.YtoeophdffhmpmaaE
end

section
set_option linter.unusedVariables false
set_option linter.unusedSimpArgs false
set_option maxRecDepth 100000
set_option maxHeartbeats 4000000
namespace Go.YtoeophdffhmpmaaE
open Go Go.RowKit

def appR (rec : RunT) (nb nl : Nat) (c : Code) (ts : List A) (hp : List Blk) (lp : List Lp) (k : K) : Prop := rec nb nl c ts hp lp k
theorem appR_intro {rec : RunT} {nb nl : Nat} {c : Code} {ts : List A} {hp : List Blk} {lp : List Lp} {k : K} (h : appR rec nb nl c ts hp lp k) : rec nb nl c ts hp lp k := h
theorem appR_mk {rec : RunT} {nb nl : Nat} {c : Code} {ts : List A} {hp : List Blk} {lp : List Lp} {k : K} (h : rec nb nl c ts hp lp k) : appR rec nb nl c ts hp lp k := h
/-- A row that is being made: nothing yet, or a block of the own heap. -/
def OutRel (hp : List Blk) (out : A) (xs : List Int) : Prop :=
  (xs = [] ∧ out = .v (.slice none 0 0)) ∨ ∃ b ver, out = .sl b ver 1 0 xs.length ∧ hp.getD b .hole = .rw false false ver 1 (ints xs)
theorem getD_snoc (hp : List Blk) (x : Blk) : (hp ++ [x]).getD (0 + hp.length) .hole = x := by
  simp [List.getD_eq_getElem?_getD]
theorem getD_snoc_lt {hp : List Blk} {x y : Blk} {b : Nat} (h : hp.getD b .hole = y) (hy : y ≠ .hole) : (hp ++ [x]).getD b .hole = y := by
  have hl := lt_of_getD (show hp.getD b .hole ≠ .hole by rw [h]; exact hy)
  simp only [List.getD_eq_getElem?_getD] at h ⊢
  rw [List.getElem?_append_left hl]; exact h
def codeOf (P : Program) (f : Nat) : Code := (((P.funcs[f]?).bind (·.body))).getD .skip
theorem fullR_row (kind depth s g : Nat) (hs : s < statesN kind) (hg : g ≤ depth) : row (fullR kind depth) s g = lvl kind depth g s := by
  unfold row fullR; rw [if_pos hs]
  have := fillL_row kind depth s (off (depth + 1)) g hg (off_mono (by omega))
  rwa [fillL_all _ _ (Nat.le_of_eq (fullZ_length _ _ _))] at this
theorem fullR_len2 (kind depth s g : Nat) (hs : s < statesN kind) (hg : g ≤ depth) : off g + 2 ^ g + 1 ≤ (fullR kind depth s).length := by
  unfold fullR; rw [if_pos hs, fullZ_length]
  have := off_mono (show g + 1 ≤ depth + 1 by omega)
  rw [off_succ] at this; omega
theorem states_pos (kind : Nat) : 0 < statesN kind := by unfold statesN; split <;> decide
theorem below_lt (kind depth st h : Nat) (h1 : 1 ≤ kind) (h3 : kind ≤ 3) (hne : kind ≠ 1) (hst : st < 4) : belowN kind depth st h < statesN kind := by
  have : kind = 2 ∨ kind = 3 := by omega
  rcases this with rfl | rfl
  · exact (show 1 < 2 by decide)
  · exact belowN_lt _ _ _ _ hst
/-- The greatest value of an entry, and the least a that has it, out of the heights' entries. -/
def bestL (kind depth g st k : Nat) : Int × Nat × Bool := bestZ kind (lvl kind depth g 0) (lvl kind depth g (belowN kind depth st (g + 1))) (moreZ st) g k
theorem bestL_eq (kind depth g st k : Nat) (h1 : 1 ≤ kind) (h3 : kind ≤ 3) (hst : st < 4) (hg : g ≤ depth) :
    bestZ kind (row (fullR kind depth) 0 g) (row (fullR kind depth) (belowN kind depth st (g + 1)) g) (moreZ st) g k = bestL kind depth g st k := by
  rw [fullR_row kind depth 0 g (states_pos kind) hg]
  by_cases hne : kind = 1
  · subst hne; exact bestZ_one ..
  · rw [fullR_row kind depth _ g (below_lt kind depth st (g + 1) h1 h3 hne hst) hg]; rfl
theorem bestL_pure (kind depth g st k : Nat) (h1 : 1 ≤ kind) (h3 : kind ≤ 3) (hst : st < 4) (hh : g + 1 ≤ depth) (hd : depth ≤ 6) (hk : k ≤ 2 ^ (g + 1)) :
    Pure Go.Proofs.Try.prog 82 [tb kind depth (fullR kind depth) (statesN kind), .v (.int .i64 st), .v (.int .i64 (g + 1 : Nat)), .v (.int .i64 k)] ⟨.tup [.v (.int .i64 (bestL kind depth g st k).1), .v (.int .i64 (bestL kind depth g st k).2.1)], []⟩ := by
  have := bestp_pure kind depth (statesN kind) (fullR kind depth) st g k hst hh hd (fullR_len2 kind depth 0 g (states_pos kind) (by omega)) (fun hne => fullR_len2 kind depth _ g (below_lt kind depth st (g + 1) h1 h3 hne hst) (by omega))
    (by rw [fullR_row kind depth 0 g (states_pos kind) (by omega)]; exact lvl_small kind depth g 0 (by omega)) hk
  rwa [bestL_eq kind depth g st k h1 h3 hst (by omega)] at this
theorem gr_at (f : Nat → Int) : ∀ (n a : Nat) (m : Int) (b : Nat) (no : Bool) (lo hi : Nat), lo ≤ a → a + n ≤ hi → (no = false → lo ≤ b ∧ b < hi) → (no = true → 0 < n) → lo ≤ (gr f n a m b no).2.1 ∧ (gr f n a m b no).2.1 < hi := by
  intro n
  induction n with
  | zero =>
    intro a m b no lo hi h1 h2 h3 h4
    cases no
    · exact h3 rfl
    · exact absurd (h4 rfl) (by omega)
  | succ n ih =>
    intro a m b no lo hi h1 h2 h3 h4
    rw [gr]
    split
    · exact ih _ _ _ _ lo hi (by omega) (by omega) (fun _ => ⟨h1, by omega⟩) (fun h => by cases h)
    · rename_i hno
      have hf : no = false := by cases no; rfl; exact absurd (.inl rfl) hno
      exact ih _ _ _ _ lo hi (by omega) (by omega) (fun _ => h3 hf) (fun h => by rw [hf] at h; cases h)
theorem bestL_at (kind depth g st k : Nat) (hk : k ≤ 2 ^ (g + 1)) : (bestL kind depth g st k).2.1 ≤ k ∧ (bestL kind depth g st k).2.1 ≤ 2 ^ g ∧ k - (bestL kind depth g st k).2.1 ≤ 2 ^ g := by
  have hp2 : 2 ^ (g + 1) = 2 * 2 ^ g := by rw [Nat.pow_succ, Nat.mul_comm]
  have := gr_at (valZ kind (lvl kind depth g 0) (lvl kind depth g (belowN kind depth st (g + 1))) (moreZ st) k) (min k (2 ^ g) + 1 - (k - 2 ^ g)) (k - 2 ^ g) 0 0 true (k - 2 ^ g) (min k (2 ^ g) + 1) (Nat.le_refl _) (by omega) (fun h => by cases h) (fun _ => by omega)
  unfold bestL bestZ
  omega
def nextN (kind depth : Nat) (g st k a : Nat) : Nat := if kind ≠ 1 ∧ (a = 0 ∨ a = k) then belowN kind depth st (g + 1) else 0
/-- The receivers that are revoked below a node. -/
def listZ (kind depth : Nat) : Nat → Nat → Nat → Nat → List Int
  | 0, node, st, k => if k = 0 then [] else [(node : Int) - ((2 ^ depth : Nat) : Int)]
  | g + 1, node, st, k => if k = 0 then [] else
    listZ kind depth g (2 * node) (nextN kind depth g st k (bestL kind depth g st k).2.1) (bestL kind depth g st k).2.1 ++
      listZ kind depth g (2 * node + 1) (nextN kind depth g st k (bestL kind depth g st k).2.1) (k - (bestL kind depth g st k).2.1)
theorem listZ_length (kind depth : Nat) : ∀ h node st k, (listZ kind depth h node st k).length ≤ 2 ^ h := by
  intro h
  induction h with
  | zero => intro node st k; unfold listZ; split <;> simp
  | succ g ih =>
    intro node st k
    have hp2 : 2 ^ (g + 1) = 2 * 2 ^ g := by rw [Nat.pow_succ, Nat.mul_comm]
    rw [listZ]
    split
    · simp
    · rw [List.length_append]
      have a := ih (2 * node) (nextN kind depth g st k (bestL kind depth g st k).2.1) (bestL kind depth g st k).2.1
      have b := ih (2 * node + 1) (nextN kind depth g st k (bestL kind depth g st k).2.1) (k - (bestL kind depth g st k).2.1)
      omega
theorem list_run (E : EqT) (kind depth : Nat) (hk1 : 1 ≤ kind) (hk3 : kind ≤ 3) (hd : depth ≤ 6) :
    ∀ (h node st k n nb nl : Nat) (hp : List Blk) (out : A) (xs : List Int) (K : K), h ≤ depth → node + 1 ≤ 2 ^ (7 - h) → st < 4 → k ≤ 2 ^ h → 100 * (h + 1) ≤ n → OutRel hp out xs → xs.length + 2 ^ h ≤ 1000 →
      (∀ j hp' out', OutRel hp' out' (xs ++ listZ kind depth h node st k) → K .ret (mkJ 82 [(12, out')] j) hp' []) →
      run Go.Proofs.Try.prog E (envL Go.Proofs.Try.prog [82, 83]) n nb nl (codeOf Go.Proofs.Try.prog 43)
        (mkT 82 [(0, tb kind depth (fullR kind depth) (statesN kind)), (1, out), (2, .v (.int .i64 node)), (3, .v (.int .i64 st)), (4, .v (.int .i64 h)), (5, .v (.int .i64 k))]) hp [] K := by
  intro h
  induction h with
  | zero =>
    intro node st k n nb nl hp out xs K hh hnode hst hk hn ho hx hK
    obtain ⟨n, rfl⟩ : ∃ m, n = m + 100 := ⟨n - 100, by omega⟩
    have hp6 := pow_le6 hd
    have hn128 : node + 1 ≤ 128 := hnode
    rcases ho with ⟨rfl, rfl⟩ | ⟨b, ver, rfl, hb⟩
    · conv => whnf
      refine cndK_intro (fun h1 => ?_) (fun h1 => ?_)
      · have hk0 : k = 0 := by simp at h1; omega
        conv => whnf
        exact useJ (fun j => hK j hp _ (by rw [listZ, if_pos hk0]; exact .inl ⟨rfl, rfl⟩)) rfl
      · have hk0 : k ≠ 0 := by simp at h1; omega
        conv => whnf
        refine ⟨by omega, ?_⟩
        conv => whnf
        rw [shl1 hd, wrap64 (n := (node : Int) - ((2 ^ depth : Nat) : Int)) (by omega) (by omega)]
        refine lenK_intro ?_
        conv => whnf
        refine snoc1_intro ?_
        conv => whnf
        rw [getD_snoc]
        conv => whnf
        rw [getD_snoc]
        conv => whnf
        refine ⟨Nat.le_refl 1, ?_⟩
        conv => whnf
        refine ⟨fun h => by simp at h, fun _ => ⟨⟨by show ((1 : Nat) : Int) * ((8 : Nat) : Int) ≤ 70368744177664; decide, by simp⟩, ?_⟩⟩
        conv => whnf
        refine lenK_intro ?_
        conv => whnf
        refine snoc1_intro ?_
        conv => whnf
        exact useJ (fun j => hK j _ _ (by rw [listZ, if_neg hk0]; exact .inr ⟨_, 0, rfl, getD_snoc _ _⟩)) rfl
    · conv => whnf
      refine cndK_intro (fun h1 => ?_) (fun h1 => ?_)
      · have hk0 : k = 0 := by simp at h1; omega
        conv => whnf
        exact useJ (fun j => hK j hp _ (by rw [listZ, if_pos hk0, List.append_nil]; exact .inr ⟨b, ver, rfl, hb⟩)) rfl
      · have hk0 : k ≠ 0 := by simp at h1; omega
        conv => whnf
        refine ⟨by omega, ?_⟩
        conv => whnf
        rw [shl1 hd, wrap64 (n := (node : Int) - ((2 ^ depth : Nat) : Int)) (by omega) (by omega)]
        refine lenK_intro ?_
        conv => whnf
        refine snoc1_intro ?_
        conv => whnf
        rw [getD_snoc]
        conv => whnf
        rw [getD_snoc]
        conv => whnf
        refine ⟨Nat.le_refl 1, ?_⟩
        conv => whnf
        rw [getD_snoc_lt hb Blk.noConfusion]
        conv => whnf
        rw [show (ver == ver && 1 == 1 && 0 + 1 == 1) = true from by simp]
        conv => whnf
        refine ⟨⟨rfl, by rw [ints_length]; exact Nat.le_refl _, by show ((xs.length + 1 : Nat) : Int) * ((8 : Nat) : Int) ≤ 70368744177664; omega, fun c hc => by simp at hc; rw [hc]; rfl⟩, ints (xs ++ [(node : Int) - ((2 ^ depth : Nat) : Int)]), ?_, ?_⟩
        · rw [List.take_of_length_le (by rw [ints_length]; exact Nat.le_refl _)]; simp [ints]
        · refine setK_intro ?_
          conv => whnf
          have hbl := lt_of_getD (show hp.getD b .hole ≠ .hole by rw [hb]; exact Blk.noConfusion)
          refine useJ (fun j => hK j _ _ ?_) rfl
          rw [listZ, if_neg hk0]
          refine .inr ⟨b, ver + 1, by simp, ?_⟩
          simp [List.getD_eq_getElem?_getD, show b < hp.length + 1 by omega]
  | succ g ih =>
    intro node st k n nb nl hp out xs K hh hnode hst hk hn ho hx hK
    obtain ⟨n, rfl⟩ : ∃ m, n = m + 100 := ⟨n - 100, by omega⟩
    have hp6 := pow_le6 (show g ≤ 6 by omega)
    have hp2 : 2 ^ (g + 1) = 2 * 2 ^ g := by rw [Nat.pow_succ, Nat.mul_comm]
    have e7 : 2 ^ (7 - g) = 2 * 2 ^ (7 - (g + 1)) := by rw [show 7 - g = (7 - (g + 1)) + 1 by omega, Nat.pow_succ, Nat.mul_comm]
    have hn64 : 2 ^ (7 - (g + 1)) ≤ 64 := (pow_le6 (show 7 - (g + 1) ≤ 6 by omega)).2
    obtain ⟨a1, a2, a3⟩ := bestL_at kind depth g st k hk
    have w1 : IntKind.i64.wrap (2 * (node : Int)) = ((2 * node : Nat) : Int) := by rw [wrap64 (by omega) (by omega)]; omega
    have w2 : IntKind.i64.wrap (((2 * node : Nat) : Int) + 1) = ((2 * node + 1 : Nat) : Int) := by rw [wrap64 (by omega) (by omega)]; omega
    have w3 : IntKind.i64.wrap (((g + 1 : Nat) : Int) - 1) = (g : Int) := by rw [wrap64 (by omega) (by omega)]; omega
    have w4 : IntKind.i64.wrap ((k : Int) - ((bestL kind depth g st k).2.1 : Int)) = ((k - (bestL kind depth g st k).2.1 : Nat) : Int) := by rw [wrap64 (by omega) (by omega)]; omega
    rcases ho with ⟨rfl, rfl⟩ | ⟨b, ver, rfl, hb⟩
    · conv => whnf
      refine cndK_intro (fun h1 => ?_) (fun h1 => ?_)
      · have hk0 : k = 0 := by simp at h1; omega
        conv => whnf
        exact useJ (fun j => hK j hp _ (by rw [listZ, if_pos hk0, List.append_nil]; exact (.inl ⟨rfl, rfl⟩))) rfl
      have hk0 : k ≠ 0 := by simp at h1; omega
      conv => whnf
      refine ⟨_, bestL_pure kind depth g st k hk1 hk3 hst hh hd hk, ?_⟩
      generalize hA : (bestL kind depth g st k).2.1 = a at *
      generalize (bestL kind depth g st k).1 = v
      conv => whnf
      refine cndK_intro (fun h2 => ?_) (fun h2 => ?_)
      rotate_left
      · have hnx : nextN kind depth g st k a = 0 := by
          unfold nextN; rw [if_neg]; simp at h2; intro h; exact h.1 (by omega)
        try rw [h2]
        conv => whnf
        rw [w1, w3]
        refine lenK_intro (lenK_intro ?_)
        have L2 := fun K HK => ih (2 * node) 0 a (n + 93) (0 + hp.length) (0 + ([] : List Lp).length) hp (.v (.slice none 0 0)) ([] : List Int) K (by omega) (by omega) (by decide) a2 (by omega) (.inl ⟨rfl, rfl⟩) (by first | omega | (simp; omega)) HK
        refine appR_intro ?_
        refine (fun K HK => appR_mk (L2 K HK) : ∀ K, _ → appR (run Go.Proofs.Try.prog E (envL Go.Proofs.Try.prog [82, 83]) (n + 93)) _ _ _ _ _ _ K) _ fun j hp2 out2 ho2 => ?_
        clear L2
        have hl2 := listZ_length kind depth g (2 * node) 0 a
        have hl3 : (([] : List Int) ++ listZ kind depth g (2 * node) 0 a).length + 2 ^ g ≤ 1000 := by rw [List.length_append]; (first | omega | (simp; omega))
        rcases ho2 with ⟨hx2, rfl⟩ | ⟨b2, ver2, rfl, hb2⟩
        · conv => whnf
          rw [w1, w2, w3, w4]
          refine lenK_intro (lenK_intro ?_)
          have L3 := fun K HK => ih (2 * node + 1) 0 (k - a) (n + 92) (0 + hp2.length) (0 + ([] : List Lp).length) hp2 (.v (.slice none 0 0)) (([] : List Int) ++ listZ kind depth g (2 * node) 0 a) K (by omega) (by omega) (by decide) a3 (by omega) (.inl ⟨hx2, rfl⟩) hl3 HK
          refine appR_intro ?_
          refine (fun K HK => appR_mk (L3 K HK) : ∀ K, _ → appR (run Go.Proofs.Try.prog E (envL Go.Proofs.Try.prog [82, 83]) (n + 92)) _ _ _ _ _ _ K) _ fun j3 hp3 out3 ho3 => ?_
          clear L3
          have ho4 : OutRel hp3 out3 (([] : List Int) ++ listZ kind depth (g + 1) node st k) := by
            rw [listZ, if_neg hk0, hA, hnx, ← List.append_assoc]
            first | exact ho3 | (rw [hx2]; exact ho3)
          rcases ho3 with ⟨hx3, rfl⟩ | ⟨b3, ver3, rfl, hb3⟩
          · conv => whnf
            exact useJ (fun j => hK j hp3 _ ho4) rfl
          · conv => whnf
            exact useJ (fun j => hK j hp3 _ ho4) rfl
        · conv => whnf
          rw [w1, w2, w3, w4]
          refine lenK_intro (lenK_intro ?_)
          have L3 := fun K HK => ih (2 * node + 1) 0 (k - a) (n + 92) (0 + hp2.length) (0 + ([] : List Lp).length) hp2 (.sl b2 ver2 1 0 (([] : List Int) ++ listZ kind depth g (2 * node) 0 a).length) (([] : List Int) ++ listZ kind depth g (2 * node) 0 a) K (by omega) (by omega) (by decide) a3 (by omega) (.inr ⟨b2, ver2, rfl, hb2⟩) hl3 HK
          refine appR_intro ?_
          refine (fun K HK => appR_mk (L3 K HK) : ∀ K, _ → appR (run Go.Proofs.Try.prog E (envL Go.Proofs.Try.prog [82, 83]) (n + 92)) _ _ _ _ _ _ K) _ fun j3 hp3 out3 ho3 => ?_
          clear L3
          have ho4 : OutRel hp3 out3 (([] : List Int) ++ listZ kind depth (g + 1) node st k) := by
            rw [listZ, if_neg hk0, hA, hnx, ← List.append_assoc]
            first | exact ho3 | (rw [hx2]; exact ho3)
          rcases ho3 with ⟨hx3, rfl⟩ | ⟨b3, ver3, rfl, hb3⟩
          · conv => whnf
            exact useJ (fun j => hK j hp3 _ ho4) rfl
          · conv => whnf
            exact useJ (fun j => hK j hp3 _ ho4) rfl
      · rw [h2]
        conv => whnf
        refine cndK_intro (fun h3 => ?_) (fun h3 => ?_)
        · have hnx : nextN kind depth g st k a = belowN kind depth st (g + 1) := by
            unfold nextN; rw [if_pos]; simp at h2 h3; exact ⟨by omega, by omega⟩
          rw [h3]
          conv => whnf
          refine ⟨_, belowp_pure kind depth (statesN kind) (fullR kind depth) st (g + 1) hst hh hd, ?_⟩
          conv => whnf
          rw [w1, w3]
          refine lenK_intro (lenK_intro ?_)
          have L2 := fun K HK => ih (2 * node) (belowN kind depth st (g + 1)) a (n + 93) (0 + hp.length) (0 + ([] : List Lp).length) hp (.v (.slice none 0 0)) ([] : List Int) K (by omega) (by omega) (belowN_lt _ _ _ _ hst) a2 (by omega) (.inl ⟨rfl, rfl⟩) (by first | omega | (simp; omega)) HK
          refine appR_intro ?_
          refine (fun K HK => appR_mk (L2 K HK) : ∀ K, _ → appR (run Go.Proofs.Try.prog E (envL Go.Proofs.Try.prog [82, 83]) (n + 93)) _ _ _ _ _ _ K) _ fun j hp2 out2 ho2 => ?_
          clear L2
          have hl2 := listZ_length kind depth g (2 * node) (belowN kind depth st (g + 1)) a
          have hl3 : (([] : List Int) ++ listZ kind depth g (2 * node) (belowN kind depth st (g + 1)) a).length + 2 ^ g ≤ 1000 := by rw [List.length_append]; (first | omega | (simp; omega))
          rcases ho2 with ⟨hx2, rfl⟩ | ⟨b2, ver2, rfl, hb2⟩
          · conv => whnf
            rw [w1, w2, w3, w4]
            refine lenK_intro (lenK_intro ?_)
            have L3 := fun K HK => ih (2 * node + 1) (belowN kind depth st (g + 1)) (k - a) (n + 92) (0 + hp2.length) (0 + ([] : List Lp).length) hp2 (.v (.slice none 0 0)) (([] : List Int) ++ listZ kind depth g (2 * node) (belowN kind depth st (g + 1)) a) K (by omega) (by omega) (belowN_lt _ _ _ _ hst) a3 (by omega) (.inl ⟨hx2, rfl⟩) hl3 HK
            refine appR_intro ?_
            refine (fun K HK => appR_mk (L3 K HK) : ∀ K, _ → appR (run Go.Proofs.Try.prog E (envL Go.Proofs.Try.prog [82, 83]) (n + 92)) _ _ _ _ _ _ K) _ fun j3 hp3 out3 ho3 => ?_
            clear L3
            have ho4 : OutRel hp3 out3 (([] : List Int) ++ listZ kind depth (g + 1) node st k) := by
              rw [listZ, if_neg hk0, hA, hnx, ← List.append_assoc]
              first | exact ho3 | (rw [hx2]; exact ho3)
            rcases ho3 with ⟨hx3, rfl⟩ | ⟨b3, ver3, rfl, hb3⟩
            · conv => whnf
              exact useJ (fun j => hK j hp3 _ ho4) rfl
            · conv => whnf
              exact useJ (fun j => hK j hp3 _ ho4) rfl
          · conv => whnf
            rw [w1, w2, w3, w4]
            refine lenK_intro (lenK_intro ?_)
            have L3 := fun K HK => ih (2 * node + 1) (belowN kind depth st (g + 1)) (k - a) (n + 92) (0 + hp2.length) (0 + ([] : List Lp).length) hp2 (.sl b2 ver2 1 0 (([] : List Int) ++ listZ kind depth g (2 * node) (belowN kind depth st (g + 1)) a).length) (([] : List Int) ++ listZ kind depth g (2 * node) (belowN kind depth st (g + 1)) a) K (by omega) (by omega) (belowN_lt _ _ _ _ hst) a3 (by omega) (.inr ⟨b2, ver2, rfl, hb2⟩) hl3 HK
            refine appR_intro ?_
            refine (fun K HK => appR_mk (L3 K HK) : ∀ K, _ → appR (run Go.Proofs.Try.prog E (envL Go.Proofs.Try.prog [82, 83]) (n + 92)) _ _ _ _ _ _ K) _ fun j3 hp3 out3 ho3 => ?_
            clear L3
            have ho4 : OutRel hp3 out3 (([] : List Int) ++ listZ kind depth (g + 1) node st k) := by
              rw [listZ, if_neg hk0, hA, hnx, ← List.append_assoc]
              first | exact ho3 | (rw [hx2]; exact ho3)
            rcases ho3 with ⟨hx3, rfl⟩ | ⟨b3, ver3, rfl, hb3⟩
            · conv => whnf
              exact useJ (fun j => hK j hp3 _ ho4) rfl
            · conv => whnf
              exact useJ (fun j => hK j hp3 _ ho4) rfl
        · rw [h3]
          conv => whnf
          refine cndK_intro (fun h4 => ?_) (fun h4 => ?_)
          · have hnx : nextN kind depth g st k a = belowN kind depth st (g + 1) := by
              unfold nextN; rw [if_pos]; simp at h2 h4; exact ⟨by omega, by omega⟩
            try rw [h4]
            conv => whnf
            refine ⟨_, belowp_pure kind depth (statesN kind) (fullR kind depth) st (g + 1) hst hh hd, ?_⟩
            conv => whnf
            rw [w1, w3]
            refine lenK_intro (lenK_intro ?_)
            have L2 := fun K HK => ih (2 * node) (belowN kind depth st (g + 1)) a (n + 93) (0 + hp.length) (0 + ([] : List Lp).length) hp (.v (.slice none 0 0)) ([] : List Int) K (by omega) (by omega) (belowN_lt _ _ _ _ hst) a2 (by omega) (.inl ⟨rfl, rfl⟩) (by first | omega | (simp; omega)) HK
            refine appR_intro ?_
            refine (fun K HK => appR_mk (L2 K HK) : ∀ K, _ → appR (run Go.Proofs.Try.prog E (envL Go.Proofs.Try.prog [82, 83]) (n + 93)) _ _ _ _ _ _ K) _ fun j hp2 out2 ho2 => ?_
            clear L2
            have hl2 := listZ_length kind depth g (2 * node) (belowN kind depth st (g + 1)) a
            have hl3 : (([] : List Int) ++ listZ kind depth g (2 * node) (belowN kind depth st (g + 1)) a).length + 2 ^ g ≤ 1000 := by rw [List.length_append]; (first | omega | (simp; omega))
            rcases ho2 with ⟨hx2, rfl⟩ | ⟨b2, ver2, rfl, hb2⟩
            · conv => whnf
              rw [w1, w2, w3, w4]
              refine lenK_intro (lenK_intro ?_)
              have L3 := fun K HK => ih (2 * node + 1) (belowN kind depth st (g + 1)) (k - a) (n + 92) (0 + hp2.length) (0 + ([] : List Lp).length) hp2 (.v (.slice none 0 0)) (([] : List Int) ++ listZ kind depth g (2 * node) (belowN kind depth st (g + 1)) a) K (by omega) (by omega) (belowN_lt _ _ _ _ hst) a3 (by omega) (.inl ⟨hx2, rfl⟩) hl3 HK
              refine appR_intro ?_
              refine (fun K HK => appR_mk (L3 K HK) : ∀ K, _ → appR (run Go.Proofs.Try.prog E (envL Go.Proofs.Try.prog [82, 83]) (n + 92)) _ _ _ _ _ _ K) _ fun j3 hp3 out3 ho3 => ?_
              clear L3
              have ho4 : OutRel hp3 out3 (([] : List Int) ++ listZ kind depth (g + 1) node st k) := by
                rw [listZ, if_neg hk0, hA, hnx, ← List.append_assoc]
                first | exact ho3 | (rw [hx2]; exact ho3)
              rcases ho3 with ⟨hx3, rfl⟩ | ⟨b3, ver3, rfl, hb3⟩
              · conv => whnf
                exact useJ (fun j => hK j hp3 _ ho4) rfl
              · conv => whnf
                exact useJ (fun j => hK j hp3 _ ho4) rfl
            · conv => whnf
              rw [w1, w2, w3, w4]
              refine lenK_intro (lenK_intro ?_)
              have L3 := fun K HK => ih (2 * node + 1) (belowN kind depth st (g + 1)) (k - a) (n + 92) (0 + hp2.length) (0 + ([] : List Lp).length) hp2 (.sl b2 ver2 1 0 (([] : List Int) ++ listZ kind depth g (2 * node) (belowN kind depth st (g + 1)) a).length) (([] : List Int) ++ listZ kind depth g (2 * node) (belowN kind depth st (g + 1)) a) K (by omega) (by omega) (belowN_lt _ _ _ _ hst) a3 (by omega) (.inr ⟨b2, ver2, rfl, hb2⟩) hl3 HK
              refine appR_intro ?_
              refine (fun K HK => appR_mk (L3 K HK) : ∀ K, _ → appR (run Go.Proofs.Try.prog E (envL Go.Proofs.Try.prog [82, 83]) (n + 92)) _ _ _ _ _ _ K) _ fun j3 hp3 out3 ho3 => ?_
              clear L3
              have ho4 : OutRel hp3 out3 (([] : List Int) ++ listZ kind depth (g + 1) node st k) := by
                rw [listZ, if_neg hk0, hA, hnx, ← List.append_assoc]
                first | exact ho3 | (rw [hx2]; exact ho3)
              rcases ho3 with ⟨hx3, rfl⟩ | ⟨b3, ver3, rfl, hb3⟩
              · conv => whnf
                exact useJ (fun j => hK j hp3 _ ho4) rfl
              · conv => whnf
                exact useJ (fun j => hK j hp3 _ ho4) rfl
          · have hnx : nextN kind depth g st k a = 0 := by
              unfold nextN; rw [if_neg]; simp at h2 h3 h4; omega
            try rw [h4]
            conv => whnf
            rw [w1, w3]
            refine lenK_intro (lenK_intro ?_)
            have L2 := fun K HK => ih (2 * node) 0 a (n + 93) (0 + hp.length) (0 + ([] : List Lp).length) hp (.v (.slice none 0 0)) ([] : List Int) K (by omega) (by omega) (by decide) a2 (by omega) (.inl ⟨rfl, rfl⟩) (by first | omega | (simp; omega)) HK
            refine appR_intro ?_
            refine (fun K HK => appR_mk (L2 K HK) : ∀ K, _ → appR (run Go.Proofs.Try.prog E (envL Go.Proofs.Try.prog [82, 83]) (n + 93)) _ _ _ _ _ _ K) _ fun j hp2 out2 ho2 => ?_
            clear L2
            have hl2 := listZ_length kind depth g (2 * node) 0 a
            have hl3 : (([] : List Int) ++ listZ kind depth g (2 * node) 0 a).length + 2 ^ g ≤ 1000 := by rw [List.length_append]; (first | omega | (simp; omega))
            rcases ho2 with ⟨hx2, rfl⟩ | ⟨b2, ver2, rfl, hb2⟩
            · conv => whnf
              rw [w1, w2, w3, w4]
              refine lenK_intro (lenK_intro ?_)
              have L3 := fun K HK => ih (2 * node + 1) 0 (k - a) (n + 92) (0 + hp2.length) (0 + ([] : List Lp).length) hp2 (.v (.slice none 0 0)) (([] : List Int) ++ listZ kind depth g (2 * node) 0 a) K (by omega) (by omega) (by decide) a3 (by omega) (.inl ⟨hx2, rfl⟩) hl3 HK
              refine appR_intro ?_
              refine (fun K HK => appR_mk (L3 K HK) : ∀ K, _ → appR (run Go.Proofs.Try.prog E (envL Go.Proofs.Try.prog [82, 83]) (n + 92)) _ _ _ _ _ _ K) _ fun j3 hp3 out3 ho3 => ?_
              clear L3
              have ho4 : OutRel hp3 out3 (([] : List Int) ++ listZ kind depth (g + 1) node st k) := by
                rw [listZ, if_neg hk0, hA, hnx, ← List.append_assoc]
                first | exact ho3 | (rw [hx2]; exact ho3)
              rcases ho3 with ⟨hx3, rfl⟩ | ⟨b3, ver3, rfl, hb3⟩
              · conv => whnf
                exact useJ (fun j => hK j hp3 _ ho4) rfl
              · conv => whnf
                exact useJ (fun j => hK j hp3 _ ho4) rfl
            · conv => whnf
              rw [w1, w2, w3, w4]
              refine lenK_intro (lenK_intro ?_)
              have L3 := fun K HK => ih (2 * node + 1) 0 (k - a) (n + 92) (0 + hp2.length) (0 + ([] : List Lp).length) hp2 (.sl b2 ver2 1 0 (([] : List Int) ++ listZ kind depth g (2 * node) 0 a).length) (([] : List Int) ++ listZ kind depth g (2 * node) 0 a) K (by omega) (by omega) (by decide) a3 (by omega) (.inr ⟨b2, ver2, rfl, hb2⟩) hl3 HK
              refine appR_intro ?_
              refine (fun K HK => appR_mk (L3 K HK) : ∀ K, _ → appR (run Go.Proofs.Try.prog E (envL Go.Proofs.Try.prog [82, 83]) (n + 92)) _ _ _ _ _ _ K) _ fun j3 hp3 out3 ho3 => ?_
              clear L3
              have ho4 : OutRel hp3 out3 (([] : List Int) ++ listZ kind depth (g + 1) node st k) := by
                rw [listZ, if_neg hk0, hA, hnx, ← List.append_assoc]
                first | exact ho3 | (rw [hx2]; exact ho3)
              rcases ho3 with ⟨hx3, rfl⟩ | ⟨b3, ver3, rfl, hb3⟩
              · conv => whnf
                exact useJ (fun j => hK j hp3 _ ho4) rfl
              · conv => whnf
                exact useJ (fun j => hK j hp3 _ ho4) rfl
    · conv => whnf
      refine cndK_intro (fun h1 => ?_) (fun h1 => ?_)
      · have hk0 : k = 0 := by simp at h1; omega
        conv => whnf
        exact useJ (fun j => hK j hp _ (by rw [listZ, if_pos hk0, List.append_nil]; exact (.inr ⟨b, ver, rfl, hb⟩))) rfl
      have hk0 : k ≠ 0 := by simp at h1; omega
      conv => whnf
      refine ⟨_, bestL_pure kind depth g st k hk1 hk3 hst hh hd hk, ?_⟩
      generalize hA : (bestL kind depth g st k).2.1 = a at *
      generalize (bestL kind depth g st k).1 = v
      conv => whnf
      refine cndK_intro (fun h2 => ?_) (fun h2 => ?_)
      rotate_left
      · have hnx : nextN kind depth g st k a = 0 := by
          unfold nextN; rw [if_neg]; simp at h2; intro h; exact h.1 (by omega)
        try rw [h2]
        conv => whnf
        rw [w1, w3]
        refine lenK_intro (lenK_intro ?_)
        have L2 := fun K HK => ih (2 * node) 0 a (n + 93) (0 + hp.length) (0 + ([] : List Lp).length) hp (.sl b ver 1 0 xs.length) xs K (by omega) (by omega) (by decide) a2 (by omega) (.inr ⟨b, ver, rfl, hb⟩) (by first | omega | (simp; omega)) HK
        refine appR_intro ?_
        refine (fun K HK => appR_mk (L2 K HK) : ∀ K, _ → appR (run Go.Proofs.Try.prog E (envL Go.Proofs.Try.prog [82, 83]) (n + 93)) _ _ _ _ _ _ K) _ fun j hp2 out2 ho2 => ?_
        clear L2
        have hl2 := listZ_length kind depth g (2 * node) 0 a
        have hl3 : (xs ++ listZ kind depth g (2 * node) 0 a).length + 2 ^ g ≤ 1000 := by rw [List.length_append]; (first | omega | (simp; omega))
        rcases ho2 with ⟨hx2, rfl⟩ | ⟨b2, ver2, rfl, hb2⟩
        · conv => whnf
          rw [w1, w2, w3, w4]
          refine lenK_intro (lenK_intro ?_)
          have L3 := fun K HK => ih (2 * node + 1) 0 (k - a) (n + 92) (0 + hp2.length) (0 + ([] : List Lp).length) hp2 (.v (.slice none 0 0)) (xs ++ listZ kind depth g (2 * node) 0 a) K (by omega) (by omega) (by decide) a3 (by omega) (.inl ⟨hx2, rfl⟩) hl3 HK
          refine appR_intro ?_
          refine (fun K HK => appR_mk (L3 K HK) : ∀ K, _ → appR (run Go.Proofs.Try.prog E (envL Go.Proofs.Try.prog [82, 83]) (n + 92)) _ _ _ _ _ _ K) _ fun j3 hp3 out3 ho3 => ?_
          clear L3
          have ho4 : OutRel hp3 out3 (xs ++ listZ kind depth (g + 1) node st k) := by
            rw [listZ, if_neg hk0, hA, hnx, ← List.append_assoc]
            first | exact ho3 | (rw [hx2]; exact ho3)
          rcases ho3 with ⟨hx3, rfl⟩ | ⟨b3, ver3, rfl, hb3⟩
          · conv => whnf
            exact useJ (fun j => hK j hp3 _ ho4) rfl
          · conv => whnf
            exact useJ (fun j => hK j hp3 _ ho4) rfl
        · conv => whnf
          rw [w1, w2, w3, w4]
          refine lenK_intro (lenK_intro ?_)
          have L3 := fun K HK => ih (2 * node + 1) 0 (k - a) (n + 92) (0 + hp2.length) (0 + ([] : List Lp).length) hp2 (.sl b2 ver2 1 0 (xs ++ listZ kind depth g (2 * node) 0 a).length) (xs ++ listZ kind depth g (2 * node) 0 a) K (by omega) (by omega) (by decide) a3 (by omega) (.inr ⟨b2, ver2, rfl, hb2⟩) hl3 HK
          refine appR_intro ?_
          refine (fun K HK => appR_mk (L3 K HK) : ∀ K, _ → appR (run Go.Proofs.Try.prog E (envL Go.Proofs.Try.prog [82, 83]) (n + 92)) _ _ _ _ _ _ K) _ fun j3 hp3 out3 ho3 => ?_
          clear L3
          have ho4 : OutRel hp3 out3 (xs ++ listZ kind depth (g + 1) node st k) := by
            rw [listZ, if_neg hk0, hA, hnx, ← List.append_assoc]
            first | exact ho3 | (rw [hx2]; exact ho3)
          rcases ho3 with ⟨hx3, rfl⟩ | ⟨b3, ver3, rfl, hb3⟩
          · conv => whnf
            exact useJ (fun j => hK j hp3 _ ho4) rfl
          · conv => whnf
            exact useJ (fun j => hK j hp3 _ ho4) rfl
      · rw [h2]
        conv => whnf
        refine cndK_intro (fun h3 => ?_) (fun h3 => ?_)
        · have hnx : nextN kind depth g st k a = belowN kind depth st (g + 1) := by
            unfold nextN; rw [if_pos]; simp at h2 h3; exact ⟨by omega, by omega⟩
          rw [h3]
          conv => whnf
          refine ⟨_, belowp_pure kind depth (statesN kind) (fullR kind depth) st (g + 1) hst hh hd, ?_⟩
          conv => whnf
          rw [w1, w3]
          refine lenK_intro (lenK_intro ?_)
          have L2 := fun K HK => ih (2 * node) (belowN kind depth st (g + 1)) a (n + 93) (0 + hp.length) (0 + ([] : List Lp).length) hp (.sl b ver 1 0 xs.length) xs K (by omega) (by omega) (belowN_lt _ _ _ _ hst) a2 (by omega) (.inr ⟨b, ver, rfl, hb⟩) (by first | omega | (simp; omega)) HK
          refine appR_intro ?_
          refine (fun K HK => appR_mk (L2 K HK) : ∀ K, _ → appR (run Go.Proofs.Try.prog E (envL Go.Proofs.Try.prog [82, 83]) (n + 93)) _ _ _ _ _ _ K) _ fun j hp2 out2 ho2 => ?_
          clear L2
          have hl2 := listZ_length kind depth g (2 * node) (belowN kind depth st (g + 1)) a
          have hl3 : (xs ++ listZ kind depth g (2 * node) (belowN kind depth st (g + 1)) a).length + 2 ^ g ≤ 1000 := by rw [List.length_append]; (first | omega | (simp; omega))
          rcases ho2 with ⟨hx2, rfl⟩ | ⟨b2, ver2, rfl, hb2⟩
          · conv => whnf
            rw [w1, w2, w3, w4]
            refine lenK_intro (lenK_intro ?_)
            have L3 := fun K HK => ih (2 * node + 1) (belowN kind depth st (g + 1)) (k - a) (n + 92) (0 + hp2.length) (0 + ([] : List Lp).length) hp2 (.v (.slice none 0 0)) (xs ++ listZ kind depth g (2 * node) (belowN kind depth st (g + 1)) a) K (by omega) (by omega) (belowN_lt _ _ _ _ hst) a3 (by omega) (.inl ⟨hx2, rfl⟩) hl3 HK
            refine appR_intro ?_
            refine (fun K HK => appR_mk (L3 K HK) : ∀ K, _ → appR (run Go.Proofs.Try.prog E (envL Go.Proofs.Try.prog [82, 83]) (n + 92)) _ _ _ _ _ _ K) _ fun j3 hp3 out3 ho3 => ?_
            clear L3
            have ho4 : OutRel hp3 out3 (xs ++ listZ kind depth (g + 1) node st k) := by
              rw [listZ, if_neg hk0, hA, hnx, ← List.append_assoc]
              first | exact ho3 | (rw [hx2]; exact ho3)
            rcases ho3 with ⟨hx3, rfl⟩ | ⟨b3, ver3, rfl, hb3⟩
            · conv => whnf
              exact useJ (fun j => hK j hp3 _ ho4) rfl
            · conv => whnf
              exact useJ (fun j => hK j hp3 _ ho4) rfl
          · conv => whnf
            rw [w1, w2, w3, w4]
            refine lenK_intro (lenK_intro ?_)
            have L3 := fun K HK => ih (2 * node + 1) (belowN kind depth st (g + 1)) (k - a) (n + 92) (0 + hp2.length) (0 + ([] : List Lp).length) hp2 (.sl b2 ver2 1 0 (xs ++ listZ kind depth g (2 * node) (belowN kind depth st (g + 1)) a).length) (xs ++ listZ kind depth g (2 * node) (belowN kind depth st (g + 1)) a) K (by omega) (by omega) (belowN_lt _ _ _ _ hst) a3 (by omega) (.inr ⟨b2, ver2, rfl, hb2⟩) hl3 HK
            refine appR_intro ?_
            refine (fun K HK => appR_mk (L3 K HK) : ∀ K, _ → appR (run Go.Proofs.Try.prog E (envL Go.Proofs.Try.prog [82, 83]) (n + 92)) _ _ _ _ _ _ K) _ fun j3 hp3 out3 ho3 => ?_
            clear L3
            have ho4 : OutRel hp3 out3 (xs ++ listZ kind depth (g + 1) node st k) := by
              rw [listZ, if_neg hk0, hA, hnx, ← List.append_assoc]
              first | exact ho3 | (rw [hx2]; exact ho3)
            rcases ho3 with ⟨hx3, rfl⟩ | ⟨b3, ver3, rfl, hb3⟩
            · conv => whnf
              exact useJ (fun j => hK j hp3 _ ho4) rfl
            · conv => whnf
              exact useJ (fun j => hK j hp3 _ ho4) rfl
        · rw [h3]
          conv => whnf
          refine cndK_intro (fun h4 => ?_) (fun h4 => ?_)
          · have hnx : nextN kind depth g st k a = belowN kind depth st (g + 1) := by
              unfold nextN; rw [if_pos]; simp at h2 h4; exact ⟨by omega, by omega⟩
            try rw [h4]
            conv => whnf
            refine ⟨_, belowp_pure kind depth (statesN kind) (fullR kind depth) st (g + 1) hst hh hd, ?_⟩
            conv => whnf
            rw [w1, w3]
            refine lenK_intro (lenK_intro ?_)
            have L2 := fun K HK => ih (2 * node) (belowN kind depth st (g + 1)) a (n + 93) (0 + hp.length) (0 + ([] : List Lp).length) hp (.sl b ver 1 0 xs.length) xs K (by omega) (by omega) (belowN_lt _ _ _ _ hst) a2 (by omega) (.inr ⟨b, ver, rfl, hb⟩) (by first | omega | (simp; omega)) HK
            refine appR_intro ?_
            refine (fun K HK => appR_mk (L2 K HK) : ∀ K, _ → appR (run Go.Proofs.Try.prog E (envL Go.Proofs.Try.prog [82, 83]) (n + 93)) _ _ _ _ _ _ K) _ fun j hp2 out2 ho2 => ?_
            clear L2
            have hl2 := listZ_length kind depth g (2 * node) (belowN kind depth st (g + 1)) a
            have hl3 : (xs ++ listZ kind depth g (2 * node) (belowN kind depth st (g + 1)) a).length + 2 ^ g ≤ 1000 := by rw [List.length_append]; (first | omega | (simp; omega))
            rcases ho2 with ⟨hx2, rfl⟩ | ⟨b2, ver2, rfl, hb2⟩
            · conv => whnf
              rw [w1, w2, w3, w4]
              refine lenK_intro (lenK_intro ?_)
              have L3 := fun K HK => ih (2 * node + 1) (belowN kind depth st (g + 1)) (k - a) (n + 92) (0 + hp2.length) (0 + ([] : List Lp).length) hp2 (.v (.slice none 0 0)) (xs ++ listZ kind depth g (2 * node) (belowN kind depth st (g + 1)) a) K (by omega) (by omega) (belowN_lt _ _ _ _ hst) a3 (by omega) (.inl ⟨hx2, rfl⟩) hl3 HK
              refine appR_intro ?_
              refine (fun K HK => appR_mk (L3 K HK) : ∀ K, _ → appR (run Go.Proofs.Try.prog E (envL Go.Proofs.Try.prog [82, 83]) (n + 92)) _ _ _ _ _ _ K) _ fun j3 hp3 out3 ho3 => ?_
              clear L3
              have ho4 : OutRel hp3 out3 (xs ++ listZ kind depth (g + 1) node st k) := by
                rw [listZ, if_neg hk0, hA, hnx, ← List.append_assoc]
                first | exact ho3 | (rw [hx2]; exact ho3)
              rcases ho3 with ⟨hx3, rfl⟩ | ⟨b3, ver3, rfl, hb3⟩
              · conv => whnf
                exact useJ (fun j => hK j hp3 _ ho4) rfl
              · conv => whnf
                exact useJ (fun j => hK j hp3 _ ho4) rfl
            · conv => whnf
              rw [w1, w2, w3, w4]
              refine lenK_intro (lenK_intro ?_)
              have L3 := fun K HK => ih (2 * node + 1) (belowN kind depth st (g + 1)) (k - a) (n + 92) (0 + hp2.length) (0 + ([] : List Lp).length) hp2 (.sl b2 ver2 1 0 (xs ++ listZ kind depth g (2 * node) (belowN kind depth st (g + 1)) a).length) (xs ++ listZ kind depth g (2 * node) (belowN kind depth st (g + 1)) a) K (by omega) (by omega) (belowN_lt _ _ _ _ hst) a3 (by omega) (.inr ⟨b2, ver2, rfl, hb2⟩) hl3 HK
              refine appR_intro ?_
              refine (fun K HK => appR_mk (L3 K HK) : ∀ K, _ → appR (run Go.Proofs.Try.prog E (envL Go.Proofs.Try.prog [82, 83]) (n + 92)) _ _ _ _ _ _ K) _ fun j3 hp3 out3 ho3 => ?_
              clear L3
              have ho4 : OutRel hp3 out3 (xs ++ listZ kind depth (g + 1) node st k) := by
                rw [listZ, if_neg hk0, hA, hnx, ← List.append_assoc]
                first | exact ho3 | (rw [hx2]; exact ho3)
              rcases ho3 with ⟨hx3, rfl⟩ | ⟨b3, ver3, rfl, hb3⟩
              · conv => whnf
                exact useJ (fun j => hK j hp3 _ ho4) rfl
              · conv => whnf
                exact useJ (fun j => hK j hp3 _ ho4) rfl
          · have hnx : nextN kind depth g st k a = 0 := by
              unfold nextN; rw [if_neg]; simp at h2 h3 h4; omega
            try rw [h4]
            conv => whnf
            rw [w1, w3]
            refine lenK_intro (lenK_intro ?_)
            have L2 := fun K HK => ih (2 * node) 0 a (n + 93) (0 + hp.length) (0 + ([] : List Lp).length) hp (.sl b ver 1 0 xs.length) xs K (by omega) (by omega) (by decide) a2 (by omega) (.inr ⟨b, ver, rfl, hb⟩) (by first | omega | (simp; omega)) HK
            refine appR_intro ?_
            refine (fun K HK => appR_mk (L2 K HK) : ∀ K, _ → appR (run Go.Proofs.Try.prog E (envL Go.Proofs.Try.prog [82, 83]) (n + 93)) _ _ _ _ _ _ K) _ fun j hp2 out2 ho2 => ?_
            clear L2
            have hl2 := listZ_length kind depth g (2 * node) 0 a
            have hl3 : (xs ++ listZ kind depth g (2 * node) 0 a).length + 2 ^ g ≤ 1000 := by rw [List.length_append]; (first | omega | (simp; omega))
            rcases ho2 with ⟨hx2, rfl⟩ | ⟨b2, ver2, rfl, hb2⟩
            · conv => whnf
              rw [w1, w2, w3, w4]
              refine lenK_intro (lenK_intro ?_)
              have L3 := fun K HK => ih (2 * node + 1) 0 (k - a) (n + 92) (0 + hp2.length) (0 + ([] : List Lp).length) hp2 (.v (.slice none 0 0)) (xs ++ listZ kind depth g (2 * node) 0 a) K (by omega) (by omega) (by decide) a3 (by omega) (.inl ⟨hx2, rfl⟩) hl3 HK
              refine appR_intro ?_
              refine (fun K HK => appR_mk (L3 K HK) : ∀ K, _ → appR (run Go.Proofs.Try.prog E (envL Go.Proofs.Try.prog [82, 83]) (n + 92)) _ _ _ _ _ _ K) _ fun j3 hp3 out3 ho3 => ?_
              clear L3
              have ho4 : OutRel hp3 out3 (xs ++ listZ kind depth (g + 1) node st k) := by
                rw [listZ, if_neg hk0, hA, hnx, ← List.append_assoc]
                first | exact ho3 | (rw [hx2]; exact ho3)
              rcases ho3 with ⟨hx3, rfl⟩ | ⟨b3, ver3, rfl, hb3⟩
              · conv => whnf
                exact useJ (fun j => hK j hp3 _ ho4) rfl
              · conv => whnf
                exact useJ (fun j => hK j hp3 _ ho4) rfl
            · conv => whnf
              rw [w1, w2, w3, w4]
              refine lenK_intro (lenK_intro ?_)
              have L3 := fun K HK => ih (2 * node + 1) 0 (k - a) (n + 92) (0 + hp2.length) (0 + ([] : List Lp).length) hp2 (.sl b2 ver2 1 0 (xs ++ listZ kind depth g (2 * node) 0 a).length) (xs ++ listZ kind depth g (2 * node) 0 a) K (by omega) (by omega) (by decide) a3 (by omega) (.inr ⟨b2, ver2, rfl, hb2⟩) hl3 HK
              refine appR_intro ?_
              refine (fun K HK => appR_mk (L3 K HK) : ∀ K, _ → appR (run Go.Proofs.Try.prog E (envL Go.Proofs.Try.prog [82, 83]) (n + 92)) _ _ _ _ _ _ K) _ fun j3 hp3 out3 ho3 => ?_
              clear L3
              have ho4 : OutRel hp3 out3 (xs ++ listZ kind depth (g + 1) node st k) := by
                rw [listZ, if_neg hk0, hA, hnx, ← List.append_assoc]
                first | exact ho3 | (rw [hx2]; exact ho3)
              rcases ho3 with ⟨hx3, rfl⟩ | ⟨b3, ver3, rfl, hb3⟩
              · conv => whnf
                exact useJ (fun j => hK j hp3 _ ho4) rfl
              · conv => whnf
                exact useJ (fun j => hK j hp3 _ ho4) rfl
end Go.YtoeophdffhmpmaaE
end

section
set_option linter.unusedVariables false
set_option linter.unusedSimpArgs false
set_option maxRecDepth 100000
set_option maxHeartbeats 1000000
namespace Go.YtoeophdffhmpmaaE
open Go Go.RowKit

theorem fnK_run {P : Program} {E : EqT} {env : Env} {f n : Nat} {xs : List A} {k : A → List Blk → Prop} {fn : Func} (hf : P.funcs[f]? = some fn) {c : Code} (hc : fn.body = some c)
    (h : run P E env n 0 0 c (xs ++ List.replicate (fn.ntmps - xs.length) .un) [] [] fun e ts hp lp => match e with | .exit _ => False | _ => resK P fn ts hp fun a => k a hp) : fnK P E env f n xs k := by
  unfold fnK
  rw [hf]
  show optK fn.body _
  rw [hc]
  show frameK fn xs _
  rw [frameK_eq]
  exact h
theorem list_pure (kind d k : Nat) (h1 : 1 ≤ kind) (h3 : kind ≤ 3) (hd : d ≤ 6) (hk : k ≤ 2 ^ d) :
    Pure Go.Proofs.Try.prog 43 [tb kind d (fullR kind d) (statesN kind), .v (.slice none 0 0), .v (.int .i64 1), .v (.int .i64 0), .v (.int .i64 d), .v (.int .i64 k)] ⟨.ro (ints (listZ kind d d 1 0 k)), []⟩ := by
  refine pure_sz pf eqOk_none (env_ok [82, 83] rfl) fun _ => ⟨800, ?_⟩
  have hp := pow_le6 hd
  have e7 : 2 ≤ 2 ^ (7 - d) := by
    match d, hd with
    | 0, _ | 1, _ | 2, _ | 3, _ | 4, _ | 5, _ | 6, _ => decide
  refine fnK_run (fn := Go.Proofs.Try.f43) (by kernel_rfl) (c := codeOf Go.Proofs.Try.prog 43) (by kernel_rfl) ?_
  have L := fun K HK => list_run (fun _ => none) kind d h1 h3 hd d 1 0 k 800 0 0 [] (.v (.slice none 0 0)) [] K (Nat.le_refl _) (by omega) (by decide) hk (by omega) (.inl ⟨rfl, rfl⟩) (by simp; omega) HK
  refine appR_intro ?_
  refine (fun K HK => appR_mk (L K HK) : ∀ K, _ → appR (run Go.Proofs.Try.prog (fun _ => none) (envL Go.Proofs.Try.prog [82, 83]) 800) _ _ _ _ _ _ K) _ fun j hp' out' ho => ?_
  rw [List.nil_append] at ho
  rcases ho with ⟨hx, rfl⟩ | ⟨b, ver, rfl, hb⟩
  · rw [hx]
    conv => whnf
    left
    conv => whnf
    refine Or.inl ?_
    conv => whnf
    try rfl
  · generalize listZ kind d d 1 0 k = xs at *
    conv => whnf
    left
    conv => whnf
    rw [hb]
    conv => whnf
    rw [show (ver == ver && 1 == 1) = true from by simp]
    conv => whnf
    refine ⟨by rw [ints_length]; omega, ?_⟩
    rw [ints_full rfl]
    have hbs : blocksR hp' (.sl b ver 1 0 xs.length) = [b] := by
      show (match hp'.getD b .hole with
        | .rw _ nx _ _ els => match nx with
          | false => [b]
          | true => b :: blocksW (blocksD 2 hp') ((els.drop 0).take xs.length)
        | _ => [b]) = [b]
      rw [hb]
    rw [hbs]
    conv => whnf
    rw [hb]
    conv => whnf
    refine setK_intro ?_
    conv => whnf
    try rfl
/-- What Witness says. -/
def wL (kind : Nat) (depth degree p q g r : Int) : List Int := if wE kind depth degree p q g r = 0 then listZ kind depth.toNat depth.toNat 1 0 (worstZ (fullR kind depth.toNat) depth.toNat r.toNat).2.1 else []
theorem worstZ_at (R : Nat → List Int) (d k : Nat) : (worstZ R d k).2.1 ≤ k := by
  have := gr_at (countZ R d) (k + 1) 0 0 0 true 0 (k + 1) (Nat.le_refl _) (by omega) (fun h => by cases h) (fun _ => by omega)
  unfold worstZ; omega
theorem Witness_pure (kind : Nat) (depth degree p q g r : Int) :
    Pure Go.Proofs.Try.prog 16 [scheme kind depth degree p q g, .v (.int .i64 r)] ⟨.tup [.ro (ints (wL kind depth degree p q g r)), .v (.int .i64 (wE kind depth degree p q g r))], []⟩ := by
  refine pure_sz pf eqOk_none (env_ok [38, 39, 43] rfl) fun _ => ⟨60, ?_⟩
  cases hv : validB kind depth degree p q g with
  | false =>
    have e1 : wE kind depth degree p q g r = 30 := by simp [wE, hv]
    have e2 : wL kind depth degree p q g r = [] := by simp [wL, e1]
    rw [e1, e2]
    conv => whnf
    refine ⟨_, asked_bad kind depth degree p q g r hv, ?_⟩
    conv => whnf
    left
    conv => whnf
    refine Or.inl ?_
    conv => whnf
    try rfl
  | true =>
    have hv2 := hv
    simp only [validB, decide_eq_true_eq] at hv
    obtain ⟨h1, h2, h3, h4, rfl, rfl, rfl, rfl⟩ := hv
    obtain ⟨d, rfl⟩ : ∃ d : Nat, depth = d := ⟨depth.toNat, by omega⟩
    by_cases hr : r < 0 ∨ r > ((2 ^ d : Nat) : Int)
    · have e1 : wE kind d 0 0 0 0 r = 2 := by unfold wE; rw [if_pos hv2, Int.toNat_natCast, if_pos hr]
      have e2 : wL kind d 0 0 0 0 r = [] := by simp [wL, e1]
      rw [e1, e2]
      conv => whnf
      refine ⟨_, asked_arg kind d r h1 h2 (by omega) hr, ?_⟩
      conv => whnf
      left
      conv => whnf
      refine Or.inl ?_
      conv => whnf
      try rfl
    · obtain ⟨k, rfl⟩ : ∃ k : Nat, r = k := ⟨r.toNat, by omega⟩
      have e1 : wE kind d 0 0 0 0 k = 0 := by unfold wE; rw [if_pos hv2, Int.toNat_natCast, if_neg hr]
      have e2 : wL kind d 0 0 0 0 k = listZ kind d d 1 0 (worstZ (fullR kind d) d k).2.1 := by unfold wL; rw [if_pos e1, Int.toNat_natCast, Int.toNat_natCast]
      rw [e1, e2]
      have hat := worstZ_at (fullR kind d) d k
      conv => whnf
      refine ⟨_, asked_ok kind d k h1 h2 (by omega) (by omega), ?_⟩
      conv => whnf
      refine ⟨_, worstp_pure kind d (statesN kind) (fullR kind d) k (by omega) (fullR_len kind d) (by omega), ?_⟩
      conv => whnf
      refine Or.inr ?_
      conv => whnf
      refine ⟨_, list_pure kind d _ h1 h2 (by omega) (by omega), ?_⟩
      conv => whnf
      left
      conv => whnf
      try rfl
end Go.YtoeophdffhmpmaaE
end

section
set_option linter.unusedVariables false
set_option linter.unusedSimpArgs false
set_option maxRecDepth 100000
set_option maxHeartbeats 1000000
namespace Go.YtoeophdffhmpmaaE
open Go Go.RowKit

/-- An entry's row in tables as they stand in memory. -/
def RowAt (T : List (List (List Int))) (st g : Nat) (xs : List Int) : Prop := ∃ L, T[st]? = some L ∧ L[g]? = some xs
theorem RowAt.mem {T : List (List (List Int))} {st g : Nat} {xs : List Int} (h : RowAt T st g xs) :
    ∃ L, (nest3 T)[st]? = some [.ro (nest2 L)] ∧ st < (nest3 T).length ∧ (nest2 L)[g]? = some [.ro (ints xs)] ∧ g < (nest2 L).length := by
  obtain ⟨L, h1, h2⟩ := h
  obtain ⟨h3, h4⟩ := List.getElem?_eq_some_iff.1 h1
  obtain ⟨h5, h6⟩ := List.getElem?_eq_some_iff.1 h2
  refine ⟨L, ?_, by rw [nest3_length]; exact h3, ?_, by rw [nest2_length]; exact h5⟩
  · rw [nest3_get T st h3, h4]
  · rw [nest2_get L g h5, h6]
theorem below3_pure (kind d st h : Nat) (hk : (kind = 2 ∧ st ≤ 1) ∨ kind = 3) (hst : st < 4) (hh : h ≤ d) (hd : d ≤ 6) :
    Pure Go.Proofs.Try.prog 111 [scheme kind d 0 0 0 0, .v (.int .i64 st), .v (.int .i64 h)] ⟨.v (.int .i64 (belowN kind d st h)), []⟩ := by
  refine pure_sz pf eqOk_none (env_ok [132] rfl) fun _ => ⟨60, ?_⟩
  have e1 : IntKind.i64.wrap ((d : Int) - (h : Int)) = ((d - h : Nat) : Int) := by rw [wrap64 (by omega) (by omega)]; omega
  rcases hk with ⟨rfl, h1⟩ | rfl
  · have : st = 0 ∨ st = 1 := by omega
    rcases this with rfl | rfl
    all_goals
      conv => whnf
      left
      conv => whnf
      try rfl
  · have : st = 0 ∨ st = 1 ∨ st = 2 ∨ st = 3 := by omega
    rcases this with rfl | rfl | rfl | rfl
    all_goals
      conv => whnf
      try (refine Or.inl ⟨9, by kernel_rfl, ?_⟩
           conv => whnf
           refine ⟨_, stride3_pure d hd, ?_⟩
           conv => whnf
           refine ⟨by have := strideN_pos d; omega, ?_⟩
           conv => whnf
           rw [e1, tmod0 _ _ (strideN_pos d)]
           refine cndK_intro (fun h2 => ?_) (fun h2 => ?_) <;> conv => whnf
           (try (refine ⟨by decide, ?_⟩; conv => whnf)))
    all_goals
      left
      conv => whnf
      first | rfl | (simp_all [belowN]; done) | skip
theorem value3_pure (kind d st g k a : Nat) (T : List (List (List Int))) (first low : List Int) (hk1 : 1 ≤ kind) (hk3 : kind ≤ 3) (hs2 : kind = 2 → st ≤ 1) (hst : st < 4) (hh : g + 1 ≤ d) (hd : d ≤ 6)
    (h0 : RowAt T 0 g first) (hb : kind ≠ 1 → RowAt T (belowN kind d st (g + 1)) g low) (l0 : first.length = 2 ^ g + 1) (lb : kind ≠ 1 → low.length = 2 ^ g + 1)
    (ha : a ≤ k) (ha2 : a ≤ 2 ^ g) (hka : k - a ≤ 2 ^ g) (s0 : SmallL first) :
    Pure Go.Proofs.Try.prog 107 [scheme kind d 0 0 0 0, .ro (nest3 T), .v (.int .i64 st), .v (.int .i64 (g + 1 : Nat)), .v (.int .i64 k), .v (.int .i64 a)]
      ⟨.v (.int .i64 (valZ kind first low (moreZ st) k a)), []⟩ := by
  refine pure_sz pf eqOk_none (env_ok [106, 111] rfl) fun _ => ⟨60, ?_⟩
  have eg : IntKind.i64.wrap (((g + 1 : Nat) : Int) - 1) = ((g : Nat) : Int) := by rw [wrap64 (by omega) (by omega)]; omega
  have hp := pow_le6 (show g ≤ 6 by omega)
  have ek : IntKind.i64.wrap ((k : Int) - (a : Int)) = ((k - a : Nat) : Int) := by rw [wrap64 (by omega) (by omega)]; omega
  obtain ⟨L0, m1, m2, m3, m4⟩ := h0.mem
  obtain ⟨b1, b2⟩ := s0.get a (by omega)
  obtain ⟨b3, b4⟩ := s0.get (k - a) (by omega)
  obtain ⟨b5, b6⟩ := moreZ_le st
  conv => whnf
  refine cndK_intro (fun h1 => ?_) (fun h1 => ?_)
  · have hk : kind = 1 := by simp at h1; omega
    conv => whnf
    refine Or.inl ⟨24, by kernel_rfl, ?_⟩
    conv => whnf
    refine ⟨⟨by omega, by omega⟩, optK_intro [.ro (nest2 L0)] m1 ?_⟩
    conv => whnf
    rw [eg]
    refine ⟨⟨by omega, by omega⟩, optK_intro [.ro (ints first)] m3 ?_⟩
    conv => whnf
    refine ⟨⟨by omega, by rw [ints_length]; omega⟩, optK_intro _ (ints_getD _ _ (by simp; omega)) ?_⟩
    conv => whnf
    refine ⟨⟨by omega, by omega⟩, optK_intro [.ro (nest2 L0)] m1 ?_⟩
    conv => whnf
    rw [eg]
    refine ⟨⟨by omega, by omega⟩, optK_intro [.ro (ints first)] m3 ?_⟩
    conv => whnf
    rw [ek]
    refine ⟨⟨by omega, by rw [ints_length]; omega⟩, optK_intro _ (ints_getD _ _ (by simp; omega)) ?_⟩
    conv => whnf
    left
    conv => whnf
    simp only [Int.toNat_natCast]
    rw [wrap64 (by omega) (by omega), valZ, if_pos hk]
  · have hk : kind ≠ 1 := fun e => by subst e; simp at h1
    have lb := lb hk
    obtain ⟨Lb, q1, q2, q3, q4⟩ := (hb hk).mem
    have mid : 0 < a ∧ a < k → valZ kind first low (moreZ st) k a = first.getD a 0 + first.getD (k - a) 0 + moreZ st := fun h => by rw [valZ, if_neg hk, if_pos h]
    have lowe : ¬ (0 < a ∧ a < k) → valZ kind first low (moreZ st) k a = low.getD k 0 := fun h => by rw [valZ, if_neg hk, if_neg h]
    conv => whnf
    refine cndK_intro (fun h2 => ?_) (fun h2 => ?_)
    · rw [h2]
      conv => whnf
      refine cndK_intro (fun h3 => ?_) (fun h3 => ?_)
      · conv => whnf
        refine Or.inl ⟨27, by kernel_rfl, ?_⟩
        conv => whnf
        refine ⟨⟨by omega, by omega⟩, optK_intro [.ro (nest2 L0)] m1 ?_⟩
        conv => whnf
        rw [eg]
        refine ⟨⟨by omega, by omega⟩, optK_intro [.ro (ints first)] m3 ?_⟩
        conv => whnf
        refine ⟨⟨by omega, by rw [ints_length]; omega⟩, optK_intro _ (ints_getD _ _ (by simp; omega)) ?_⟩
        conv => whnf
        refine ⟨⟨by omega, by omega⟩, optK_intro [.ro (nest2 L0)] m1 ?_⟩
        conv => whnf
        rw [eg]
        refine ⟨⟨by omega, by omega⟩, optK_intro [.ro (ints first)] m3 ?_⟩
        conv => whnf
        rw [ek]
        refine ⟨⟨by omega, by rw [ints_length]; omega⟩, optK_intro _ (ints_getD _ _ (by simp; omega)) ?_⟩
        conv => whnf
        refine ⟨_, more_pure st hst, ?_⟩
        conv => whnf
        left
        conv => whnf
        simp only [Int.toNat_natCast]
        show (_ : Res) = ⟨.v (.int .i64 (IntKind.i64.wrap (IntKind.i64.wrap (first.getD a 0 + first.getD (k - a) 0) + moreZ st))), []⟩
        rw [wrap64 (n := first.getD a 0 + first.getD (k - a) 0) (by omega) (by omega), wrap64 (by omega) (by omega), mid ⟨by simpa using h2, by simpa using h3⟩]
      · conv => whnf
        have hk2 : k ≤ 2 ^ g := by simp at h2 h3; omega
        refine ⟨_, below3_pure kind d st (g + 1) (by omega) hst hh hd, ?_⟩
        conv => whnf
        refine ⟨⟨by omega, by omega⟩, optK_intro [.ro (nest2 Lb)] q1 ?_⟩
        conv => whnf
        rw [eg]
        refine ⟨⟨by omega, by omega⟩, optK_intro [.ro (ints low)] q3 ?_⟩
        conv => whnf
        refine ⟨⟨by omega, by rw [ints_length]; omega⟩, optK_intro _ (ints_getD _ _ (by simp; omega)) ?_⟩
        conv => whnf
        left
        conv => whnf
        simp only [Int.toNat_natCast]
        rw [lowe (by simp at h2 h3; omega)]
    · rw [h2]
      conv => whnf
      have hk2 : k ≤ 2 ^ g := by simp at h2; omega
      refine ⟨_, below3_pure kind d st (g + 1) (by omega) hst hh hd, ?_⟩
      conv => whnf
      refine ⟨⟨by omega, by omega⟩, optK_intro [.ro (nest2 Lb)] q1 ?_⟩
      conv => whnf
      rw [eg]
      refine ⟨⟨by omega, by omega⟩, optK_intro [.ro (ints low)] q3 ?_⟩
      conv => whnf
      refine ⟨⟨by omega, by rw [ints_length]; omega⟩, optK_intro _ (ints_getD _ _ (by simp; omega)) ?_⟩
      conv => whnf
      left
      conv => whnf
      simp only [Int.toNat_natCast]
      rw [lowe (by simp at h2; omega)]
end Go.YtoeophdffhmpmaaE
end

section
set_option linter.unusedVariables false
set_option linter.unusedSimpArgs false
set_option maxRecDepth 100000
set_option maxHeartbeats 1000000
namespace Go.YtoeophdffhmpmaaE
open Go Go.RowKit

/-- The first of the greatest values, begun below all of them. -/
def grI (f : Nat → Int) : Nat → Nat → Int → Int → Int × Int
  | 0, _, m, b => (m, b)
  | n + 1, a, m, b => if f a > m then grI f n (a + 1) (f a) a else grI f n (a + 1) m b
theorem grI_eq (f : Nat → Int) : ∀ (n a : Nat) (m : Int) (b : Nat), grI f n a m b = ((gr f n a m b false).1, ((gr f n a m b false).2.1 : Int)) := by
  intro n
  induction n with
  | zero => intro a m b; rfl
  | succ n ih =>
    intro a m b
    rw [grI, gr]
    by_cases h : f a > m
    · rw [if_pos h, if_pos (.inr h)]; exact ih _ _ _
    · rw [if_neg h, if_neg (by simpa using h)]; exact ih _ _ _
theorem grI_first (f : Nat → Int) (n a : Nat) (hn : 0 < n) (hf : 0 ≤ f a) : grI f n a (-1) (-1) = ((gr f n a 0 0 true).1, ((gr f n a 0 0 true).2.1 : Int)) := by
  obtain ⟨n, rfl⟩ : ∃ m, n = m + 1 := ⟨n - 1, by omega⟩
  rw [grI, gr, if_pos (by omega), if_pos (.inl rfl)]
  exact grI_eq f n (a + 1) (f a) a
def schemeC (kind d : Nat) : Blk := .bx false [.v (.int .u8 kind), .v (.int .i64 d), .v (.int .i64 0), .v (.int .u64 0), .v (.int .u64 0), .v (.int .u64 0)]
section
variable (kind d st g k : Nat) (T : List (List (List Int))) (first low : List Int) (hk1 : 1 ≤ kind) (hk3 : kind ≤ 3) (hs2 : kind = 2 → st ≤ 1) (hst : st < 4) (hh : g + 1 ≤ d) (hd : d ≤ 6)
    (h0 : RowAt T 0 g first) (hb : kind ≠ 1 → RowAt T (belowN kind d st (g + 1)) g low) (l0 : first.length = 2 ^ g + 1) (lb : kind ≠ 1 → low.length = 2 ^ g + 1) (s0 : SmallL first)
include hk1 hk3 hs2 hst hh hd h0 hb l0 lb s0
theorem best3_loop (E : EqT) (K : K) :
    ∀ (c a n : Nat) (m b : Int), a + c = min k (2 ^ g) + 1 → k - 2 ^ g ≤ a → c + 60 ≤ n →
      (∀ j, K (.exit 0) (mkJ 46 [(13, .v (.int .i64 (grI (valZ kind first low (moreZ st) k) c a m b).1)), (14, .v (.int .i64 (grI (valZ kind first low (moreZ st) k) c a m b).2))] j) [schemeC kind d] []) →
      loopF (run Go.Proofs.Try.prog E (envL Go.Proofs.Try.prog [107]) n) 0 0 (loopB Go.Proofs.Try.prog 81 0)
        (mkT 46 [(1, .ro (nest3 T)), (2, .v (.int .i64 st)), (3, .v (.int .i64 (g + 1 : Nat))), (4, .v (.int .i64 k)), (5, .pt 0 0 0 0 0), (12, .v (.int .i64 (2 ^ g : Nat))), (13, .v (.int .i64 m)), (14, .v (.int .i64 b)), (15, .v (.int .i64 a))]) [schemeC kind d] [] K := by
  intro c
  have hp := pow_le6 (show g ≤ 6 by omega)
  induction c with
  | zero =>
    intro a n m b hi hlo hn hK
    obtain ⟨n, rfl⟩ : ∃ m, n = m + 60 := ⟨n - 60, by omega⟩
    conv => whnf
    refine cndK_intro (fun h => ?_) (fun h => ?_)
    · exfalso
      simp only [decide_eq_true_eq] at h
      split at h <;> omega
    · conv => whnf
      exact useJ hK rfl
  | succ c ih =>
    intro a n m b hi hlo hn hK
    obtain ⟨n, rfl⟩ : ∃ m, n = m + 60 := ⟨n - 60, by omega⟩
    have ea : IntKind.i64.wrap ((a : Int) + 1) = ((a + 1 : Nat) : Int) := by rw [wrap64 (by omega) (by omega)]; omega
    conv => whnf
    refine cndK_intro (fun h => ?_) (fun h => ?_)
    · conv => whnf
      refine ⟨_, value3_pure kind d st g k a T first low hk1 hk3 hs2 hst hh hd h0 hb l0 lb (by omega) (by omega) (by omega) s0, ?_⟩
      conv => whnf
      refine cndK_intro (fun h2 => ?_) (fun h2 => ?_)
      · have h2' : valZ kind first low (moreZ st) k a > m := by simpa using h2
        conv => whnf
        rw [ea]
        refine wk_mask [false, true, true, true, true, true, false, false, false, false, false, false, true, true, true, true] _ rfl ?_
        exact ih (a + 1) (n + 59) _ _ (by omega) (by omega) (by omega) (fun j => by have := hK j; rw [grI, if_pos h2'] at this; exact this)
      · have h2' : ¬ valZ kind first low (moreZ st) k a > m := by simpa using h2
        conv => whnf
        rw [ea]
        refine wk_mask [false, true, true, true, true, true, false, false, false, false, false, false, true, true, true, true] _ rfl ?_
        exact ih (a + 1) (n + 59) _ _ (by omega) (by omega) (by omega) (fun j => by have := hK j; rw [grI, if_neg h2'] at this; exact this)
    · exfalso
      simp only [decide_eq_false_iff_not] at h
      split at h <;> omega
theorem best3_pure (hlow : kind ≠ 1 → SmallL low) (hk : k ≤ 2 ^ (g + 1)) :
    Pure Go.Proofs.Try.prog 81 [scheme kind d 0 0 0 0, .ro (nest3 T), .v (.int .i64 st), .v (.int .i64 (g + 1 : Nat)), .v (.int .i64 k)]
      ⟨.tup [.v (.int .i64 (bestZ kind first low (moreZ st) g k).1), .v (.int .i64 (bestZ kind first low (moreZ st) g k).2.1)], []⟩ := by
  refine pure_sz pf eqOk_none (env_ok [107] rfl) fun _ => ⟨200, ?_⟩
  have hp := pow_le6 (show g ≤ 6 by omega)
  have hp2 : 2 ^ (g + 1) = 2 * 2 ^ g := by rw [Nat.pow_succ, Nat.mul_comm]
  have eg : IntKind.i64.wrap (((g + 1 : Nat) : Int) - 1) = ((g : Nat) : Int) := by rw [wrap64 (by omega) (by omega)]; omega
  have eu : IntKind.u64.wrap (g : Int) = (g : Int) := by
    simp [IntKind.wrap, IntKind.bits, IntKind.signed]; omega
  have el : (if IntKind.i64.wrap ((k : Int) - ((2 ^ g : Nat) : Int)) > 0 then IntKind.i64.wrap ((k : Int) - ((2 ^ g : Nat) : Int)) else 0) = ((k - 2 ^ g : Nat) : Int) := by
    rw [wrap64 (by omega) (by omega)]
    split <;> omega
  have hf : 0 ≤ valZ kind first low (moreZ st) k (k - 2 ^ g) := by
    obtain ⟨b1, _⟩ := s0.get (k - 2 ^ g) (by omega)
    obtain ⟨b3, _⟩ := s0.get (k - (k - 2 ^ g)) (by omega)
    have b5 := moreZ_le st
    unfold valZ
    split
    · omega
    · rename_i hne
      split
      · omega
      · by_cases hkl : k < low.length
        · exact ((hlow hne).get k hkl).1
        · rw [List.getD_eq_getElem?_getD, List.getElem?_eq_none (by omega)]; decide
  have hz := grI_first (valZ kind first low (moreZ st) k) (min k (2 ^ g) + 1 - (k - 2 ^ g)) (k - 2 ^ g) (by omega) hf
  conv => whnf
  rw [eg, eu]
  refine ⟨by omega, ?_⟩
  conv => whnf
  rw [shl1 (show g ≤ 6 by omega), el]
  refine wk_mask [false, true, true, true, true, true, false, false, false, false, false, false, true, true, true, true] _ rfl ?_
  refine best3_loop kind d st g k T first low hk1 hk3 hs2 hst hh hd h0 hb l0 lb s0 _ _ (min k (2 ^ g) + 1 - (k - 2 ^ g)) (k - 2 ^ g) 193 (-1) (-1) (by omega) (by omega) (by omega) fun j => ?_
  rw [hz]
  conv => whnf
  left
  conv => whnf
  try rfl
end
/-! ### Counts -/
theorem count3_pure (kind d k : Nat) (T : List (List (List Int))) (xs : List Int) (hd : d ≤ 6) (h0 : RowAt T 0 d xs) (l0 : xs.length = 2 ^ d + 1) (hk : k ≤ 2 ^ d) :
    Pure Go.Proofs.Try.prog 78 [scheme kind d 0 0 0 0, .ro (nest3 T), .v (.int .i64 k)] ⟨.v (.int .i64 (if k = 0 then 1 else xs.getD k 0)), []⟩ := by
  refine pure_sz pf eqOk_none (env_ok [] rfl) fun _ => ⟨60, ?_⟩
  obtain ⟨L0, m1, m2, m3, m4⟩ := h0.mem
  conv => whnf
  refine cndK_intro (fun h1 => ?_) (fun h1 => ?_)
  · have hk0 : k = 0 := by simp at h1; omega
    rw [if_pos hk0]
    conv => whnf
    left
    conv => whnf
    try rfl
  · have hk0 : k ≠ 0 := by simp at h1; omega
    rw [if_neg hk0]
    conv => whnf
    refine Or.inl ⟨11, by kernel_rfl, ?_⟩
    conv => whnf
    refine ⟨⟨by omega, by omega⟩, optK_intro [.ro (nest2 L0)] m1 ?_⟩
    conv => whnf
    refine ⟨⟨by omega, by omega⟩, optK_intro [.ro (ints xs)] m3 ?_⟩
    conv => whnf
    refine ⟨⟨by omega, by rw [ints_length]; omega⟩, optK_intro _ (ints_getD _ _ (by simp; omega)) ?_⟩
    conv => whnf
    left
    conv => whnf
    try rfl
theorem greatest3_loop (E : EqT) (kind d r : Nat) (T : List (List (List Int))) (xs : List Int) (hd : d ≤ 6) (h0 : RowAt T 0 d xs) (l0 : xs.length = 2 ^ d + 1) (hr : r ≤ 2 ^ d) (K : K) :
    ∀ (c a n : Nat) (m b : Int), a + c = r + 1 → c + 60 ≤ n →
      (∀ j, K (.exit 0) (mkJ 28 [(8, .v (.int .i64 (grI (fun k => if k = 0 then 1 else xs.getD k 0) c a m b).1)), (9, .v (.int .i64 (grI (fun k => if k = 0 then 1 else xs.getD k 0) c a m b).2))] j) [schemeC kind d] []) →
      loopF (run Go.Proofs.Try.prog E (envL Go.Proofs.Try.prog [78]) n) 0 0 (loopB Go.Proofs.Try.prog 41 0)
        (mkT 28 [(1, .ro (nest3 T)), (2, .v (.int .i64 r)), (3, .pt 0 0 0 0 0), (8, .v (.int .i64 m)), (9, .v (.int .i64 b)), (10, .v (.int .i64 a))]) [schemeC kind d] [] K := by
  intro c
  have hp := pow_le6 hd
  induction c with
  | zero =>
    intro a n m b hi hn hK
    obtain ⟨n, rfl⟩ : ∃ m, n = m + 60 := ⟨n - 60, by omega⟩
    conv => whnf
    refine cndK_intro (fun h => ?_) (fun h => ?_)
    · exfalso
      simp only [decide_eq_true_eq] at h
      omega
    · conv => whnf
      exact useJ hK rfl
  | succ c ih =>
    intro a n m b hi hn hK
    obtain ⟨n, rfl⟩ : ∃ m, n = m + 60 := ⟨n - 60, by omega⟩
    have ea : IntKind.i64.wrap ((a : Int) + 1) = ((a + 1 : Nat) : Int) := by rw [wrap64 (by omega) (by omega)]; omega
    conv => whnf
    refine cndK_intro (fun h => ?_) (fun h => ?_)
    · conv => whnf
      refine ⟨_, count3_pure kind d a T xs hd h0 l0 (by omega), ?_⟩
      generalize hv : (if a = 0 then 1 else xs.getD a 0) = v
      conv => whnf
      refine cndK_intro (fun h2 => ?_) (fun h2 => ?_)
      · have h2' : (if a = 0 then 1 else xs.getD a 0) > m := by rw [hv]; simpa using h2
        conv => whnf
        rw [ea]
        refine wk_mask [false, true, true, true, false, false, false, false, true, true, true] _ rfl ?_
        exact ih (a + 1) (n + 59) _ _ (by omega) (by omega) (fun j => by have := hK j; rw [grI, if_pos h2', hv] at this; exact this)
      · have h2' : ¬ (if a = 0 then 1 else xs.getD a 0) > m := by rw [hv]; simpa using h2
        conv => whnf
        rw [ea]
        refine wk_mask [false, true, true, true, false, false, false, false, true, true, true] _ rfl ?_
        exact ih (a + 1) (n + 59) _ _ (by omega) (by omega) (fun j => by have := hK j; rw [grI, if_neg h2'] at this; exact this)
    · exfalso
      simp only [decide_eq_false_iff_not] at h
      omega
theorem greatest3_pure (kind d r : Nat) (T : List (List (List Int))) (xs : List Int) (hd : d ≤ 6) (h0 : RowAt T 0 d xs) (l0 : xs.length = 2 ^ d + 1) (hr : r ≤ 2 ^ d) :
    Pure Go.Proofs.Try.prog 41 [scheme kind d 0 0 0 0, .ro (nest3 T), .v (.int .i64 r)]
      ⟨.tup [.v (.int .i64 (gr (fun k => if k = 0 then 1 else xs.getD k 0) (r + 1) 0 0 0 true).1), .v (.int .i64 (gr (fun k => if k = 0 then 1 else xs.getD k 0) (r + 1) 0 0 0 true).2.1)], []⟩ := by
  refine pure_sz pf eqOk_none (env_ok [78] rfl) fun _ => ⟨200, ?_⟩
  have hp := pow_le6 hd
  have hz := grI_first (fun k => if k = 0 then 1 else xs.getD k 0) (r + 1) 0 (by omega) (by simp)
  conv => whnf
  refine wk_mask [false, true, true, true, false, false, false, false, true, true, true] _ rfl ?_
  refine greatest3_loop _ kind d r T xs hd h0 l0 hr _ (r + 1) 0 194 (-1) (-1) (by omega) (by omega) fun j => ?_
  rw [hz]
  conv => whnf
  left
  conv => whnf
  try rfl
end Go.YtoeophdffhmpmaaE
end

section
set_option linter.unusedVariables false
set_option linter.unusedSimpArgs false
set_option maxRecDepth 100000
set_option maxHeartbeats 4000000
namespace Go.YtoeophdffhmpmaaE
open Go Go.RowKit

/-- A row that a call hands back as its caller's own: nothing, or a block. -/
def lRes (L : List Int) : Res := if L = [] then ⟨.v (.slice none 0 0), []⟩ else ⟨.sl 0 0 1 0 L.length, [.rw false false 0 1 (ints L)]⟩
theorem lRes_nil : lRes [] = ⟨.v (.slice none 0 0), []⟩ := rfl
theorem lRes_ne {L : List Int} (h : L ≠ []) : lRes L = ⟨.sl 0 0 1 0 L.length, [.rw false false 0 1 (ints L)]⟩ := by rw [lRes, if_neg h]
theorem listZ_ne (kind d : Nat) : ∀ h node st k, k ≠ 0 → k ≤ 2 ^ h → listZ kind d h node st k ≠ [] := by
  intro h
  induction h with
  | zero => intro node st k h0 hk; rw [listZ, if_neg h0]; simp
  | succ g ih =>
    intro node st k h0 hk
    rw [listZ, if_neg h0]
    obtain ⟨a1, a2, a3⟩ := bestL_at kind d g st k hk
    by_cases ha : (bestL kind d g st k).2.1 = 0
    · intro h
      exact ih _ _ (k - (bestL kind d g st k).2.1) (by omega) a3 (List.append_eq_nil_iff.1 h).2
    · intro h
      exact ih _ _ _ ha a2 (List.append_eq_nil_iff.1 h).1
theorem listZ_zero (kind d h node st : Nat) : listZ kind d h node st 0 = [] := by cases h <;> rfl
theorem best3L_pure (kind d g st k : Nat) (T : List (List (List Int))) (h1 : 1 ≤ kind) (h3 : kind ≤ 3) (hs2 : kind = 2 → st ≤ 1) (hst : st < 4) (hh : g + 1 ≤ d) (hd : d ≤ 6)
    (hT : ∀ s, s < statesN kind → RowAt T s g (lvl kind d g s)) (hk : k ≤ 2 ^ (g + 1)) :
    Pure Go.Proofs.Try.prog 81 [scheme kind d 0 0 0 0, .ro (nest3 T), .v (.int .i64 st), .v (.int .i64 (g + 1 : Nat)), .v (.int .i64 k)] ⟨.tup [.v (.int .i64 (bestL kind d g st k).1), .v (.int .i64 (bestL kind d g st k).2.1)], []⟩ :=
  best3_pure kind d st g k T (lvl kind d g 0) (lvl kind d g (belowN kind d st (g + 1))) h1 h3 hs2 hst hh hd (hT 0 (states_pos kind)) (fun hne => hT _ (below_lt kind d st (g + 1) h1 h3 hne hst)) (lvl_length ..) (fun _ => lvl_length ..)
    (lvl_small kind d g 0 (by omega)) (fun _ => lvl_small kind d g _ (by omega)) hk
theorem next_le (kind d g st k a : Nat) (h3 : kind ≤ 3) (hst : st < 4) : (kind = 2 → nextN kind d g st k a ≤ 1) ∧ nextN kind d g st k a < 4 := by
  unfold nextN
  split
  · exact ⟨fun h => by subst h; exact Nat.le_refl 1, belowN_lt _ _ _ _ hst⟩
  · exact ⟨fun _ => Nat.zero_le _, by decide⟩
theorem listed3_pure (kind d : Nat) (T : List (List (List Int))) (hk1 : 1 ≤ kind) (hk3 : kind ≤ 3) (hd : d ≤ 6) (hT : ∀ g, g ≤ d → ∀ s, s < statesN kind → RowAt T s g (lvl kind d g s)) :
    ∀ (h node st k : Nat), h ≤ d → node + 1 ≤ 2 ^ (7 - h) → st < 4 → (kind = 2 → st ≤ 1) → k ≤ 2 ^ h →
      Pure Go.Proofs.Try.prog 84 [scheme kind d 0 0 0 0, .ro (nest3 T), .v (.int .i64 node), .v (.int .i64 st), .v (.int .i64 h), .v (.int .i64 k)] (lRes (listZ kind d h node st k)) := by
  intro h
  induction h with
  | zero =>
    intro node st k hh hnode hst hs2 hk
    refine pure_sz pf eqOk_none (env_ok [81, 111, 84, 77] rfl) fun _ => ⟨60, ?_⟩
    have hp6 := pow_le6 hd
    have hn128 : node + 1 ≤ 128 := hnode
    by_cases hk0 : k = 0
    · subst hk0
      rw [listZ_zero, lRes_nil]
      conv => whnf
      right
      refine ⟨[], ?_⟩
      conv => whnf
      try rfl
    · have hk1' : k = 1 := by have : 2 ^ 0 = 1 := rfl; omega
      subst hk1'
      rw [listZ, if_neg hk0, lRes_ne (by simp)]
      conv => whnf
      refine ⟨_, receivers_pure d hd, ?_⟩
      conv => whnf
      rw [wrap64 (n := (node : Int) - ((2 ^ d : Nat) : Int)) (by omega) (by omega)]
      right
      refine ⟨[1], ?_⟩
      conv => whnf
      try rfl
  | succ g ih =>
    intro node st k hh hnode hst hs2 hk
    refine pure_sz pf eqOk_none (env_ok [81, 111, 84, 77] rfl) fun _ => ⟨60, ?_⟩
    have hp6 := pow_le6 (show g ≤ 6 by omega)
    have hp2 : 2 ^ (g + 1) = 2 * 2 ^ g := by rw [Nat.pow_succ, Nat.mul_comm]
    have e7 : 2 ^ (7 - g) = 2 * 2 ^ (7 - (g + 1)) := by rw [show 7 - g = (7 - (g + 1)) + 1 by omega, Nat.pow_succ, Nat.mul_comm]
    have hn64 : 2 ^ (7 - (g + 1)) ≤ 64 := (pow_le6 (show 7 - (g + 1) ≤ 6 by omega)).2
    obtain ⟨a1, a2, a3⟩ := bestL_at kind d g st k hk
    have w1 : IntKind.i64.wrap (2 * (node : Int)) = ((2 * node : Nat) : Int) := by rw [wrap64 (by omega) (by omega)]; omega
    have w2 : IntKind.i64.wrap (((2 * node : Nat) : Int) + 1) = ((2 * node + 1 : Nat) : Int) := by rw [wrap64 (by omega) (by omega)]; omega
    have w3 : IntKind.i64.wrap (((g + 1 : Nat) : Int) - 1) = (g : Int) := by rw [wrap64 (by omega) (by omega)]; omega
    have w4 : IntKind.i64.wrap ((k : Int) - ((bestL kind d g st k).2.1 : Int)) = ((k - (bestL kind d g st k).2.1 : Nat) : Int) := by rw [wrap64 (by omega) (by omega)]; omega
    have hbest := best3L_pure kind d g st k T hk1 hk3 hs2 hst hh hd (hT g (by omega)) hk
    have hsum : k = (bestL kind d g st k).2.1 + (k - (bestL kind d g st k).2.1) := by omega
    have hL : k ≠ 0 → listZ kind d (g + 1) node st k = listZ kind d g (2 * node) (nextN kind d g st k (bestL kind d g st k).2.1) (bestL kind d g st k).2.1 ++
      listZ kind d g (2 * node + 1) (nextN kind d g st k (bestL kind d g st k).2.1) (k - (bestL kind d g st k).2.1) := fun h => by rw [listZ, if_neg h]
    by_cases hk0 : k = 0
    · subst hk0
      rw [listZ_zero, lRes_nil]
      conv => whnf
      right
      refine ⟨[], ?_⟩
      conv => whnf
      try rfl
    rw [hL hk0]
    generalize (bestL kind d g st k).2.1 = a at *
    generalize (bestL kind d g st k).1 = v at *
    obtain ⟨nx2, nx4⟩ := next_le kind d g st k a hk3 hst
    have c1 := ih (2 * node) (nextN kind d g st k a) a (by omega) (by omega) nx4 nx2 a2
    have c2 := ih (2 * node + 1) (nextN kind d g st k a) (k - a) (by omega) (by omega) nx4 nx2 a3
    have z1 := listZ_ne kind d g (2 * node) (nextN kind d g st k a) a
    have z2 := listZ_ne kind d g (2 * node + 1) (nextN kind d g st k a) (k - a)
    have y1 := listZ_length kind d g (2 * node) (nextN kind d g st k a) a
    have y2 := listZ_length kind d g (2 * node + 1) (nextN kind d g st k a) (k - a)
    have x1 : a = 0 → listZ kind d g (2 * node) (nextN kind d g st k a) a = [] := fun h => by rw [h]; exact listZ_zero ..
    have x2 : k - a = 0 → listZ kind d g (2 * node + 1) (nextN kind d g st k a) (k - a) = [] := fun h => by rw [h]; exact listZ_zero ..
    generalize hL1 : listZ kind d g (2 * node) (nextN kind d g st k a) a = L1 at *
    generalize hL2 : listZ kind d g (2 * node + 1) (nextN kind d g st k a) (k - a) = L2 at *
    clear hL hL1 hL2
    conv => whnf
    refine cndK_intro (fun h1 => ?_) (fun h1 => ?_)
    · exact absurd (by simp at h1; omega) hk0
    conv => whnf
    refine ⟨_, hbest, ?_⟩
    conv => whnf
    refine cndK_intro (fun h2 => ?_) (fun h2 => ?_)
    rotate_left
    · have hnx : nextN kind d g st k a = 0 := by
        unfold nextN; rw [if_neg]; simp at h2; intro h; exact h.1 (by omega)
      rw [hnx] at c1 c2
      try rw [h2]
      conv => whnf
      rw [w1, w3]
      refine ⟨_, c1, ?_⟩
      by_cases hL1 : L1 = []
      · subst hL1
        rw [lRes_nil]
        have hL2 : L2 ≠ [] := fun h => by
          have ha0 : a = 0 := Classical.byContradiction fun h' => z1 h' a2 rfl
          exact z2 (by omega) a3 h
        conv => whnf
        rw [w1, w2, w3, w4]
        refine ⟨_, c2, ?_⟩
        rw [lRes_ne hL2]
        conv => whnf
        refine ⟨by rw [ints_length]; omega, ?_⟩
        rw [ints_full rfl]
        conv => whnf
        refine ⟨fun h => absurd h (by intro h'; exact hL2 (by simpa [ints] using h')), fun _ => ⟨⟨by rw [ints_length]; show ((L2.length : Nat) : Int) * ((8 : Nat) : Int) ≤ 70368744177664; omega, intsAll rfl⟩, ?_⟩⟩
        conv => whnf
        rw [ints_length, List.nil_append, lRes_ne hL2]
        right
        refine ⟨[2], ?_⟩
        conv => whnf
        try rfl
      · rw [lRes_ne hL1]
        conv => whnf
        rw [w1, w2, w3, w4]
        refine ⟨_, c2, ?_⟩
        by_cases hL2 : L2 = []
        · subst hL2
          rw [lRes_nil]
          conv => whnf
          refine ⟨⟨rfl, by rw [ints_length]; exact Nat.le_refl _, by show ((L1.length + 0 : Nat) : Int) * ((8 : Nat) : Int) ≤ 70368744177664; omega, fun c hc => by cases hc⟩, ints L1, ?_, ?_⟩
          · rw [List.take_of_length_le (by rw [ints_length]; exact Nat.le_refl _), List.append_nil]
          · conv => whnf
            rw [List.append_nil, lRes_ne hL1]
            right
            refine ⟨[1], ?_⟩
            conv => whnf
            try rfl
        · rw [lRes_ne hL2]
          conv => whnf
          refine ⟨by rw [ints_length]; omega, ?_⟩
          rw [ints_full rfl]
          conv => whnf
          refine ⟨⟨rfl, by rw [ints_length]; exact Nat.le_refl _, by rw [ints_length]; show ((L1.length + L2.length : Nat) : Int) * ((8 : Nat) : Int) ≤ 70368744177664; omega, intsAll rfl⟩, ints (L1 ++ L2), ?_, ?_⟩
          · rw [List.take_of_length_le (by rw [ints_length]; exact Nat.le_refl _)]; simp [ints]
          · conv => whnf
            rw [ints_length, lRes_ne (by simp [hL1])]
            right
            refine ⟨[1], ?_⟩
            conv => whnf
            rw [List.length_append]
            try rfl
    · rw [h2]
      have hne : kind ≠ 1 := by simp at h2; omega
      conv => whnf
      refine cndK_intro (fun h3 => ?_) (fun h3 => ?_)
      · have hnx : nextN kind d g st k a = belowN kind d st (g + 1) := by
          unfold nextN; rw [if_pos]; simp at h3; exact ⟨hne, by omega⟩
        rw [hnx] at c1 c2
        rw [h3]
        conv => whnf
        refine ⟨_, below3_pure kind d st (g + 1) (by omega) hst hh hd, ?_⟩
        conv => whnf
        rw [w1, w3]
        refine ⟨_, c1, ?_⟩
        by_cases hL1 : L1 = []
        · subst hL1
          rw [lRes_nil]
          have hL2 : L2 ≠ [] := fun h => by
            have ha0 : a = 0 := Classical.byContradiction fun h' => z1 h' a2 rfl
            exact z2 (by omega) a3 h
          conv => whnf
          rw [w1, w2, w3, w4]
          refine ⟨_, c2, ?_⟩
          rw [lRes_ne hL2]
          conv => whnf
          refine ⟨by rw [ints_length]; omega, ?_⟩
          rw [ints_full rfl]
          conv => whnf
          refine ⟨fun h => absurd h (by intro h'; exact hL2 (by simpa [ints] using h')), fun _ => ⟨⟨by rw [ints_length]; show ((L2.length : Nat) : Int) * ((8 : Nat) : Int) ≤ 70368744177664; omega, intsAll rfl⟩, ?_⟩⟩
          conv => whnf
          rw [ints_length, List.nil_append, lRes_ne hL2]
          right
          refine ⟨[2], ?_⟩
          conv => whnf
          try rfl
        · rw [lRes_ne hL1]
          conv => whnf
          rw [w1, w2, w3, w4]
          refine ⟨_, c2, ?_⟩
          by_cases hL2 : L2 = []
          · subst hL2
            rw [lRes_nil]
            conv => whnf
            refine ⟨⟨rfl, by rw [ints_length]; exact Nat.le_refl _, by show ((L1.length + 0 : Nat) : Int) * ((8 : Nat) : Int) ≤ 70368744177664; omega, fun c hc => by cases hc⟩, ints L1, ?_, ?_⟩
            · rw [List.take_of_length_le (by rw [ints_length]; exact Nat.le_refl _), List.append_nil]
            · conv => whnf
              rw [List.append_nil, lRes_ne hL1]
              right
              refine ⟨[1], ?_⟩
              conv => whnf
              try rfl
          · rw [lRes_ne hL2]
            conv => whnf
            refine ⟨by rw [ints_length]; omega, ?_⟩
            rw [ints_full rfl]
            conv => whnf
            refine ⟨⟨rfl, by rw [ints_length]; exact Nat.le_refl _, by rw [ints_length]; show ((L1.length + L2.length : Nat) : Int) * ((8 : Nat) : Int) ≤ 70368744177664; omega, intsAll rfl⟩, ints (L1 ++ L2), ?_, ?_⟩
            · rw [List.take_of_length_le (by rw [ints_length]; exact Nat.le_refl _)]; simp [ints]
            · conv => whnf
              rw [ints_length, lRes_ne (by simp [hL1])]
              right
              refine ⟨[1], ?_⟩
              conv => whnf
              rw [List.length_append]
              try rfl
      · rw [h3]
        conv => whnf
        refine cndK_intro (fun h4 => ?_) (fun h4 => ?_)
        · have hnx : nextN kind d g st k a = belowN kind d st (g + 1) := by
            unfold nextN; rw [if_pos]; simp at h4; exact ⟨hne, by omega⟩
          rw [hnx] at c1 c2
          try rw [h4]
          conv => whnf
          refine ⟨_, below3_pure kind d st (g + 1) (by omega) hst hh hd, ?_⟩
          conv => whnf
          rw [w1, w3]
          refine ⟨_, c1, ?_⟩
          by_cases hL1 : L1 = []
          · subst hL1
            rw [lRes_nil]
            have hL2 : L2 ≠ [] := fun h => by
              have ha0 : a = 0 := Classical.byContradiction fun h' => z1 h' a2 rfl
              exact z2 (by omega) a3 h
            conv => whnf
            rw [w1, w2, w3, w4]
            refine ⟨_, c2, ?_⟩
            rw [lRes_ne hL2]
            conv => whnf
            refine ⟨by rw [ints_length]; omega, ?_⟩
            rw [ints_full rfl]
            conv => whnf
            refine ⟨fun h => absurd h (by intro h'; exact hL2 (by simpa [ints] using h')), fun _ => ⟨⟨by rw [ints_length]; show ((L2.length : Nat) : Int) * ((8 : Nat) : Int) ≤ 70368744177664; omega, intsAll rfl⟩, ?_⟩⟩
            conv => whnf
            rw [ints_length, List.nil_append, lRes_ne hL2]
            right
            refine ⟨[2], ?_⟩
            conv => whnf
            try rfl
          · rw [lRes_ne hL1]
            conv => whnf
            rw [w1, w2, w3, w4]
            refine ⟨_, c2, ?_⟩
            by_cases hL2 : L2 = []
            · subst hL2
              rw [lRes_nil]
              conv => whnf
              refine ⟨⟨rfl, by rw [ints_length]; exact Nat.le_refl _, by show ((L1.length + 0 : Nat) : Int) * ((8 : Nat) : Int) ≤ 70368744177664; omega, fun c hc => by cases hc⟩, ints L1, ?_, ?_⟩
              · rw [List.take_of_length_le (by rw [ints_length]; exact Nat.le_refl _), List.append_nil]
              · conv => whnf
                rw [List.append_nil, lRes_ne hL1]
                right
                refine ⟨[1], ?_⟩
                conv => whnf
                try rfl
            · rw [lRes_ne hL2]
              conv => whnf
              refine ⟨by rw [ints_length]; omega, ?_⟩
              rw [ints_full rfl]
              conv => whnf
              refine ⟨⟨rfl, by rw [ints_length]; exact Nat.le_refl _, by rw [ints_length]; show ((L1.length + L2.length : Nat) : Int) * ((8 : Nat) : Int) ≤ 70368744177664; omega, intsAll rfl⟩, ints (L1 ++ L2), ?_, ?_⟩
              · rw [List.take_of_length_le (by rw [ints_length]; exact Nat.le_refl _)]; simp [ints]
              · conv => whnf
                rw [ints_length, lRes_ne (by simp [hL1])]
                right
                refine ⟨[1], ?_⟩
                conv => whnf
                rw [List.length_append]
                try rfl
        · have hnx : nextN kind d g st k a = 0 := by
            unfold nextN; rw [if_neg]; simp at h3 h4; omega
          rw [hnx] at c1 c2
          try rw [h4]
          conv => whnf
          rw [w1, w3]
          refine ⟨_, c1, ?_⟩
          by_cases hL1 : L1 = []
          · subst hL1
            rw [lRes_nil]
            have hL2 : L2 ≠ [] := fun h => by
              have ha0 : a = 0 := Classical.byContradiction fun h' => z1 h' a2 rfl
              exact z2 (by omega) a3 h
            conv => whnf
            rw [w1, w2, w3, w4]
            refine ⟨_, c2, ?_⟩
            rw [lRes_ne hL2]
            conv => whnf
            refine ⟨by rw [ints_length]; omega, ?_⟩
            rw [ints_full rfl]
            conv => whnf
            refine ⟨fun h => absurd h (by intro h'; exact hL2 (by simpa [ints] using h')), fun _ => ⟨⟨by rw [ints_length]; show ((L2.length : Nat) : Int) * ((8 : Nat) : Int) ≤ 70368744177664; omega, intsAll rfl⟩, ?_⟩⟩
            conv => whnf
            rw [ints_length, List.nil_append, lRes_ne hL2]
            right
            refine ⟨[2], ?_⟩
            conv => whnf
            try rfl
          · rw [lRes_ne hL1]
            conv => whnf
            rw [w1, w2, w3, w4]
            refine ⟨_, c2, ?_⟩
            by_cases hL2 : L2 = []
            · subst hL2
              rw [lRes_nil]
              conv => whnf
              refine ⟨⟨rfl, by rw [ints_length]; exact Nat.le_refl _, by show ((L1.length + 0 : Nat) : Int) * ((8 : Nat) : Int) ≤ 70368744177664; omega, fun c hc => by cases hc⟩, ints L1, ?_, ?_⟩
              · rw [List.take_of_length_le (by rw [ints_length]; exact Nat.le_refl _), List.append_nil]
              · conv => whnf
                rw [List.append_nil, lRes_ne hL1]
                right
                refine ⟨[1], ?_⟩
                conv => whnf
                try rfl
            · rw [lRes_ne hL2]
              conv => whnf
              refine ⟨by rw [ints_length]; omega, ?_⟩
              rw [ints_full rfl]
              conv => whnf
              refine ⟨⟨rfl, by rw [ints_length]; exact Nat.le_refl _, by rw [ints_length]; show ((L1.length + L2.length : Nat) : Int) * ((8 : Nat) : Int) ≤ 70368744177664; omega, intsAll rfl⟩, ints (L1 ++ L2), ?_, ?_⟩
              · rw [List.take_of_length_le (by rw [ints_length]; exact Nat.le_refl _)]; simp [ints]
              · conv => whnf
                rw [ints_length, lRes_ne (by simp [hL1])]
                right
                refine ⟨[1], ?_⟩
                conv => whnf
                rw [List.length_append]
                try rfl
end Go.YtoeophdffhmpmaaE
end
