/- plan: list, Witness. -/
import Derived.Test.YtoeophdffhmpmaaP7
set_option linter.unusedVariables false
set_option linter.unusedSimpArgs false
set_option maxRecDepth 100000
set_option maxHeartbeats 4000000
namespace Go.YtoeophdffhmpmaaE
open Go Go.RowKit

def appR (rec : RunT) (nb nl : Nat) (c : Code) (ts : List A) (hp : List Blk) (lp : List Lp) (k : K) : Prop := rec nb nl c ts hp lp k
theorem appR_intro {rec : RunT} {nb nl : Nat} {c : Code} {ts : List A} {hp : List Blk} {lp : List Lp} {k : K} (h : appR rec nb nl c ts hp lp k) : rec nb nl c ts hp lp k := h
theorem appR_mk {rec : RunT} {nb nl : Nat} {c : Code} {ts : List A} {hp : List Blk} {lp : List Lp} {k : K} (h : rec nb nl c ts hp lp k) : appR rec nb nl c ts hp lp k := h
/-- A row that is being made: nothing yet, or a block of the own heap. -/
def OutRel (hp : List Blk) (out : A) (xs : List Int) : Prop :=
  (xs = [] ∧ out = .v (.slice none 0 0)) ∨ ∃ b ver, out = .sl b ver 1 0 xs.length ∧ hp.getD b .hole = .rw false false ver 1 (ints xs)
theorem getD_snoc (hp : List Blk) (x : Blk) : (hp ++ [x]).getD (0 + hp.length) .hole = x := by
  simp [List.getD_eq_getElem?_getD]
theorem getD_snoc_lt {hp : List Blk} {x y : Blk} {b : Nat} (h : hp.getD b .hole = y) (hy : y ≠ .hole) : (hp ++ [x]).getD b .hole = y := by
  have hl := lt_of_getD (show hp.getD b .hole ≠ .hole by rw [h]; exact hy)
  simp only [List.getD_eq_getElem?_getD] at h ⊢
  rw [List.getElem?_append_left hl]; exact h
def codeOf (P : Program) (f : Nat) : Code := (((P.funcs[f]?).bind (·.body))).getD .skip
theorem fullR_row (kind depth s g : Nat) (hs : s < statesN kind) (hg : g ≤ depth) : row (fullR kind depth) s g = lvl kind depth g s := by
  unfold row fullR; rw [if_pos hs]
  have := fillL_row kind depth s (off (depth + 1)) g hg (off_mono (by omega))
  rwa [fillL_all _ _ (Nat.le_of_eq (fullZ_length _ _ _))] at this
theorem fullR_len2 (kind depth s g : Nat) (hs : s < statesN kind) (hg : g ≤ depth) : off g + 2 ^ g + 1 ≤ (fullR kind depth s).length := by
  unfold fullR; rw [if_pos hs, fullZ_length]
  have := off_mono (show g + 1 ≤ depth + 1 by omega)
  rw [off_succ] at this; omega
theorem states_pos (kind : Nat) : 0 < statesN kind := by unfold statesN; split <;> decide
theorem below_lt (kind depth st h : Nat) (h1 : 1 ≤ kind) (h3 : kind ≤ 3) (hne : kind ≠ 1) (hst : st < 4) : belowN kind depth st h < statesN kind := by
  have : kind = 2 ∨ kind = 3 := by omega
  rcases this with rfl | rfl
  · exact (show 1 < 2 by decide)
  · exact belowN_lt _ _ _ _ hst
/-- The greatest value of an entry, and the least a that has it, out of the heights' entries. -/
def bestL (kind depth g st k : Nat) : Int × Nat × Bool := bestZ kind (lvl kind depth g 0) (lvl kind depth g (belowN kind depth st (g + 1))) (moreZ st) g k
theorem bestL_eq (kind depth g st k : Nat) (h1 : 1 ≤ kind) (h3 : kind ≤ 3) (hst : st < 4) (hg : g ≤ depth) :
    bestZ kind (row (fullR kind depth) 0 g) (row (fullR kind depth) (belowN kind depth st (g + 1)) g) (moreZ st) g k = bestL kind depth g st k := by
  rw [fullR_row kind depth 0 g (states_pos kind) hg]
  by_cases hne : kind = 1
  · subst hne; exact bestZ_one ..
  · rw [fullR_row kind depth _ g (below_lt kind depth st (g + 1) h1 h3 hne hst) hg]; rfl
theorem bestL_pure (kind depth g st k : Nat) (h1 : 1 ≤ kind) (h3 : kind ≤ 3) (hst : st < 4) (hh : g + 1 ≤ depth) (hd : depth ≤ 6) (hk : k ≤ 2 ^ (g + 1)) :
    Pure Go.Proofs.Try.prog 82 [tb kind depth (fullR kind depth) (statesN kind), .v (.int .i64 st), .v (.int .i64 (g + 1 : Nat)), .v (.int .i64 k)] ⟨.tup [.v (.int .i64 (bestL kind depth g st k).1), .v (.int .i64 (bestL kind depth g st k).2.1)], []⟩ := by
  have := bestp_pure kind depth (statesN kind) (fullR kind depth) st g k hst hh hd (fullR_len2 kind depth 0 g (states_pos kind) (by omega)) (fun hne => fullR_len2 kind depth _ g (below_lt kind depth st (g + 1) h1 h3 hne hst) (by omega))
    (by rw [fullR_row kind depth 0 g (states_pos kind) (by omega)]; exact lvl_small kind depth g 0 (by omega)) hk
  rwa [bestL_eq kind depth g st k h1 h3 hst (by omega)] at this
theorem gr_at (f : Nat → Int) : ∀ (n a : Nat) (m : Int) (b : Nat) (no : Bool) (lo hi : Nat), lo ≤ a → a + n ≤ hi → (no = false → lo ≤ b ∧ b < hi) → (no = true → 0 < n) → lo ≤ (gr f n a m b no).2.1 ∧ (gr f n a m b no).2.1 < hi := by
  intro n
  induction n with
  | zero =>
    intro a m b no lo hi h1 h2 h3 h4
    cases no
    · exact h3 rfl
    · exact absurd (h4 rfl) (by omega)
  | succ n ih =>
    intro a m b no lo hi h1 h2 h3 h4
    rw [gr]
    split
    · exact ih _ _ _ _ lo hi (by omega) (by omega) (fun _ => ⟨h1, by omega⟩) (fun h => by cases h)
    · rename_i hno
      have hf : no = false := by cases no; rfl; exact absurd (.inl rfl) hno
      exact ih _ _ _ _ lo hi (by omega) (by omega) (fun _ => h3 hf) (fun h => by rw [hf] at h; cases h)
theorem bestL_at (kind depth g st k : Nat) (hk : k ≤ 2 ^ (g + 1)) : (bestL kind depth g st k).2.1 ≤ k ∧ (bestL kind depth g st k).2.1 ≤ 2 ^ g ∧ k - (bestL kind depth g st k).2.1 ≤ 2 ^ g := by
  have hp2 : 2 ^ (g + 1) = 2 * 2 ^ g := by rw [Nat.pow_succ, Nat.mul_comm]
  have := gr_at (valZ kind (lvl kind depth g 0) (lvl kind depth g (belowN kind depth st (g + 1))) (moreZ st) k) (min k (2 ^ g) + 1 - (k - 2 ^ g)) (k - 2 ^ g) 0 0 true (k - 2 ^ g) (min k (2 ^ g) + 1) (Nat.le_refl _) (by omega) (fun h => by cases h) (fun _ => by omega)
  unfold bestL bestZ
  omega
def nextN (kind depth : Nat) (g st k a : Nat) : Nat := if kind ≠ 1 ∧ (a = 0 ∨ a = k) then belowN kind depth st (g + 1) else 0
/-- The receivers that are revoked below a node. -/
def listZ (kind depth : Nat) : Nat → Nat → Nat → Nat → List Int
  | 0, node, st, k => if k = 0 then [] else [(node : Int) - ((2 ^ depth : Nat) : Int)]
  | g + 1, node, st, k => if k = 0 then [] else
    listZ kind depth g (2 * node) (nextN kind depth g st k (bestL kind depth g st k).2.1) (bestL kind depth g st k).2.1 ++
      listZ kind depth g (2 * node + 1) (nextN kind depth g st k (bestL kind depth g st k).2.1) (k - (bestL kind depth g st k).2.1)
theorem listZ_length (kind depth : Nat) : ∀ h node st k, (listZ kind depth h node st k).length ≤ 2 ^ h := by
  intro h
  induction h with
  | zero => intro node st k; unfold listZ; split <;> simp
  | succ g ih =>
    intro node st k
    have hp2 : 2 ^ (g + 1) = 2 * 2 ^ g := by rw [Nat.pow_succ, Nat.mul_comm]
    rw [listZ]
    split
    · simp
    · rw [List.length_append]
      have a := ih (2 * node) (nextN kind depth g st k (bestL kind depth g st k).2.1) (bestL kind depth g st k).2.1
      have b := ih (2 * node + 1) (nextN kind depth g st k (bestL kind depth g st k).2.1) (k - (bestL kind depth g st k).2.1)
      omega
theorem list_run (E : EqT) (kind depth : Nat) (hk1 : 1 ≤ kind) (hk3 : kind ≤ 3) (hd : depth ≤ 6) :
    ∀ (h node st k n nb nl : Nat) (hp : List Blk) (out : A) (xs : List Int) (K : K), h ≤ depth → node + 1 ≤ 2 ^ (7 - h) → st < 4 → k ≤ 2 ^ h → 100 * (h + 1) ≤ n → OutRel hp out xs → xs.length + 2 ^ h ≤ 1000 →
      (∀ j hp' out', OutRel hp' out' (xs ++ listZ kind depth h node st k) → K .ret (mkJ 82 [(12, out')] j) hp' []) →
      run Go.Proofs.Try.prog E (envL Go.Proofs.Try.prog [82, 83]) n nb nl (codeOf Go.Proofs.Try.prog 43)
        (mkT 82 [(0, tb kind depth (fullR kind depth) (statesN kind)), (1, out), (2, .v (.int .i64 node)), (3, .v (.int .i64 st)), (4, .v (.int .i64 h)), (5, .v (.int .i64 k))]) hp [] K := by
  intro h
  induction h with
  | zero =>
    intro node st k n nb nl hp out xs K hh hnode hst hk hn ho hx hK
    obtain ⟨n, rfl⟩ : ∃ m, n = m + 100 := ⟨n - 100, by omega⟩
    have hp6 := pow_le6 hd
    have hn128 : node + 1 ≤ 128 := hnode
    rcases ho with ⟨rfl, rfl⟩ | ⟨b, ver, rfl, hb⟩
    · conv => whnf
      refine cndK_intro (fun h1 => ?_) (fun h1 => ?_)
      · have hk0 : k = 0 := by simp at h1; omega
        conv => whnf
        exact useJ (fun j => hK j hp _ (by rw [listZ, if_pos hk0]; exact .inl ⟨rfl, rfl⟩)) rfl
      · have hk0 : k ≠ 0 := by simp at h1; omega
        conv => whnf
        refine ⟨by omega, ?_⟩
        conv => whnf
        rw [shl1 hd, wrap64 (n := (node : Int) - ((2 ^ depth : Nat) : Int)) (by omega) (by omega)]
        refine lenK_intro ?_
        conv => whnf
        refine snoc1_intro ?_
        conv => whnf
        rw [getD_snoc]
        conv => whnf
        rw [getD_snoc]
        conv => whnf
        refine ⟨Nat.le_refl 1, ?_⟩
        conv => whnf
        refine ⟨fun h => by simp at h, fun _ => ⟨⟨by show ((1 : Nat) : Int) * ((8 : Nat) : Int) ≤ 70368744177664; decide, by simp⟩, ?_⟩⟩
        conv => whnf
        refine lenK_intro ?_
        conv => whnf
        refine snoc1_intro ?_
        conv => whnf
        exact useJ (fun j => hK j _ _ (by rw [listZ, if_neg hk0]; exact .inr ⟨_, 0, rfl, getD_snoc _ _⟩)) rfl
    · conv => whnf
      refine cndK_intro (fun h1 => ?_) (fun h1 => ?_)
      · have hk0 : k = 0 := by simp at h1; omega
        conv => whnf
        exact useJ (fun j => hK j hp _ (by rw [listZ, if_pos hk0, List.append_nil]; exact .inr ⟨b, ver, rfl, hb⟩)) rfl
      · have hk0 : k ≠ 0 := by simp at h1; omega
        conv => whnf
        refine ⟨by omega, ?_⟩
        conv => whnf
        rw [shl1 hd, wrap64 (n := (node : Int) - ((2 ^ depth : Nat) : Int)) (by omega) (by omega)]
        refine lenK_intro ?_
        conv => whnf
        refine snoc1_intro ?_
        conv => whnf
        rw [getD_snoc]
        conv => whnf
        rw [getD_snoc]
        conv => whnf
        refine ⟨Nat.le_refl 1, ?_⟩
        conv => whnf
        rw [getD_snoc_lt hb Blk.noConfusion]
        conv => whnf
        rw [show (ver == ver && 1 == 1 && 0 + 1 == 1) = true from by simp]
        conv => whnf
        refine ⟨⟨rfl, by rw [ints_length]; exact Nat.le_refl _, by show ((xs.length + 1 : Nat) : Int) * ((8 : Nat) : Int) ≤ 70368744177664; omega, fun c hc => by simp at hc; rw [hc]; rfl⟩, ints (xs ++ [(node : Int) - ((2 ^ depth : Nat) : Int)]), ?_, ?_⟩
        · rw [List.take_of_length_le (by rw [ints_length]; exact Nat.le_refl _)]; simp [ints]
        · refine setK_intro ?_
          conv => whnf
          have hbl := lt_of_getD (show hp.getD b .hole ≠ .hole by rw [hb]; exact Blk.noConfusion)
          refine useJ (fun j => hK j _ _ ?_) rfl
          rw [listZ, if_neg hk0]
          refine .inr ⟨b, ver + 1, by simp, ?_⟩
          simp [List.getD_eq_getElem?_getD, show b < hp.length + 1 by omega]
  | succ g ih =>
    intro node st k n nb nl hp out xs K hh hnode hst hk hn ho hx hK
    obtain ⟨n, rfl⟩ : ∃ m, n = m + 100 := ⟨n - 100, by omega⟩
    have hp6 := pow_le6 (show g ≤ 6 by omega)
    have hp2 : 2 ^ (g + 1) = 2 * 2 ^ g := by rw [Nat.pow_succ, Nat.mul_comm]
    have e7 : 2 ^ (7 - g) = 2 * 2 ^ (7 - (g + 1)) := by rw [show 7 - g = (7 - (g + 1)) + 1 by omega, Nat.pow_succ, Nat.mul_comm]
    have hn64 : 2 ^ (7 - (g + 1)) ≤ 64 := (pow_le6 (show 7 - (g + 1) ≤ 6 by omega)).2
    obtain ⟨a1, a2, a3⟩ := bestL_at kind depth g st k hk
    have w1 : IntKind.i64.wrap (2 * (node : Int)) = ((2 * node : Nat) : Int) := by rw [wrap64 (by omega) (by omega)]; omega
    have w2 : IntKind.i64.wrap (((2 * node : Nat) : Int) + 1) = ((2 * node + 1 : Nat) : Int) := by rw [wrap64 (by omega) (by omega)]; omega
    have w3 : IntKind.i64.wrap (((g + 1 : Nat) : Int) - 1) = (g : Int) := by rw [wrap64 (by omega) (by omega)]; omega
    have w4 : IntKind.i64.wrap ((k : Int) - ((bestL kind depth g st k).2.1 : Int)) = ((k - (bestL kind depth g st k).2.1 : Nat) : Int) := by rw [wrap64 (by omega) (by omega)]; omega
    rcases ho with ⟨rfl, rfl⟩ | ⟨b, ver, rfl, hb⟩
    · conv => whnf
      refine cndK_intro (fun h1 => ?_) (fun h1 => ?_)
      · have hk0 : k = 0 := by simp at h1; omega
        conv => whnf
        exact useJ (fun j => hK j hp _ (by rw [listZ, if_pos hk0, List.append_nil]; exact (.inl ⟨rfl, rfl⟩))) rfl
      have hk0 : k ≠ 0 := by simp at h1; omega
      conv => whnf
      refine ⟨_, bestL_pure kind depth g st k hk1 hk3 hst hh hd hk, ?_⟩
      generalize hA : (bestL kind depth g st k).2.1 = a at *
      generalize (bestL kind depth g st k).1 = v
      conv => whnf
      refine cndK_intro (fun h2 => ?_) (fun h2 => ?_)
      rotate_left
      · have hnx : nextN kind depth g st k a = 0 := by
          unfold nextN; rw [if_neg]; simp at h2; intro h; exact h.1 (by omega)
        try rw [h2]
        conv => whnf
        rw [w1, w3]
        refine lenK_intro (lenK_intro ?_)
        have L2 := fun K HK => ih (2 * node) 0 a (n + 93) (0 + hp.length) (0 + ([] : List Lp).length) hp (.v (.slice none 0 0)) ([] : List Int) K (by omega) (by omega) (by decide) a2 (by omega) (.inl ⟨rfl, rfl⟩) (by first | omega | (simp; omega)) HK
        refine appR_intro ?_
        refine (fun K HK => appR_mk (L2 K HK) : ∀ K, _ → appR (run Go.Proofs.Try.prog E (envL Go.Proofs.Try.prog [82, 83]) (n + 93)) _ _ _ _ _ _ K) _ fun j hp2 out2 ho2 => ?_
        clear L2
        have hl2 := listZ_length kind depth g (2 * node) 0 a
        have hl3 : (([] : List Int) ++ listZ kind depth g (2 * node) 0 a).length + 2 ^ g ≤ 1000 := by rw [List.length_append]; (first | omega | (simp; omega))
        rcases ho2 with ⟨hx2, rfl⟩ | ⟨b2, ver2, rfl, hb2⟩
        · conv => whnf
          rw [w1, w2, w3, w4]
          refine lenK_intro (lenK_intro ?_)
          have L3 := fun K HK => ih (2 * node + 1) 0 (k - a) (n + 92) (0 + hp2.length) (0 + ([] : List Lp).length) hp2 (.v (.slice none 0 0)) (([] : List Int) ++ listZ kind depth g (2 * node) 0 a) K (by omega) (by omega) (by decide) a3 (by omega) (.inl ⟨hx2, rfl⟩) hl3 HK
          refine appR_intro ?_
          refine (fun K HK => appR_mk (L3 K HK) : ∀ K, _ → appR (run Go.Proofs.Try.prog E (envL Go.Proofs.Try.prog [82, 83]) (n + 92)) _ _ _ _ _ _ K) _ fun j3 hp3 out3 ho3 => ?_
          clear L3
          have ho4 : OutRel hp3 out3 (([] : List Int) ++ listZ kind depth (g + 1) node st k) := by
            rw [listZ, if_neg hk0, hA, hnx, ← List.append_assoc]
            first | exact ho3 | (rw [hx2]; exact ho3)
          rcases ho3 with ⟨hx3, rfl⟩ | ⟨b3, ver3, rfl, hb3⟩
          · conv => whnf
            exact useJ (fun j => hK j hp3 _ ho4) rfl
          · conv => whnf
            exact useJ (fun j => hK j hp3 _ ho4) rfl
        · conv => whnf
          rw [w1, w2, w3, w4]
          refine lenK_intro (lenK_intro ?_)
          have L3 := fun K HK => ih (2 * node + 1) 0 (k - a) (n + 92) (0 + hp2.length) (0 + ([] : List Lp).length) hp2 (.sl b2 ver2 1 0 (([] : List Int) ++ listZ kind depth g (2 * node) 0 a).length) (([] : List Int) ++ listZ kind depth g (2 * node) 0 a) K (by omega) (by omega) (by decide) a3 (by omega) (.inr ⟨b2, ver2, rfl, hb2⟩) hl3 HK
          refine appR_intro ?_
          refine (fun K HK => appR_mk (L3 K HK) : ∀ K, _ → appR (run Go.Proofs.Try.prog E (envL Go.Proofs.Try.prog [82, 83]) (n + 92)) _ _ _ _ _ _ K) _ fun j3 hp3 out3 ho3 => ?_
          clear L3
          have ho4 : OutRel hp3 out3 (([] : List Int) ++ listZ kind depth (g + 1) node st k) := by
            rw [listZ, if_neg hk0, hA, hnx, ← List.append_assoc]
            first | exact ho3 | (rw [hx2]; exact ho3)
          rcases ho3 with ⟨hx3, rfl⟩ | ⟨b3, ver3, rfl, hb3⟩
          · conv => whnf
            exact useJ (fun j => hK j hp3 _ ho4) rfl
          · conv => whnf
            exact useJ (fun j => hK j hp3 _ ho4) rfl
      · rw [h2]
        conv => whnf
        refine cndK_intro (fun h3 => ?_) (fun h3 => ?_)
        · have hnx : nextN kind depth g st k a = belowN kind depth st (g + 1) := by
            unfold nextN; rw [if_pos]; simp at h2 h3; exact ⟨by omega, by omega⟩
          rw [h3]
          conv => whnf
          refine ⟨_, belowp_pure kind depth (statesN kind) (fullR kind depth) st (g + 1) hst hh hd, ?_⟩
          conv => whnf
          rw [w1, w3]
          refine lenK_intro (lenK_intro ?_)
          have L2 := fun K HK => ih (2 * node) (belowN kind depth st (g + 1)) a (n + 93) (0 + hp.length) (0 + ([] : List Lp).length) hp (.v (.slice none 0 0)) ([] : List Int) K (by omega) (by omega) (belowN_lt _ _ _ _ hst) a2 (by omega) (.inl ⟨rfl, rfl⟩) (by first | omega | (simp; omega)) HK
          refine appR_intro ?_
          refine (fun K HK => appR_mk (L2 K HK) : ∀ K, _ → appR (run Go.Proofs.Try.prog E (envL Go.Proofs.Try.prog [82, 83]) (n + 93)) _ _ _ _ _ _ K) _ fun j hp2 out2 ho2 => ?_
          clear L2
          have hl2 := listZ_length kind depth g (2 * node) (belowN kind depth st (g + 1)) a
          have hl3 : (([] : List Int) ++ listZ kind depth g (2 * node) (belowN kind depth st (g + 1)) a).length + 2 ^ g ≤ 1000 := by rw [List.length_append]; (first | omega | (simp; omega))
          rcases ho2 with ⟨hx2, rfl⟩ | ⟨b2, ver2, rfl, hb2⟩
          · conv => whnf
            rw [w1, w2, w3, w4]
            refine lenK_intro (lenK_intro ?_)
            have L3 := fun K HK => ih (2 * node + 1) (belowN kind depth st (g + 1)) (k - a) (n + 92) (0 + hp2.length) (0 + ([] : List Lp).length) hp2 (.v (.slice none 0 0)) (([] : List Int) ++ listZ kind depth g (2 * node) (belowN kind depth st (g + 1)) a) K (by omega) (by omega) (belowN_lt _ _ _ _ hst) a3 (by omega) (.inl ⟨hx2, rfl⟩) hl3 HK
            refine appR_intro ?_
            refine (fun K HK => appR_mk (L3 K HK) : ∀ K, _ → appR (run Go.Proofs.Try.prog E (envL Go.Proofs.Try.prog [82, 83]) (n + 92)) _ _ _ _ _ _ K) _ fun j3 hp3 out3 ho3 => ?_
            clear L3
            have ho4 : OutRel hp3 out3 (([] : List Int) ++ listZ kind depth (g + 1) node st k) := by
              rw [listZ, if_neg hk0, hA, hnx, ← List.append_assoc]
              first | exact ho3 | (rw [hx2]; exact ho3)
            rcases ho3 with ⟨hx3, rfl⟩ | ⟨b3, ver3, rfl, hb3⟩
            · conv => whnf
              exact useJ (fun j => hK j hp3 _ ho4) rfl
            · conv => whnf
              exact useJ (fun j => hK j hp3 _ ho4) rfl
          · conv => whnf
            rw [w1, w2, w3, w4]
            refine lenK_intro (lenK_intro ?_)
            have L3 := fun K HK => ih (2 * node + 1) (belowN kind depth st (g + 1)) (k - a) (n + 92) (0 + hp2.length) (0 + ([] : List Lp).length) hp2 (.sl b2 ver2 1 0 (([] : List Int) ++ listZ kind depth g (2 * node) (belowN kind depth st (g + 1)) a).length) (([] : List Int) ++ listZ kind depth g (2 * node) (belowN kind depth st (g + 1)) a) K (by omega) (by omega) (belowN_lt _ _ _ _ hst) a3 (by omega) (.inr ⟨b2, ver2, rfl, hb2⟩) hl3 HK
            refine appR_intro ?_
            refine (fun K HK => appR_mk (L3 K HK) : ∀ K, _ → appR (run Go.Proofs.Try.prog E (envL Go.Proofs.Try.prog [82, 83]) (n + 92)) _ _ _ _ _ _ K) _ fun j3 hp3 out3 ho3 => ?_
            clear L3
            have ho4 : OutRel hp3 out3 (([] : List Int) ++ listZ kind depth (g + 1) node st k) := by
              rw [listZ, if_neg hk0, hA, hnx, ← List.append_assoc]
              first | exact ho3 | (rw [hx2]; exact ho3)
            rcases ho3 with ⟨hx3, rfl⟩ | ⟨b3, ver3, rfl, hb3⟩
            · conv => whnf
              exact useJ (fun j => hK j hp3 _ ho4) rfl
            · conv => whnf
              exact useJ (fun j => hK j hp3 _ ho4) rfl
        · rw [h3]
          conv => whnf
          refine cndK_intro (fun h4 => ?_) (fun h4 => ?_)
          · have hnx : nextN kind depth g st k a = belowN kind depth st (g + 1) := by
              unfold nextN; rw [if_pos]; simp at h2 h4; exact ⟨by omega, by omega⟩
            try rw [h4]
            conv => whnf
            refine ⟨_, belowp_pure kind depth (statesN kind) (fullR kind depth) st (g + 1) hst hh hd, ?_⟩
            conv => whnf
            rw [w1, w3]
            refine lenK_intro (lenK_intro ?_)
            have L2 := fun K HK => ih (2 * node) (belowN kind depth st (g + 1)) a (n + 93) (0 + hp.length) (0 + ([] : List Lp).length) hp (.v (.slice none 0 0)) ([] : List Int) K (by omega) (by omega) (belowN_lt _ _ _ _ hst) a2 (by omega) (.inl ⟨rfl, rfl⟩) (by first | omega | (simp; omega)) HK
            refine appR_intro ?_
            refine (fun K HK => appR_mk (L2 K HK) : ∀ K, _ → appR (run Go.Proofs.Try.prog E (envL Go.Proofs.Try.prog [82, 83]) (n + 93)) _ _ _ _ _ _ K) _ fun j hp2 out2 ho2 => ?_
            clear L2
            have hl2 := listZ_length kind depth g (2 * node) (belowN kind depth st (g + 1)) a
            have hl3 : (([] : List Int) ++ listZ kind depth g (2 * node) (belowN kind depth st (g + 1)) a).length + 2 ^ g ≤ 1000 := by rw [List.length_append]; (first | omega | (simp; omega))
            rcases ho2 with ⟨hx2, rfl⟩ | ⟨b2, ver2, rfl, hb2⟩
            · conv => whnf
              rw [w1, w2, w3, w4]
              refine lenK_intro (lenK_intro ?_)
              have L3 := fun K HK => ih (2 * node + 1) (belowN kind depth st (g + 1)) (k - a) (n + 92) (0 + hp2.length) (0 + ([] : List Lp).length) hp2 (.v (.slice none 0 0)) (([] : List Int) ++ listZ kind depth g (2 * node) (belowN kind depth st (g + 1)) a) K (by omega) (by omega) (belowN_lt _ _ _ _ hst) a3 (by omega) (.inl ⟨hx2, rfl⟩) hl3 HK
              refine appR_intro ?_
              refine (fun K HK => appR_mk (L3 K HK) : ∀ K, _ → appR (run Go.Proofs.Try.prog E (envL Go.Proofs.Try.prog [82, 83]) (n + 92)) _ _ _ _ _ _ K) _ fun j3 hp3 out3 ho3 => ?_
              clear L3
              have ho4 : OutRel hp3 out3 (([] : List Int) ++ listZ kind depth (g + 1) node st k) := by
                rw [listZ, if_neg hk0, hA, hnx, ← List.append_assoc]
                first | exact ho3 | (rw [hx2]; exact ho3)
              rcases ho3 with ⟨hx3, rfl⟩ | ⟨b3, ver3, rfl, hb3⟩
              · conv => whnf
                exact useJ (fun j => hK j hp3 _ ho4) rfl
              · conv => whnf
                exact useJ (fun j => hK j hp3 _ ho4) rfl
            · conv => whnf
              rw [w1, w2, w3, w4]
              refine lenK_intro (lenK_intro ?_)
              have L3 := fun K HK => ih (2 * node + 1) (belowN kind depth st (g + 1)) (k - a) (n + 92) (0 + hp2.length) (0 + ([] : List Lp).length) hp2 (.sl b2 ver2 1 0 (([] : List Int) ++ listZ kind depth g (2 * node) (belowN kind depth st (g + 1)) a).length) (([] : List Int) ++ listZ kind depth g (2 * node) (belowN kind depth st (g + 1)) a) K (by omega) (by omega) (belowN_lt _ _ _ _ hst) a3 (by omega) (.inr ⟨b2, ver2, rfl, hb2⟩) hl3 HK
              refine appR_intro ?_
              refine (fun K HK => appR_mk (L3 K HK) : ∀ K, _ → appR (run Go.Proofs.Try.prog E (envL Go.Proofs.Try.prog [82, 83]) (n + 92)) _ _ _ _ _ _ K) _ fun j3 hp3 out3 ho3 => ?_
              clear L3
              have ho4 : OutRel hp3 out3 (([] : List Int) ++ listZ kind depth (g + 1) node st k) := by
                rw [listZ, if_neg hk0, hA, hnx, ← List.append_assoc]
                first | exact ho3 | (rw [hx2]; exact ho3)
              rcases ho3 with ⟨hx3, rfl⟩ | ⟨b3, ver3, rfl, hb3⟩
              · conv => whnf
                exact useJ (fun j => hK j hp3 _ ho4) rfl
              · conv => whnf
                exact useJ (fun j => hK j hp3 _ ho4) rfl
          · have hnx : nextN kind depth g st k a = 0 := by
              unfold nextN; rw [if_neg]; simp at h2 h3 h4; omega
            try rw [h4]
            conv => whnf
            rw [w1, w3]
            refine lenK_intro (lenK_intro ?_)
            have L2 := fun K HK => ih (2 * node) 0 a (n + 93) (0 + hp.length) (0 + ([] : List Lp).length) hp (.v (.slice none 0 0)) ([] : List Int) K (by omega) (by omega) (by decide) a2 (by omega) (.inl ⟨rfl, rfl⟩) (by first | omega | (simp; omega)) HK
            refine appR_intro ?_
            refine (fun K HK => appR_mk (L2 K HK) : ∀ K, _ → appR (run Go.Proofs.Try.prog E (envL Go.Proofs.Try.prog [82, 83]) (n + 93)) _ _ _ _ _ _ K) _ fun j hp2 out2 ho2 => ?_
            clear L2
            have hl2 := listZ_length kind depth g (2 * node) 0 a
            have hl3 : (([] : List Int) ++ listZ kind depth g (2 * node) 0 a).length + 2 ^ g ≤ 1000 := by rw [List.length_append]; (first | omega | (simp; omega))
            rcases ho2 with ⟨hx2, rfl⟩ | ⟨b2, ver2, rfl, hb2⟩
            · conv => whnf
              rw [w1, w2, w3, w4]
              refine lenK_intro (lenK_intro ?_)
              have L3 := fun K HK => ih (2 * node + 1) 0 (k - a) (n + 92) (0 + hp2.length) (0 + ([] : List Lp).length) hp2 (.v (.slice none 0 0)) (([] : List Int) ++ listZ kind depth g (2 * node) 0 a) K (by omega) (by omega) (by decide) a3 (by omega) (.inl ⟨hx2, rfl⟩) hl3 HK
              refine appR_intro ?_
              refine (fun K HK => appR_mk (L3 K HK) : ∀ K, _ → appR (run Go.Proofs.Try.prog E (envL Go.Proofs.Try.prog [82, 83]) (n + 92)) _ _ _ _ _ _ K) _ fun j3 hp3 out3 ho3 => ?_
              clear L3
              have ho4 : OutRel hp3 out3 (([] : List Int) ++ listZ kind depth (g + 1) node st k) := by
                rw [listZ, if_neg hk0, hA, hnx, ← List.append_assoc]
                first | exact ho3 | (rw [hx2]; exact ho3)
              rcases ho3 with ⟨hx3, rfl⟩ | ⟨b3, ver3, rfl, hb3⟩
              · conv => whnf
                exact useJ (fun j => hK j hp3 _ ho4) rfl
              · conv => whnf
                exact useJ (fun j => hK j hp3 _ ho4) rfl
            · conv => whnf
              rw [w1, w2, w3, w4]
              refine lenK_intro (lenK_intro ?_)
              have L3 := fun K HK => ih (2 * node + 1) 0 (k - a) (n + 92) (0 + hp2.length) (0 + ([] : List Lp).length) hp2 (.sl b2 ver2 1 0 (([] : List Int) ++ listZ kind depth g (2 * node) 0 a).length) (([] : List Int) ++ listZ kind depth g (2 * node) 0 a) K (by omega) (by omega) (by decide) a3 (by omega) (.inr ⟨b2, ver2, rfl, hb2⟩) hl3 HK
              refine appR_intro ?_
              refine (fun K HK => appR_mk (L3 K HK) : ∀ K, _ → appR (run Go.Proofs.Try.prog E (envL Go.Proofs.Try.prog [82, 83]) (n + 92)) _ _ _ _ _ _ K) _ fun j3 hp3 out3 ho3 => ?_
              clear L3
              have ho4 : OutRel hp3 out3 (([] : List Int) ++ listZ kind depth (g + 1) node st k) := by
                rw [listZ, if_neg hk0, hA, hnx, ← List.append_assoc]
                first | exact ho3 | (rw [hx2]; exact ho3)
              rcases ho3 with ⟨hx3, rfl⟩ | ⟨b3, ver3, rfl, hb3⟩
              · conv => whnf
                exact useJ (fun j => hK j hp3 _ ho4) rfl
              · conv => whnf
                exact useJ (fun j => hK j hp3 _ ho4) rfl
    · conv => whnf
      refine cndK_intro (fun h1 => ?_) (fun h1 => ?_)
      · have hk0 : k = 0 := by simp at h1; omega
        conv => whnf
        exact useJ (fun j => hK j hp _ (by rw [listZ, if_pos hk0, List.append_nil]; exact (.inr ⟨b, ver, rfl, hb⟩))) rfl
      have hk0 : k ≠ 0 := by simp at h1; omega
      conv => whnf
      refine ⟨_, bestL_pure kind depth g st k hk1 hk3 hst hh hd hk, ?_⟩
      generalize hA : (bestL kind depth g st k).2.1 = a at *
      generalize (bestL kind depth g st k).1 = v
      conv => whnf
      refine cndK_intro (fun h2 => ?_) (fun h2 => ?_)
      rotate_left
      · have hnx : nextN kind depth g st k a = 0 := by
          unfold nextN; rw [if_neg]; simp at h2; intro h; exact h.1 (by omega)
        try rw [h2]
        conv => whnf
        rw [w1, w3]
        refine lenK_intro (lenK_intro ?_)
        have L2 := fun K HK => ih (2 * node) 0 a (n + 93) (0 + hp.length) (0 + ([] : List Lp).length) hp (.sl b ver 1 0 xs.length) xs K (by omega) (by omega) (by decide) a2 (by omega) (.inr ⟨b, ver, rfl, hb⟩) (by first | omega | (simp; omega)) HK
        refine appR_intro ?_
        refine (fun K HK => appR_mk (L2 K HK) : ∀ K, _ → appR (run Go.Proofs.Try.prog E (envL Go.Proofs.Try.prog [82, 83]) (n + 93)) _ _ _ _ _ _ K) _ fun j hp2 out2 ho2 => ?_
        clear L2
        have hl2 := listZ_length kind depth g (2 * node) 0 a
        have hl3 : (xs ++ listZ kind depth g (2 * node) 0 a).length + 2 ^ g ≤ 1000 := by rw [List.length_append]; (first | omega | (simp; omega))
        rcases ho2 with ⟨hx2, rfl⟩ | ⟨b2, ver2, rfl, hb2⟩
        · conv => whnf
          rw [w1, w2, w3, w4]
          refine lenK_intro (lenK_intro ?_)
          have L3 := fun K HK => ih (2 * node + 1) 0 (k - a) (n + 92) (0 + hp2.length) (0 + ([] : List Lp).length) hp2 (.v (.slice none 0 0)) (xs ++ listZ kind depth g (2 * node) 0 a) K (by omega) (by omega) (by decide) a3 (by omega) (.inl ⟨hx2, rfl⟩) hl3 HK
          refine appR_intro ?_
          refine (fun K HK => appR_mk (L3 K HK) : ∀ K, _ → appR (run Go.Proofs.Try.prog E (envL Go.Proofs.Try.prog [82, 83]) (n + 92)) _ _ _ _ _ _ K) _ fun j3 hp3 out3 ho3 => ?_
          clear L3
          have ho4 : OutRel hp3 out3 (xs ++ listZ kind depth (g + 1) node st k) := by
            rw [listZ, if_neg hk0, hA, hnx, ← List.append_assoc]
            first | exact ho3 | (rw [hx2]; exact ho3)
          rcases ho3 with ⟨hx3, rfl⟩ | ⟨b3, ver3, rfl, hb3⟩
          · conv => whnf
            exact useJ (fun j => hK j hp3 _ ho4) rfl
          · conv => whnf
            exact useJ (fun j => hK j hp3 _ ho4) rfl
        · conv => whnf
          rw [w1, w2, w3, w4]
          refine lenK_intro (lenK_intro ?_)
          have L3 := fun K HK => ih (2 * node + 1) 0 (k - a) (n + 92) (0 + hp2.length) (0 + ([] : List Lp).length) hp2 (.sl b2 ver2 1 0 (xs ++ listZ kind depth g (2 * node) 0 a).length) (xs ++ listZ kind depth g (2 * node) 0 a) K (by omega) (by omega) (by decide) a3 (by omega) (.inr ⟨b2, ver2, rfl, hb2⟩) hl3 HK
          refine appR_intro ?_
          refine (fun K HK => appR_mk (L3 K HK) : ∀ K, _ → appR (run Go.Proofs.Try.prog E (envL Go.Proofs.Try.prog [82, 83]) (n + 92)) _ _ _ _ _ _ K) _ fun j3 hp3 out3 ho3 => ?_
          clear L3
          have ho4 : OutRel hp3 out3 (xs ++ listZ kind depth (g + 1) node st k) := by
            rw [listZ, if_neg hk0, hA, hnx, ← List.append_assoc]
            first | exact ho3 | (rw [hx2]; exact ho3)
          rcases ho3 with ⟨hx3, rfl⟩ | ⟨b3, ver3, rfl, hb3⟩
          · conv => whnf
            exact useJ (fun j => hK j hp3 _ ho4) rfl
          · conv => whnf
            exact useJ (fun j => hK j hp3 _ ho4) rfl
      · rw [h2]
        conv => whnf
        refine cndK_intro (fun h3 => ?_) (fun h3 => ?_)
        · have hnx : nextN kind depth g st k a = belowN kind depth st (g + 1) := by
            unfold nextN; rw [if_pos]; simp at h2 h3; exact ⟨by omega, by omega⟩
          rw [h3]
          conv => whnf
          refine ⟨_, belowp_pure kind depth (statesN kind) (fullR kind depth) st (g + 1) hst hh hd, ?_⟩
          conv => whnf
          rw [w1, w3]
          refine lenK_intro (lenK_intro ?_)
          have L2 := fun K HK => ih (2 * node) (belowN kind depth st (g + 1)) a (n + 93) (0 + hp.length) (0 + ([] : List Lp).length) hp (.sl b ver 1 0 xs.length) xs K (by omega) (by omega) (belowN_lt _ _ _ _ hst) a2 (by omega) (.inr ⟨b, ver, rfl, hb⟩) (by first | omega | (simp; omega)) HK
          refine appR_intro ?_
          refine (fun K HK => appR_mk (L2 K HK) : ∀ K, _ → appR (run Go.Proofs.Try.prog E (envL Go.Proofs.Try.prog [82, 83]) (n + 93)) _ _ _ _ _ _ K) _ fun j hp2 out2 ho2 => ?_
          clear L2
          have hl2 := listZ_length kind depth g (2 * node) (belowN kind depth st (g + 1)) a
          have hl3 : (xs ++ listZ kind depth g (2 * node) (belowN kind depth st (g + 1)) a).length + 2 ^ g ≤ 1000 := by rw [List.length_append]; (first | omega | (simp; omega))
          rcases ho2 with ⟨hx2, rfl⟩ | ⟨b2, ver2, rfl, hb2⟩
          · conv => whnf
            rw [w1, w2, w3, w4]
            refine lenK_intro (lenK_intro ?_)
            have L3 := fun K HK => ih (2 * node + 1) (belowN kind depth st (g + 1)) (k - a) (n + 92) (0 + hp2.length) (0 + ([] : List Lp).length) hp2 (.v (.slice none 0 0)) (xs ++ listZ kind depth g (2 * node) (belowN kind depth st (g + 1)) a) K (by omega) (by omega) (belowN_lt _ _ _ _ hst) a3 (by omega) (.inl ⟨hx2, rfl⟩) hl3 HK
            refine appR_intro ?_
            refine (fun K HK => appR_mk (L3 K HK) : ∀ K, _ → appR (run Go.Proofs.Try.prog E (envL Go.Proofs.Try.prog [82, 83]) (n + 92)) _ _ _ _ _ _ K) _ fun j3 hp3 out3 ho3 => ?_
            clear L3
            have ho4 : OutRel hp3 out3 (xs ++ listZ kind depth (g + 1) node st k) := by
              rw [listZ, if_neg hk0, hA, hnx, ← List.append_assoc]
              first | exact ho3 | (rw [hx2]; exact ho3)
            rcases ho3 with ⟨hx3, rfl⟩ | ⟨b3, ver3, rfl, hb3⟩
            · conv => whnf
              exact useJ (fun j => hK j hp3 _ ho4) rfl
            · conv => whnf
              exact useJ (fun j => hK j hp3 _ ho4) rfl
          · conv => whnf
            rw [w1, w2, w3, w4]
            refine lenK_intro (lenK_intro ?_)
            have L3 := fun K HK => ih (2 * node + 1) (belowN kind depth st (g + 1)) (k - a) (n + 92) (0 + hp2.length) (0 + ([] : List Lp).length) hp2 (.sl b2 ver2 1 0 (xs ++ listZ kind depth g (2 * node) (belowN kind depth st (g + 1)) a).length) (xs ++ listZ kind depth g (2 * node) (belowN kind depth st (g + 1)) a) K (by omega) (by omega) (belowN_lt _ _ _ _ hst) a3 (by omega) (.inr ⟨b2, ver2, rfl, hb2⟩) hl3 HK
            refine appR_intro ?_
            refine (fun K HK => appR_mk (L3 K HK) : ∀ K, _ → appR (run Go.Proofs.Try.prog E (envL Go.Proofs.Try.prog [82, 83]) (n + 92)) _ _ _ _ _ _ K) _ fun j3 hp3 out3 ho3 => ?_
            clear L3
            have ho4 : OutRel hp3 out3 (xs ++ listZ kind depth (g + 1) node st k) := by
              rw [listZ, if_neg hk0, hA, hnx, ← List.append_assoc]
              first | exact ho3 | (rw [hx2]; exact ho3)
            rcases ho3 with ⟨hx3, rfl⟩ | ⟨b3, ver3, rfl, hb3⟩
            · conv => whnf
              exact useJ (fun j => hK j hp3 _ ho4) rfl
            · conv => whnf
              exact useJ (fun j => hK j hp3 _ ho4) rfl
        · rw [h3]
          conv => whnf
          refine cndK_intro (fun h4 => ?_) (fun h4 => ?_)
          · have hnx : nextN kind depth g st k a = belowN kind depth st (g + 1) := by
              unfold nextN; rw [if_pos]; simp at h2 h4; exact ⟨by omega, by omega⟩
            try rw [h4]
            conv => whnf
            refine ⟨_, belowp_pure kind depth (statesN kind) (fullR kind depth) st (g + 1) hst hh hd, ?_⟩
            conv => whnf
            rw [w1, w3]
            refine lenK_intro (lenK_intro ?_)
            have L2 := fun K HK => ih (2 * node) (belowN kind depth st (g + 1)) a (n + 93) (0 + hp.length) (0 + ([] : List Lp).length) hp (.sl b ver 1 0 xs.length) xs K (by omega) (by omega) (belowN_lt _ _ _ _ hst) a2 (by omega) (.inr ⟨b, ver, rfl, hb⟩) (by first | omega | (simp; omega)) HK
            refine appR_intro ?_
            refine (fun K HK => appR_mk (L2 K HK) : ∀ K, _ → appR (run Go.Proofs.Try.prog E (envL Go.Proofs.Try.prog [82, 83]) (n + 93)) _ _ _ _ _ _ K) _ fun j hp2 out2 ho2 => ?_
            clear L2
            have hl2 := listZ_length kind depth g (2 * node) (belowN kind depth st (g + 1)) a
            have hl3 : (xs ++ listZ kind depth g (2 * node) (belowN kind depth st (g + 1)) a).length + 2 ^ g ≤ 1000 := by rw [List.length_append]; (first | omega | (simp; omega))
            rcases ho2 with ⟨hx2, rfl⟩ | ⟨b2, ver2, rfl, hb2⟩
            · conv => whnf
              rw [w1, w2, w3, w4]
              refine lenK_intro (lenK_intro ?_)
              have L3 := fun K HK => ih (2 * node + 1) (belowN kind depth st (g + 1)) (k - a) (n + 92) (0 + hp2.length) (0 + ([] : List Lp).length) hp2 (.v (.slice none 0 0)) (xs ++ listZ kind depth g (2 * node) (belowN kind depth st (g + 1)) a) K (by omega) (by omega) (belowN_lt _ _ _ _ hst) a3 (by omega) (.inl ⟨hx2, rfl⟩) hl3 HK
              refine appR_intro ?_
              refine (fun K HK => appR_mk (L3 K HK) : ∀ K, _ → appR (run Go.Proofs.Try.prog E (envL Go.Proofs.Try.prog [82, 83]) (n + 92)) _ _ _ _ _ _ K) _ fun j3 hp3 out3 ho3 => ?_
              clear L3
              have ho4 : OutRel hp3 out3 (xs ++ listZ kind depth (g + 1) node st k) := by
                rw [listZ, if_neg hk0, hA, hnx, ← List.append_assoc]
                first | exact ho3 | (rw [hx2]; exact ho3)
              rcases ho3 with ⟨hx3, rfl⟩ | ⟨b3, ver3, rfl, hb3⟩
              · conv => whnf
                exact useJ (fun j => hK j hp3 _ ho4) rfl
              · conv => whnf
                exact useJ (fun j => hK j hp3 _ ho4) rfl
            · conv => whnf
              rw [w1, w2, w3, w4]
              refine lenK_intro (lenK_intro ?_)
              have L3 := fun K HK => ih (2 * node + 1) (belowN kind depth st (g + 1)) (k - a) (n + 92) (0 + hp2.length) (0 + ([] : List Lp).length) hp2 (.sl b2 ver2 1 0 (xs ++ listZ kind depth g (2 * node) (belowN kind depth st (g + 1)) a).length) (xs ++ listZ kind depth g (2 * node) (belowN kind depth st (g + 1)) a) K (by omega) (by omega) (belowN_lt _ _ _ _ hst) a3 (by omega) (.inr ⟨b2, ver2, rfl, hb2⟩) hl3 HK
              refine appR_intro ?_
              refine (fun K HK => appR_mk (L3 K HK) : ∀ K, _ → appR (run Go.Proofs.Try.prog E (envL Go.Proofs.Try.prog [82, 83]) (n + 92)) _ _ _ _ _ _ K) _ fun j3 hp3 out3 ho3 => ?_
              clear L3
              have ho4 : OutRel hp3 out3 (xs ++ listZ kind depth (g + 1) node st k) := by
                rw [listZ, if_neg hk0, hA, hnx, ← List.append_assoc]
                first | exact ho3 | (rw [hx2]; exact ho3)
              rcases ho3 with ⟨hx3, rfl⟩ | ⟨b3, ver3, rfl, hb3⟩
              · conv => whnf
                exact useJ (fun j => hK j hp3 _ ho4) rfl
              · conv => whnf
                exact useJ (fun j => hK j hp3 _ ho4) rfl
          · have hnx : nextN kind depth g st k a = 0 := by
              unfold nextN; rw [if_neg]; simp at h2 h3 h4; omega
            try rw [h4]
            conv => whnf
            rw [w1, w3]
            refine lenK_intro (lenK_intro ?_)
            have L2 := fun K HK => ih (2 * node) 0 a (n + 93) (0 + hp.length) (0 + ([] : List Lp).length) hp (.sl b ver 1 0 xs.length) xs K (by omega) (by omega) (by decide) a2 (by omega) (.inr ⟨b, ver, rfl, hb⟩) (by first | omega | (simp; omega)) HK
            refine appR_intro ?_
            refine (fun K HK => appR_mk (L2 K HK) : ∀ K, _ → appR (run Go.Proofs.Try.prog E (envL Go.Proofs.Try.prog [82, 83]) (n + 93)) _ _ _ _ _ _ K) _ fun j hp2 out2 ho2 => ?_
            clear L2
            have hl2 := listZ_length kind depth g (2 * node) 0 a
            have hl3 : (xs ++ listZ kind depth g (2 * node) 0 a).length + 2 ^ g ≤ 1000 := by rw [List.length_append]; (first | omega | (simp; omega))
            rcases ho2 with ⟨hx2, rfl⟩ | ⟨b2, ver2, rfl, hb2⟩
            · conv => whnf
              rw [w1, w2, w3, w4]
              refine lenK_intro (lenK_intro ?_)
              have L3 := fun K HK => ih (2 * node + 1) 0 (k - a) (n + 92) (0 + hp2.length) (0 + ([] : List Lp).length) hp2 (.v (.slice none 0 0)) (xs ++ listZ kind depth g (2 * node) 0 a) K (by omega) (by omega) (by decide) a3 (by omega) (.inl ⟨hx2, rfl⟩) hl3 HK
              refine appR_intro ?_
              refine (fun K HK => appR_mk (L3 K HK) : ∀ K, _ → appR (run Go.Proofs.Try.prog E (envL Go.Proofs.Try.prog [82, 83]) (n + 92)) _ _ _ _ _ _ K) _ fun j3 hp3 out3 ho3 => ?_
              clear L3
              have ho4 : OutRel hp3 out3 (xs ++ listZ kind depth (g + 1) node st k) := by
                rw [listZ, if_neg hk0, hA, hnx, ← List.append_assoc]
                first | exact ho3 | (rw [hx2]; exact ho3)
              rcases ho3 with ⟨hx3, rfl⟩ | ⟨b3, ver3, rfl, hb3⟩
              · conv => whnf
                exact useJ (fun j => hK j hp3 _ ho4) rfl
              · conv => whnf
                exact useJ (fun j => hK j hp3 _ ho4) rfl
            · conv => whnf
              rw [w1, w2, w3, w4]
              refine lenK_intro (lenK_intro ?_)
              have L3 := fun K HK => ih (2 * node + 1) 0 (k - a) (n + 92) (0 + hp2.length) (0 + ([] : List Lp).length) hp2 (.sl b2 ver2 1 0 (xs ++ listZ kind depth g (2 * node) 0 a).length) (xs ++ listZ kind depth g (2 * node) 0 a) K (by omega) (by omega) (by decide) a3 (by omega) (.inr ⟨b2, ver2, rfl, hb2⟩) hl3 HK
              refine appR_intro ?_
              refine (fun K HK => appR_mk (L3 K HK) : ∀ K, _ → appR (run Go.Proofs.Try.prog E (envL Go.Proofs.Try.prog [82, 83]) (n + 92)) _ _ _ _ _ _ K) _ fun j3 hp3 out3 ho3 => ?_
              clear L3
              have ho4 : OutRel hp3 out3 (xs ++ listZ kind depth (g + 1) node st k) := by
                rw [listZ, if_neg hk0, hA, hnx, ← List.append_assoc]
                first | exact ho3 | (rw [hx2]; exact ho3)
              rcases ho3 with ⟨hx3, rfl⟩ | ⟨b3, ver3, rfl, hb3⟩
              · conv => whnf
                exact useJ (fun j => hK j hp3 _ ho4) rfl
              · conv => whnf
                exact useJ (fun j => hK j hp3 _ ho4) rfl
end Go.YtoeophdffhmpmaaE
