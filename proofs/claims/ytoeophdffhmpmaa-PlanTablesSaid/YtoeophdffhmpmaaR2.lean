/- headendref10: best, count, greatest. -/
import Derived.Test.YtoeophdffhmpmaaR1
set_option linter.unusedVariables false
set_option linter.unusedSimpArgs false
set_option maxRecDepth 100000
set_option maxHeartbeats 1000000
namespace Go.YtoeophdffhmpmaaE
open Go Go.RowKit

/-- The first of the greatest values, begun below all of them. -/
def grI (f : Nat → Int) : Nat → Nat → Int → Int → Int × Int
  | 0, _, m, b => (m, b)
  | n + 1, a, m, b => if f a > m then grI f n (a + 1) (f a) a else grI f n (a + 1) m b
theorem grI_eq (f : Nat → Int) : ∀ (n a : Nat) (m : Int) (b : Nat), grI f n a m b = ((gr f n a m b false).1, ((gr f n a m b false).2.1 : Int)) := by
  intro n
  induction n with
  | zero => intro a m b; rfl
  | succ n ih =>
    intro a m b
    rw [grI, gr]
    by_cases h : f a > m
    · rw [if_pos h, if_pos (.inr h)]; exact ih _ _ _
    · rw [if_neg h, if_neg (by simpa using h)]; exact ih _ _ _
theorem grI_first (f : Nat → Int) (n a : Nat) (hn : 0 < n) (hf : 0 ≤ f a) : grI f n a (-1) (-1) = ((gr f n a 0 0 true).1, ((gr f n a 0 0 true).2.1 : Int)) := by
  obtain ⟨n, rfl⟩ : ∃ m, n = m + 1 := ⟨n - 1, by omega⟩
  rw [grI, gr, if_pos (by omega), if_pos (.inl rfl)]
  exact grI_eq f n (a + 1) (f a) a
def schemeC (kind d : Nat) : Blk := .bx false [.v (.int .u8 kind), .v (.int .i64 d), .v (.int .i64 0), .v (.int .u64 0), .v (.int .u64 0), .v (.int .u64 0)]
section
variable (kind d st g k : Nat) (T : List (List (List Int))) (first low : List Int) (hk1 : 1 ≤ kind) (hk3 : kind ≤ 3) (hs2 : kind = 2 → st ≤ 1) (hst : st < 4) (hh : g + 1 ≤ d) (hd : d ≤ 6)
    (h0 : RowAt T 0 g first) (hb : kind ≠ 1 → RowAt T (belowN kind d st (g + 1)) g low) (l0 : first.length = 2 ^ g + 1) (lb : kind ≠ 1 → low.length = 2 ^ g + 1) (s0 : SmallL first)
include hk1 hk3 hs2 hst hh hd h0 hb l0 lb s0
theorem best3_loop (E : EqT) (K : K) :
    ∀ (c a n : Nat) (m b : Int), a + c = min k (2 ^ g) + 1 → k - 2 ^ g ≤ a → c + 60 ≤ n →
      (∀ j, K (.exit 0) (mkJ 46 [(13, .v (.int .i64 (grI (valZ kind first low (moreZ st) k) c a m b).1)), (14, .v (.int .i64 (grI (valZ kind first low (moreZ st) k) c a m b).2))] j) [schemeC kind d] []) →
      loopF (run Go.Proofs.Try.prog E (envL Go.Proofs.Try.prog [107]) n) 0 0 (loopB Go.Proofs.Try.prog 81 0)
        (mkT 46 [(1, .ro (nest3 T)), (2, .v (.int .i64 st)), (3, .v (.int .i64 (g + 1 : Nat))), (4, .v (.int .i64 k)), (5, .pt 0 0 0 0 0), (12, .v (.int .i64 (2 ^ g : Nat))), (13, .v (.int .i64 m)), (14, .v (.int .i64 b)), (15, .v (.int .i64 a))]) [schemeC kind d] [] K := by
  intro c
  have hp := pow_le6 (show g ≤ 6 by omega)
  induction c with
  | zero =>
    intro a n m b hi hlo hn hK
    obtain ⟨n, rfl⟩ : ∃ m, n = m + 60 := ⟨n - 60, by omega⟩
    conv => whnf
    refine cndK_intro (fun h => ?_) (fun h => ?_)
    · exfalso
      simp only [decide_eq_true_eq] at h
      split at h <;> omega
    · conv => whnf
      exact useJ hK rfl
  | succ c ih =>
    intro a n m b hi hlo hn hK
    obtain ⟨n, rfl⟩ : ∃ m, n = m + 60 := ⟨n - 60, by omega⟩
    have ea : IntKind.i64.wrap ((a : Int) + 1) = ((a + 1 : Nat) : Int) := by rw [wrap64 (by omega) (by omega)]; omega
    conv => whnf
    refine cndK_intro (fun h => ?_) (fun h => ?_)
    · conv => whnf
      refine ⟨_, value3_pure kind d st g k a T first low hk1 hk3 hs2 hst hh hd h0 hb l0 lb (by omega) (by omega) (by omega) s0, ?_⟩
      conv => whnf
      refine cndK_intro (fun h2 => ?_) (fun h2 => ?_)
      · have h2' : valZ kind first low (moreZ st) k a > m := by simpa using h2
        conv => whnf
        rw [ea]
        refine wk_mask [false, true, true, true, true, true, false, false, false, false, false, false, true, true, true, true] _ rfl ?_
        exact ih (a + 1) (n + 59) _ _ (by omega) (by omega) (by omega) (fun j => by have := hK j; rw [grI, if_pos h2'] at this; exact this)
      · have h2' : ¬ valZ kind first low (moreZ st) k a > m := by simpa using h2
        conv => whnf
        rw [ea]
        refine wk_mask [false, true, true, true, true, true, false, false, false, false, false, false, true, true, true, true] _ rfl ?_
        exact ih (a + 1) (n + 59) _ _ (by omega) (by omega) (by omega) (fun j => by have := hK j; rw [grI, if_neg h2'] at this; exact this)
    · exfalso
      simp only [decide_eq_false_iff_not] at h
      split at h <;> omega
theorem best3_pure (hlow : kind ≠ 1 → SmallL low) (hk : k ≤ 2 ^ (g + 1)) :
    Pure Go.Proofs.Try.prog 81 [scheme kind d 0 0 0 0, .ro (nest3 T), .v (.int .i64 st), .v (.int .i64 (g + 1 : Nat)), .v (.int .i64 k)]
      ⟨.tup [.v (.int .i64 (bestZ kind first low (moreZ st) g k).1), .v (.int .i64 (bestZ kind first low (moreZ st) g k).2.1)], []⟩ := by
  refine pure_sz pf eqOk_none (env_ok [107] rfl) fun _ => ⟨200, ?_⟩
  have hp := pow_le6 (show g ≤ 6 by omega)
  have hp2 : 2 ^ (g + 1) = 2 * 2 ^ g := by rw [Nat.pow_succ, Nat.mul_comm]
  have eg : IntKind.i64.wrap (((g + 1 : Nat) : Int) - 1) = ((g : Nat) : Int) := by rw [wrap64 (by omega) (by omega)]; omega
  have eu : IntKind.u64.wrap (g : Int) = (g : Int) := by
    simp [IntKind.wrap, IntKind.bits, IntKind.signed]; omega
  have el : (if IntKind.i64.wrap ((k : Int) - ((2 ^ g : Nat) : Int)) > 0 then IntKind.i64.wrap ((k : Int) - ((2 ^ g : Nat) : Int)) else 0) = ((k - 2 ^ g : Nat) : Int) := by
    rw [wrap64 (by omega) (by omega)]
    split <;> omega
  have hf : 0 ≤ valZ kind first low (moreZ st) k (k - 2 ^ g) := by
    obtain ⟨b1, _⟩ := s0.get (k - 2 ^ g) (by omega)
    obtain ⟨b3, _⟩ := s0.get (k - (k - 2 ^ g)) (by omega)
    have b5 := moreZ_le st
    unfold valZ
    split
    · omega
    · rename_i hne
      split
      · omega
      · by_cases hkl : k < low.length
        · exact ((hlow hne).get k hkl).1
        · rw [List.getD_eq_getElem?_getD, List.getElem?_eq_none (by omega)]; decide
  have hz := grI_first (valZ kind first low (moreZ st) k) (min k (2 ^ g) + 1 - (k - 2 ^ g)) (k - 2 ^ g) (by omega) hf
  conv => whnf
  rw [eg, eu]
  refine ⟨by omega, ?_⟩
  conv => whnf
  rw [shl1 (show g ≤ 6 by omega), el]
  refine wk_mask [false, true, true, true, true, true, false, false, false, false, false, false, true, true, true, true] _ rfl ?_
  refine best3_loop kind d st g k T first low hk1 hk3 hs2 hst hh hd h0 hb l0 lb s0 _ _ (min k (2 ^ g) + 1 - (k - 2 ^ g)) (k - 2 ^ g) 193 (-1) (-1) (by omega) (by omega) (by omega) fun j => ?_
  rw [hz]
  conv => whnf
  left
  conv => whnf
  try rfl
end
/-! ### Counts -/
theorem count3_pure (kind d k : Nat) (T : List (List (List Int))) (xs : List Int) (hd : d ≤ 6) (h0 : RowAt T 0 d xs) (l0 : xs.length = 2 ^ d + 1) (hk : k ≤ 2 ^ d) :
    Pure Go.Proofs.Try.prog 78 [scheme kind d 0 0 0 0, .ro (nest3 T), .v (.int .i64 k)] ⟨.v (.int .i64 (if k = 0 then 1 else xs.getD k 0)), []⟩ := by
  refine pure_sz pf eqOk_none (env_ok [] rfl) fun _ => ⟨60, ?_⟩
  obtain ⟨L0, m1, m2, m3, m4⟩ := h0.mem
  conv => whnf
  refine cndK_intro (fun h1 => ?_) (fun h1 => ?_)
  · have hk0 : k = 0 := by simp at h1; omega
    rw [if_pos hk0]
    conv => whnf
    left
    conv => whnf
    try rfl
  · have hk0 : k ≠ 0 := by simp at h1; omega
    rw [if_neg hk0]
    conv => whnf
    refine Or.inl ⟨11, by kernel_rfl, ?_⟩
    conv => whnf
    refine ⟨⟨by omega, by omega⟩, optK_intro [.ro (nest2 L0)] m1 ?_⟩
    conv => whnf
    refine ⟨⟨by omega, by omega⟩, optK_intro [.ro (ints xs)] m3 ?_⟩
    conv => whnf
    refine ⟨⟨by omega, by rw [ints_length]; omega⟩, optK_intro _ (ints_getD _ _ (by simp; omega)) ?_⟩
    conv => whnf
    left
    conv => whnf
    try rfl
theorem greatest3_loop (E : EqT) (kind d r : Nat) (T : List (List (List Int))) (xs : List Int) (hd : d ≤ 6) (h0 : RowAt T 0 d xs) (l0 : xs.length = 2 ^ d + 1) (hr : r ≤ 2 ^ d) (K : K) :
    ∀ (c a n : Nat) (m b : Int), a + c = r + 1 → c + 60 ≤ n →
      (∀ j, K (.exit 0) (mkJ 28 [(8, .v (.int .i64 (grI (fun k => if k = 0 then 1 else xs.getD k 0) c a m b).1)), (9, .v (.int .i64 (grI (fun k => if k = 0 then 1 else xs.getD k 0) c a m b).2))] j) [schemeC kind d] []) →
      loopF (run Go.Proofs.Try.prog E (envL Go.Proofs.Try.prog [78]) n) 0 0 (loopB Go.Proofs.Try.prog 41 0)
        (mkT 28 [(1, .ro (nest3 T)), (2, .v (.int .i64 r)), (3, .pt 0 0 0 0 0), (8, .v (.int .i64 m)), (9, .v (.int .i64 b)), (10, .v (.int .i64 a))]) [schemeC kind d] [] K := by
  intro c
  have hp := pow_le6 hd
  induction c with
  | zero =>
    intro a n m b hi hn hK
    obtain ⟨n, rfl⟩ : ∃ m, n = m + 60 := ⟨n - 60, by omega⟩
    conv => whnf
    refine cndK_intro (fun h => ?_) (fun h => ?_)
    · exfalso
      simp only [decide_eq_true_eq] at h
      omega
    · conv => whnf
      exact useJ hK rfl
  | succ c ih =>
    intro a n m b hi hn hK
    obtain ⟨n, rfl⟩ : ∃ m, n = m + 60 := ⟨n - 60, by omega⟩
    have ea : IntKind.i64.wrap ((a : Int) + 1) = ((a + 1 : Nat) : Int) := by rw [wrap64 (by omega) (by omega)]; omega
    conv => whnf
    refine cndK_intro (fun h => ?_) (fun h => ?_)
    · conv => whnf
      refine ⟨_, count3_pure kind d a T xs hd h0 l0 (by omega), ?_⟩
      generalize hv : (if a = 0 then 1 else xs.getD a 0) = v
      conv => whnf
      refine cndK_intro (fun h2 => ?_) (fun h2 => ?_)
      · have h2' : (if a = 0 then 1 else xs.getD a 0) > m := by rw [hv]; simpa using h2
        conv => whnf
        rw [ea]
        refine wk_mask [false, true, true, true, false, false, false, false, true, true, true] _ rfl ?_
        exact ih (a + 1) (n + 59) _ _ (by omega) (by omega) (fun j => by have := hK j; rw [grI, if_pos h2', hv] at this; exact this)
      · have h2' : ¬ (if a = 0 then 1 else xs.getD a 0) > m := by rw [hv]; simpa using h2
        conv => whnf
        rw [ea]
        refine wk_mask [false, true, true, true, false, false, false, false, true, true, true] _ rfl ?_
        exact ih (a + 1) (n + 59) _ _ (by omega) (by omega) (fun j => by have := hK j; rw [grI, if_neg h2'] at this; exact this)
    · exfalso
      simp only [decide_eq_false_iff_not] at h
      omega
theorem greatest3_pure (kind d r : Nat) (T : List (List (List Int))) (xs : List Int) (hd : d ≤ 6) (h0 : RowAt T 0 d xs) (l0 : xs.length = 2 ^ d + 1) (hr : r ≤ 2 ^ d) :
    Pure Go.Proofs.Try.prog 41 [scheme kind d 0 0 0 0, .ro (nest3 T), .v (.int .i64 r)]
      ⟨.tup [.v (.int .i64 (gr (fun k => if k = 0 then 1 else xs.getD k 0) (r + 1) 0 0 0 true).1), .v (.int .i64 (gr (fun k => if k = 0 then 1 else xs.getD k 0) (r + 1) 0 0 0 true).2.1)], []⟩ := by
  refine pure_sz pf eqOk_none (env_ok [78] rfl) fun _ => ⟨200, ?_⟩
  have hp := pow_le6 hd
  have hz := grI_first (fun k => if k = 0 then 1 else xs.getD k 0) (r + 1) 0 (by omega) (by simp)
  conv => whnf
  refine wk_mask [false, true, true, true, false, false, false, false, true, true, true] _ rfl ?_
  refine greatest3_loop _ kind d r T xs hd h0 l0 hr _ (r + 1) 0 194 (-1) (-1) (by omega) (by omega) fun j => ?_
  rw [hz]
  conv => whnf
  left
  conv => whnf
  try rfl
end Go.YtoeophdffhmpmaaE
