/- headendref10: values, entries, counts, lists. -/
import Derived.Test.YtoeophdffhmpmaaP9
set_option linter.unusedVariables false
set_option linter.unusedSimpArgs false
set_option maxRecDepth 100000
set_option maxHeartbeats 1000000
namespace Go.YtoeophdffhmpmaaE
open Go Go.RowKit

/-- An entry's row in tables as they stand in memory. -/
def RowAt (T : List (List (List Int))) (st g : Nat) (xs : List Int) : Prop := ∃ L, T[st]? = some L ∧ L[g]? = some xs
theorem RowAt.mem {T : List (List (List Int))} {st g : Nat} {xs : List Int} (h : RowAt T st g xs) :
    ∃ L, (nest3 T)[st]? = some [.ro (nest2 L)] ∧ st < (nest3 T).length ∧ (nest2 L)[g]? = some [.ro (ints xs)] ∧ g < (nest2 L).length := by
  obtain ⟨L, h1, h2⟩ := h
  obtain ⟨h3, h4⟩ := List.getElem?_eq_some_iff.1 h1
  obtain ⟨h5, h6⟩ := List.getElem?_eq_some_iff.1 h2
  refine ⟨L, ?_, by rw [nest3_length]; exact h3, ?_, by rw [nest2_length]; exact h5⟩
  · rw [nest3_get T st h3, h4]
  · rw [nest2_get L g h5, h6]
theorem below3_pure (kind d st h : Nat) (hk : (kind = 2 ∧ st ≤ 1) ∨ kind = 3) (hst : st < 4) (hh : h ≤ d) (hd : d ≤ 6) :
    Pure Go.Proofs.Try.prog 111 [scheme kind d 0 0 0 0, .v (.int .i64 st), .v (.int .i64 h)] ⟨.v (.int .i64 (belowN kind d st h)), []⟩ := by
  refine pure_sz pf eqOk_none (env_ok [132] rfl) fun _ => ⟨60, ?_⟩
  have e1 : IntKind.i64.wrap ((d : Int) - (h : Int)) = ((d - h : Nat) : Int) := by rw [wrap64 (by omega) (by omega)]; omega
  rcases hk with ⟨rfl, h1⟩ | rfl
  · have : st = 0 ∨ st = 1 := by omega
    rcases this with rfl | rfl
    all_goals
      conv => whnf
      left
      conv => whnf
      try rfl
  · have : st = 0 ∨ st = 1 ∨ st = 2 ∨ st = 3 := by omega
    rcases this with rfl | rfl | rfl | rfl
    all_goals
      conv => whnf
      try (refine Or.inl ⟨9, by kernel_rfl, ?_⟩
           conv => whnf
           refine ⟨_, stride3_pure d hd, ?_⟩
           conv => whnf
           refine ⟨by have := strideN_pos d; omega, ?_⟩
           conv => whnf
           rw [e1, tmod0 _ _ (strideN_pos d)]
           refine cndK_intro (fun h2 => ?_) (fun h2 => ?_) <;> conv => whnf
           (try (refine ⟨by decide, ?_⟩; conv => whnf)))
    all_goals
      left
      conv => whnf
      first | rfl | (simp_all [belowN]; done) | skip
theorem value3_pure (kind d st g k a : Nat) (T : List (List (List Int))) (first low : List Int) (hk1 : 1 ≤ kind) (hk3 : kind ≤ 3) (hs2 : kind = 2 → st ≤ 1) (hst : st < 4) (hh : g + 1 ≤ d) (hd : d ≤ 6)
    (h0 : RowAt T 0 g first) (hb : kind ≠ 1 → RowAt T (belowN kind d st (g + 1)) g low) (l0 : first.length = 2 ^ g + 1) (lb : kind ≠ 1 → low.length = 2 ^ g + 1)
    (ha : a ≤ k) (ha2 : a ≤ 2 ^ g) (hka : k - a ≤ 2 ^ g) (s0 : SmallL first) :
    Pure Go.Proofs.Try.prog 107 [scheme kind d 0 0 0 0, .ro (nest3 T), .v (.int .i64 st), .v (.int .i64 (g + 1 : Nat)), .v (.int .i64 k), .v (.int .i64 a)]
      ⟨.v (.int .i64 (valZ kind first low (moreZ st) k a)), []⟩ := by
  refine pure_sz pf eqOk_none (env_ok [106, 111] rfl) fun _ => ⟨60, ?_⟩
  have eg : IntKind.i64.wrap (((g + 1 : Nat) : Int) - 1) = ((g : Nat) : Int) := by rw [wrap64 (by omega) (by omega)]; omega
  have hp := pow_le6 (show g ≤ 6 by omega)
  have ek : IntKind.i64.wrap ((k : Int) - (a : Int)) = ((k - a : Nat) : Int) := by rw [wrap64 (by omega) (by omega)]; omega
  obtain ⟨L0, m1, m2, m3, m4⟩ := h0.mem
  obtain ⟨b1, b2⟩ := s0.get a (by omega)
  obtain ⟨b3, b4⟩ := s0.get (k - a) (by omega)
  obtain ⟨b5, b6⟩ := moreZ_le st
  conv => whnf
  refine cndK_intro (fun h1 => ?_) (fun h1 => ?_)
  · have hk : kind = 1 := by simp at h1; omega
    conv => whnf
    refine Or.inl ⟨24, by kernel_rfl, ?_⟩
    conv => whnf
    refine ⟨⟨by omega, by omega⟩, optK_intro [.ro (nest2 L0)] m1 ?_⟩
    conv => whnf
    rw [eg]
    refine ⟨⟨by omega, by omega⟩, optK_intro [.ro (ints first)] m3 ?_⟩
    conv => whnf
    refine ⟨⟨by omega, by rw [ints_length]; omega⟩, optK_intro _ (ints_getD _ _ (by simp; omega)) ?_⟩
    conv => whnf
    refine ⟨⟨by omega, by omega⟩, optK_intro [.ro (nest2 L0)] m1 ?_⟩
    conv => whnf
    rw [eg]
    refine ⟨⟨by omega, by omega⟩, optK_intro [.ro (ints first)] m3 ?_⟩
    conv => whnf
    rw [ek]
    refine ⟨⟨by omega, by rw [ints_length]; omega⟩, optK_intro _ (ints_getD _ _ (by simp; omega)) ?_⟩
    conv => whnf
    left
    conv => whnf
    simp only [Int.toNat_natCast]
    rw [wrap64 (by omega) (by omega), valZ, if_pos hk]
  · have hk : kind ≠ 1 := fun e => by subst e; simp at h1
    have lb := lb hk
    obtain ⟨Lb, q1, q2, q3, q4⟩ := (hb hk).mem
    have mid : 0 < a ∧ a < k → valZ kind first low (moreZ st) k a = first.getD a 0 + first.getD (k - a) 0 + moreZ st := fun h => by rw [valZ, if_neg hk, if_pos h]
    have lowe : ¬ (0 < a ∧ a < k) → valZ kind first low (moreZ st) k a = low.getD k 0 := fun h => by rw [valZ, if_neg hk, if_neg h]
    conv => whnf
    refine cndK_intro (fun h2 => ?_) (fun h2 => ?_)
    · rw [h2]
      conv => whnf
      refine cndK_intro (fun h3 => ?_) (fun h3 => ?_)
      · conv => whnf
        refine Or.inl ⟨27, by kernel_rfl, ?_⟩
        conv => whnf
        refine ⟨⟨by omega, by omega⟩, optK_intro [.ro (nest2 L0)] m1 ?_⟩
        conv => whnf
        rw [eg]
        refine ⟨⟨by omega, by omega⟩, optK_intro [.ro (ints first)] m3 ?_⟩
        conv => whnf
        refine ⟨⟨by omega, by rw [ints_length]; omega⟩, optK_intro _ (ints_getD _ _ (by simp; omega)) ?_⟩
        conv => whnf
        refine ⟨⟨by omega, by omega⟩, optK_intro [.ro (nest2 L0)] m1 ?_⟩
        conv => whnf
        rw [eg]
        refine ⟨⟨by omega, by omega⟩, optK_intro [.ro (ints first)] m3 ?_⟩
        conv => whnf
        rw [ek]
        refine ⟨⟨by omega, by rw [ints_length]; omega⟩, optK_intro _ (ints_getD _ _ (by simp; omega)) ?_⟩
        conv => whnf
        refine ⟨_, more_pure st hst, ?_⟩
        conv => whnf
        left
        conv => whnf
        simp only [Int.toNat_natCast]
        show (_ : Res) = ⟨.v (.int .i64 (IntKind.i64.wrap (IntKind.i64.wrap (first.getD a 0 + first.getD (k - a) 0) + moreZ st))), []⟩
        rw [wrap64 (n := first.getD a 0 + first.getD (k - a) 0) (by omega) (by omega), wrap64 (by omega) (by omega), mid ⟨by simpa using h2, by simpa using h3⟩]
      · conv => whnf
        have hk2 : k ≤ 2 ^ g := by simp at h2 h3; omega
        refine ⟨_, below3_pure kind d st (g + 1) (by omega) hst hh hd, ?_⟩
        conv => whnf
        refine ⟨⟨by omega, by omega⟩, optK_intro [.ro (nest2 Lb)] q1 ?_⟩
        conv => whnf
        rw [eg]
        refine ⟨⟨by omega, by omega⟩, optK_intro [.ro (ints low)] q3 ?_⟩
        conv => whnf
        refine ⟨⟨by omega, by rw [ints_length]; omega⟩, optK_intro _ (ints_getD _ _ (by simp; omega)) ?_⟩
        conv => whnf
        left
        conv => whnf
        simp only [Int.toNat_natCast]
        rw [lowe (by simp at h2 h3; omega)]
    · rw [h2]
      conv => whnf
      have hk2 : k ≤ 2 ^ g := by simp at h2; omega
      refine ⟨_, below3_pure kind d st (g + 1) (by omega) hst hh hd, ?_⟩
      conv => whnf
      refine ⟨⟨by omega, by omega⟩, optK_intro [.ro (nest2 Lb)] q1 ?_⟩
      conv => whnf
      rw [eg]
      refine ⟨⟨by omega, by omega⟩, optK_intro [.ro (ints low)] q3 ?_⟩
      conv => whnf
      refine ⟨⟨by omega, by rw [ints_length]; omega⟩, optK_intro _ (ints_getD _ _ (by simp; omega)) ?_⟩
      conv => whnf
      left
      conv => whnf
      simp only [Int.toNat_natCast]
      rw [lowe (by simp at h2; omega)]
end Go.YtoeophdffhmpmaaE
