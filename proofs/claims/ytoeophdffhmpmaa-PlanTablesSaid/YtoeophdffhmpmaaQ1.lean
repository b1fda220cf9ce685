/- headendref10.Great, SameTables; slices.Equal, EqualFunc, Clone. -/
import Derived.Test.YtoeophdffhmpmaaR6
set_option linter.unusedVariables false
set_option linter.unusedSimpArgs false
set_option maxRecDepth 100000
set_option maxHeartbeats 1000000
namespace Go.YtoeophdffhmpmaaE
open Go Go.RowKit

/-! ### slices.Equal -/
theorem equal_loop (E : EqT) (env : Env) (xs ys : List Int) (hl : xs.length = ys.length) (hm : xs.length ≤ maxLen) (K : K) :
    ∀ (d i n : Nat), i + d = xs.length → d + 40 ≤ n → (∀ j, (hj : j < i) → (h1 : j < xs.length) → (h2 : j < ys.length) → xs[j] = ys[j]) →
      (xs ≠ ys → ∀ j, K .ret (mkJ 26 [(4, .v (.bool false))] j) [] []) → (xs = ys → ∀ j, K (.exit 0) (mkJ 26 [] j) [] []) →
      loopF (run Go.Proofs.Try.prog E env n) 0 0 (loopB Go.Proofs.Try.prog 52 0) (mkT 26 [(0, .ro (ints xs)), (1, .ro (ints ys)), (12, .v (.int .i64 (xs.length : Nat))), (13, .v (.int .i64 i))]) [] [] K := by
  intro d
  induction d with
  | zero =>
    intro i n hi hn heq hf ht
    obtain ⟨n, rfl⟩ : ∃ m, n = m + 40 := ⟨n - 40, by omega⟩
    conv => whnf
    refine cndK_intro (fun h => ?_) (fun h => ?_)
    · simp at h; omega
    · conv => whnf
      exact useJ (ht (List.ext_getElem hl (fun j h1 h2 => heq j (by omega) h1 h2))) rfl
  | succ d ih =>
    intro i n hi hn heq hf ht
    obtain ⟨n, rfl⟩ : ∃ m, n = m + 40 := ⟨n - 40, by omega⟩
    conv => whnf
    refine cndK_intro (fun h => ?_) (fun h => ?_)
    · conv => whnf
      refine Or.inl ⟨8, by kernel_rfl, ?_⟩
      conv => whnf
      have hi2 : i < xs.length := by omega
      refine ⟨⟨by omega, by simp [ints_length]; omega⟩, optK_intro _ (ints_get xs i hi2) ?_⟩
      conv => whnf
      refine ⟨⟨by omega, by simp [ints_length]; omega⟩, optK_intro _ (ints_get ys i (by omega)) ?_⟩
      conv => whnf
      refine cndK_intro (fun h2 => ?_) (fun h2 => ?_)
      · conv => whnf
        exact useJ (hf (fun e => by subst e; simp at h2)) rfl
      · conv => whnf
        have e1 : IntKind.i64.wrap ((i : Int) + 1) = ((i + 1 : Nat) : Int) := by
          simp only [maxLen] at hm
          simp [IntKind.wrap, IntKind.bits, IntKind.signed]
          omega
        refine wk_mask [true, true, false, false, false, false, false, false, false, false, false, false, true, true] _ rfl ?_
        have e2 : ∀ j, (hj : j < i + 1) → (h1 : j < xs.length) → (h2 : j < ys.length) → xs[j] = ys[j] := fun j hj h1 h3 => by
          by_cases hji : j = i
          · subst hji; simpa using h2
          · exact heq j (by omega) h1 h3
        rw [e1]
        exact ih (i + 1) (n + 39) (by omega) (by omega) e2 hf ht
    · simp at h; omega
theorem equal_pure (xs ys : List Int) : Pure Go.Proofs.Try.prog 52 [.ro (ints xs), .ro (ints ys)] ⟨.v (.bool (decide (xs = ys))), []⟩ := by
  refine pure_sz pf eqOk_none (env_ok [] rfl) fun hs => ⟨xs.length + 100, ?_⟩
  have hm : xs.length ≤ maxLen := by have := (hs 0 (by simp)).len; rwa [ints_length] at this
  conv => whnf
  refine cndK_intro (fun h => ?_) (fun h => ?_)
  · conv => whnf
    left
    conv => whnf
    have : xs ≠ ys := fun e => by subst e; simp at h
    simp [this]
  · conv => whnf
    simp only [ints_length, bne_eq_false_iff_eq] at h
    rw [show (((ints xs).length : Nat) : Int) = ((xs.length : Nat) : Int) from by rw [ints_length]]
    refine wk_mask [true, true, false, false, false, false, false, false, false, false, false, false, true, true] _ rfl ?_
    refine equal_loop (fun _ => none) (envL Go.Proofs.Try.prog []) xs ys (by omega) hm _ xs.length 0 (xs.length + 94) (by omega) (by omega) (fun j hj => by omega) (fun hne j => ?_) (fun he j => ?_)
    · conv => whnf
      left
      conv => whnf
      simp [hne]
    · conv => whnf
      left
      conv => whnf
      simp [he]

/-! ### slices.EqualFunc -/
theorem eqf2_loop (E : EqT) (xs ys : List (List Int)) (hg : ∀ x y : (List Int), Pure Go.Proofs.Try.prog 52 [.ro (ints x), .ro (ints y)] ⟨.v (.bool (decide (x = y))), []⟩) (hl : xs.length = ys.length) (hm : xs.length ≤ maxLen) (K : K) :
    ∀ (d i n : Nat), i + d = xs.length → d + 40 ≤ n → (∀ j, (hj : j < i) → (h1 : j < xs.length) → (h2 : j < ys.length) → xs[j] = ys[j]) →
      (xs ≠ ys → ∀ j, K .ret (mkJ 32 [(6, .v (.bool false))] j) [] []) → (xs = ys → ∀ j, K (.exit 0) (mkJ 32 [] j) [] []) →
      loopF (run Go.Proofs.Try.prog E (envL Go.Proofs.Try.prog [52]) n) 0 0 (loopB Go.Proofs.Try.prog 51 0) (mkT 32 [(1, .ro (nest2 ys)), (2, .fn 52 [] []), (15, .ro (nest2 xs)), (16, .v (.int .i64 (xs.length : Nat))), (17, .v (.int .i64 i))]) [] [] K := by
  intro d
  induction d with
  | zero =>
    intro i n hi hn heq hf ht
    obtain ⟨n, rfl⟩ : ∃ m, n = m + 40 := ⟨n - 40, by omega⟩
    conv => whnf
    refine cndK_intro (fun h => ?_) (fun h => ?_)
    · simp at h; omega
    · conv => whnf
      exact useJ (ht (List.ext_getElem hl (fun j h1 h2 => heq j (by omega) h1 h2))) rfl
  | succ d ih =>
    intro i n hi hn heq hf ht
    obtain ⟨n, rfl⟩ : ∃ m, n = m + 40 := ⟨n - 40, by omega⟩
    conv => whnf
    refine cndK_intro (fun h => ?_) (fun h => ?_)
    · conv => whnf
      have hi2 : i < xs.length := by omega
      have hi3 : i < ys.length := by omega
      refine ⟨⟨by omega, by rw [nest2_length]; omega⟩, ?_⟩
      conv => whnf
      refine optK_intro _ (nest2_get xs i hi2) ?_
      conv => whnf
      refine ⟨⟨by omega, by rw [nest2_length]; omega⟩, ?_⟩
      conv => whnf
      refine optK_intro _ (nest2_get ys i hi3) ?_
      conv => whnf
      refine ⟨_, hg xs[i] ys[i], ?_⟩
      by_cases h2 : xs[i] = ys[i]
      · rw [show decide (xs[i] = ys[i]) = true by simp [h2]]
        conv => whnf
        have e1 : IntKind.i64.wrap ((i : Int) + 1) = ((i + 1 : Nat) : Int) := by
          simp only [maxLen] at hm
          simp [IntKind.wrap, IntKind.bits, IntKind.signed]
          omega
        rw [e1]
        refine wk_mask [false, true, true, false, false, false, false, false, false, false, false, false, false, false, false, true, true, true] _ rfl ?_
        have e2 : ∀ j, (hj : j < i + 1) → (h1 : j < xs.length) → (h2 : j < ys.length) → xs[j] = ys[j] := fun j hj h1 h3 => by
          by_cases hji : j = i
          · subst hji; exact h2
          · exact heq j (by omega) h1 h3
        exact ih (i + 1) (n + 39) (by omega) (by omega) e2 hf ht
      · rw [show decide (xs[i] = ys[i]) = false by simp [h2]]
        conv => whnf
        exact useJ (hf (fun e => h2 (by subst e; rfl))) rfl
    · simp at h; omega
theorem eqf2_pure (xs ys : List (List Int)) (hg : ∀ x y : (List Int), Pure Go.Proofs.Try.prog 52 [.ro (ints x), .ro (ints y)] ⟨.v (.bool (decide (x = y))), []⟩) :
    Pure Go.Proofs.Try.prog 51 [.ro (nest2 xs), .ro (nest2 ys), .fn 52 [] []] ⟨.v (.bool (decide (xs = ys))), []⟩ := by
  refine pure_sz pf eqOk_none (env_ok [52] rfl) fun hs => ⟨xs.length + 100, ?_⟩
  have hm : xs.length ≤ maxLen := by have := (hs 0 (by simp)).len; rwa [nest2_length] at this
  conv => whnf
  refine cndK_intro (fun h => ?_) (fun h => ?_)
  · conv => whnf
    left
    conv => whnf
    have : xs ≠ ys := fun e => by subst e; simp at h
    simp [this]
  · conv => whnf
    simp only [nest2_length, bne_eq_false_iff_eq] at h
    rw [show (((nest2 xs).length : Nat) : Int) = ((xs.length : Nat) : Int) from by rw [nest2_length]]
    refine wk_mask [false, true, true, false, false, false, false, false, false, false, false, false, false, false, false, true, true, true] _ rfl ?_
    refine eqf2_loop (fun _ => none) xs ys hg (by omega) hm _ xs.length 0 (xs.length + 94) (by omega) (by omega) (fun j hj => by omega) (fun hne j => ?_) (fun he j => ?_)
    · conv => whnf
      left
      conv => whnf
      simp [hne]
    · conv => whnf
      left
      conv => whnf
      simp [he]
theorem eq2_pure (xs ys : List (List Int)) : Pure Go.Proofs.Try.prog 50 [.ro (nest2 xs), .ro (nest2 ys)] ⟨.v (.bool (decide (xs = ys))), []⟩ := by
  refine pure_sz pf eqOk_none (env_ok [51] rfl) fun hs => ⟨60, ?_⟩
  conv => whnf
  refine ⟨_, eqf2_pure xs ys equal_pure, ?_⟩
  conv => whnf
  left
  conv => whnf
  try rfl
theorem eqf3_loop (E : EqT) (xs ys : List (List (List Int))) (hg : ∀ x y : (List (List Int)), Pure Go.Proofs.Try.prog 50 [.ro (nest2 x), .ro (nest2 y)] ⟨.v (.bool (decide (x = y))), []⟩) (hl : xs.length = ys.length) (hm : xs.length ≤ maxLen) (K : K) :
    ∀ (d i n : Nat), i + d = xs.length → d + 40 ≤ n → (∀ j, (hj : j < i) → (h1 : j < xs.length) → (h2 : j < ys.length) → xs[j] = ys[j]) →
      (xs ≠ ys → ∀ j, K .ret (mkJ 32 [(6, .v (.bool false))] j) [] []) → (xs = ys → ∀ j, K (.exit 0) (mkJ 32 [] j) [] []) →
      loopF (run Go.Proofs.Try.prog E (envL Go.Proofs.Try.prog [50]) n) 0 0 (loopB Go.Proofs.Try.prog 53 0) (mkT 32 [(1, .ro (nest3 ys)), (2, .fn 50 [] []), (15, .ro (nest3 xs)), (16, .v (.int .i64 (xs.length : Nat))), (17, .v (.int .i64 i))]) [] [] K := by
  intro d
  induction d with
  | zero =>
    intro i n hi hn heq hf ht
    obtain ⟨n, rfl⟩ : ∃ m, n = m + 40 := ⟨n - 40, by omega⟩
    conv => whnf
    refine cndK_intro (fun h => ?_) (fun h => ?_)
    · simp at h; omega
    · conv => whnf
      exact useJ (ht (List.ext_getElem hl (fun j h1 h2 => heq j (by omega) h1 h2))) rfl
  | succ d ih =>
    intro i n hi hn heq hf ht
    obtain ⟨n, rfl⟩ : ∃ m, n = m + 40 := ⟨n - 40, by omega⟩
    conv => whnf
    refine cndK_intro (fun h => ?_) (fun h => ?_)
    · conv => whnf
      have hi2 : i < xs.length := by omega
      have hi3 : i < ys.length := by omega
      refine ⟨⟨by omega, by rw [nest3_length]; omega⟩, ?_⟩
      conv => whnf
      refine optK_intro _ (nest3_get xs i hi2) ?_
      conv => whnf
      refine ⟨⟨by omega, by rw [nest3_length]; omega⟩, ?_⟩
      conv => whnf
      refine optK_intro _ (nest3_get ys i hi3) ?_
      conv => whnf
      refine ⟨_, hg xs[i] ys[i], ?_⟩
      by_cases h2 : xs[i] = ys[i]
      · rw [show decide (xs[i] = ys[i]) = true by simp [h2]]
        conv => whnf
        have e1 : IntKind.i64.wrap ((i : Int) + 1) = ((i + 1 : Nat) : Int) := by
          simp only [maxLen] at hm
          simp [IntKind.wrap, IntKind.bits, IntKind.signed]
          omega
        rw [e1]
        refine wk_mask [false, true, true, false, false, false, false, false, false, false, false, false, false, false, false, true, true, true] _ rfl ?_
        have e2 : ∀ j, (hj : j < i + 1) → (h1 : j < xs.length) → (h2 : j < ys.length) → xs[j] = ys[j] := fun j hj h1 h3 => by
          by_cases hji : j = i
          · subst hji; exact h2
          · exact heq j (by omega) h1 h3
        exact ih (i + 1) (n + 39) (by omega) (by omega) e2 hf ht
      · rw [show decide (xs[i] = ys[i]) = false by simp [h2]]
        conv => whnf
        exact useJ (hf (fun e => h2 (by subst e; rfl))) rfl
    · simp at h; omega
theorem eqf3_pure (xs ys : List (List (List Int))) (hg : ∀ x y : (List (List Int)), Pure Go.Proofs.Try.prog 50 [.ro (nest2 x), .ro (nest2 y)] ⟨.v (.bool (decide (x = y))), []⟩) :
    Pure Go.Proofs.Try.prog 53 [.ro (nest3 xs), .ro (nest3 ys), .fn 50 [] []] ⟨.v (.bool (decide (xs = ys))), []⟩ := by
  refine pure_sz pf eqOk_none (env_ok [50] rfl) fun hs => ⟨xs.length + 100, ?_⟩
  have hm : xs.length ≤ maxLen := by have := (hs 0 (by simp)).len; rwa [nest3_length] at this
  conv => whnf
  refine cndK_intro (fun h => ?_) (fun h => ?_)
  · conv => whnf
    left
    conv => whnf
    have : xs ≠ ys := fun e => by subst e; simp at h
    simp [this]
  · conv => whnf
    simp only [nest3_length, bne_eq_false_iff_eq] at h
    rw [show (((nest3 xs).length : Nat) : Int) = ((xs.length : Nat) : Int) from by rw [nest3_length]]
    refine wk_mask [false, true, true, false, false, false, false, false, false, false, false, false, false, false, false, true, true, true] _ rfl ?_
    refine eqf3_loop (fun _ => none) xs ys hg (by omega) hm _ xs.length 0 (xs.length + 94) (by omega) (by omega) (fun j hj => by omega) (fun hne j => ?_) (fun he j => ?_)
    · conv => whnf
      left
      conv => whnf
      simp [hne]
    · conv => whnf
      left
      conv => whnf
      simp [he]
end Go.YtoeophdffhmpmaaE
