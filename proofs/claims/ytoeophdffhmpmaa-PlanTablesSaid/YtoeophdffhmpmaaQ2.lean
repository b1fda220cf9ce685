/- slices.Clone; headendref10.Tables, SameTables, CheckTables; plan.Tables, CheckTables. -/
import Derived.Test.YtoeophdffhmpmaaQ1
set_option linter.unusedVariables false
set_option linter.unusedSimpArgs false
set_option maxRecDepth 100000
set_option maxHeartbeats 1000000
namespace Go.YtoeophdffhmpmaaE
open Go Go.RowKit

theorem clone_pure (xs : List Int) (hs : xs.length ≤ 100) : Pure Go.Proofs.Try.prog 47 [.ro (ints xs)] ⟨.ro (ints xs), []⟩ := by
  refine pure_sz pf eqOk_none (env_ok [] rfl) fun _ => ⟨60, ?_⟩
  conv => whnf
  intro b hb
  cases b with
  | true =>
    rw [hb rfl]
    conv => whnf
    left
    conv => whnf
    refine Or.inl ?_
    conv => whnf
    try rfl
  | false =>
    conv => whnf
    refine ⟨⟨rfl, Nat.le_refl _, by show ((0 + (ints xs).length : Nat) : Int) * ((8 : Nat) : Int) ≤ 70368744177664; rw [ints_length]; omega, fun c hc => by simp only [ints, List.mem_map] at hc; obtain ⟨x, _, rfl⟩ := hc; rfl⟩, ints xs, rfl, ?_⟩
    conv => whnf
    left
    conv => whnf
    refine ⟨by omega, ?_⟩
    rw [ints_length]
    rw [ints_full (Nat.zero_add _)]
    conv => whnf
    try rfl
theorem Tables3_pure (kind : Nat) (depth degree p q g : Int) :
    Pure Go.Proofs.Try.prog 21 [scheme kind depth degree p q g] ⟨.tup [.ro (if validB kind depth degree p q g = true then nest3 (TZ kind depth.toNat) else []), .v (.int .i64 (if validB kind depth degree p q g = true then 0 else 30))], []⟩ := by
  refine pure_sz pf eqOk_none (env_ok [49, 42] rfl) fun _ => ⟨60, ?_⟩
  cases hv : validB kind depth degree p q g with
  | false =>
    conv => whnf
    refine ⟨_, check3_pure kind depth degree p q g, ?_⟩
    rw [hv]
    conv => whnf
    left
    conv => whnf
    refine Or.inl ?_
    conv => whnf
    try rfl
  | true =>
    have hv2 := hv
    simp only [validB, decide_eq_true_eq] at hv
    obtain ⟨h1, h2, h3, h4, rfl, rfl, rfl, rfl⟩ := hv
    obtain ⟨d, rfl⟩ : ∃ d : Nat, depth = d := ⟨depth.toNat, by omega⟩
    conv => whnf
    refine ⟨_, check3_pure kind d 0 0 0 0, ?_⟩
    rw [hv2]
    conv => whnf
    refine ⟨_, TablesOf_pure kind d h1 h2 (by omega), ?_⟩
    conv => whnf
    left
    conv => whnf
    try rfl

/-! ### SameTables -/
theorem st_in (E : EqT) (T U : List (List (List Int))) (L M : List (List Int)) (i : Nat) (hi1 : i < T.length) (hi2 : i < U.length) (hT : T[i] = L) (hU : U[i] = M) (hl : L.length = M.length) (hm : L.length ≤ maxLen) (K : K) :
    ∀ (c j n : Nat), j + c = L.length → c + 60 ≤ n → (∀ q, (hq : q < j) → (h1 : q < L.length) → (h2 : q < M.length) → L[q] = M[q]) →
      (L ≠ M → ∀ jj, K .ret (mkJ 54 [(4, .v (.bool false))] jj) [] []) → (L = M → ∀ jj, K (.exit 2) (mkJ 54 [(0, .ro (nest3 T)), (1, .ro (nest3 U)), (5, .v (.int .i64 i))] jj) [] []) →
      loopF (run Go.Proofs.Try.prog E (envL Go.Proofs.Try.prog [18]) n) 0 0 (loopB Go.Proofs.Try.prog 22 1) (mkT 54 [(0, .ro (nest3 T)), (1, .ro (nest3 U)), (5, .v (.int .i64 i)), (6, .v (.int .i64 j))]) [] [] K := by
  intro c
  induction c with
  | zero =>
    intro j n hj hn heq hf ht
    obtain ⟨n, rfl⟩ : ∃ m, n = m + 60 := ⟨n - 60, by omega⟩
    conv => whnf
    refine ⟨⟨by omega, by rw [nest3_length]; omega⟩, ?_⟩
    conv => whnf
    refine optK_intro _ (nest3_get T i hi1) ?_
    conv => whnf
    rw [hT, nest2_length]
    refine cndK_intro (fun h => ?_) (fun h => ?_)
    · simp at h; omega
    · conv => whnf
      exact useJ (ht (List.ext_getElem hl (fun q h1 h2 => heq q (by omega) h1 h2))) rfl
  | succ c ih =>
    intro j n hj hn heq hf ht
    obtain ⟨n, rfl⟩ : ∃ m, n = m + 60 := ⟨n - 60, by omega⟩
    conv => whnf
    refine ⟨⟨by omega, by rw [nest3_length]; omega⟩, ?_⟩
    conv => whnf
    refine optK_intro _ (nest3_get T i hi1) ?_
    conv => whnf
    rw [hT, nest2_length]
    refine cndK_intro (fun h => ?_) (fun h => ?_)
    · conv => whnf
      refine Or.inl ⟨16, by kernel_rfl, ?_⟩
      conv => whnf
      have hj1 : j < L.length := by omega
      have hj2 : j < M.length := by omega
      have hU3 : (nest3 U)[i]? = some [.ro (nest2 M)] := by rw [nest3_get U i hi2, hU]
      have hT3 : (nest3 T)[i]? = some [.ro (nest2 L)] := by rw [nest3_get T i hi1, hT]
      refine ⟨⟨by omega, by rw [nest3_length]; omega⟩, optK_intro _ hT3 ?_⟩
      conv => whnf
      refine ⟨⟨by omega, by rw [nest2_length]; omega⟩, optK_intro _ (nest2_get L j hj1) ?_⟩
      conv => whnf
      refine ⟨⟨by omega, by rw [nest3_length]; omega⟩, optK_intro _ hU3 ?_⟩
      conv => whnf
      refine ⟨⟨by omega, by rw [nest2_length]; omega⟩, optK_intro _ (nest2_get M j hj2) ?_⟩
      conv => whnf
      refine ⟨_, sameInts_pure L[j] M[j], ?_⟩
      by_cases h2 : L[j] = M[j]
      · rw [show decide (L[j] = M[j]) = true by simp [h2]]
        conv => whnf
        have e1 : IntKind.i64.wrap ((j : Int) + 1) = ((j + 1 : Nat) : Int) := by
          simp only [maxLen] at hm
          simp [IntKind.wrap, IntKind.bits, IntKind.signed]
          omega
        rw [e1]
        refine wk_mask [true, true, false, false, false, true, true] _ rfl ?_
        have e2 : ∀ q, (hq : q < j + 1) → (h1 : q < L.length) → (h2 : q < M.length) → L[q] = M[q] := fun q hq h1 h3 => by
          by_cases hqj : q = j
          · subst hqj; exact h2
          · exact heq q (by omega) h1 h3
        exact ih (j + 1) (n + 59) (by omega) (by omega) e2 hf ht
      · rw [show decide (L[j] = M[j]) = false by simp [h2]]
        conv => whnf
        exact useJ (hf (fun e => h2 (by subst e; rfl))) rfl
    · simp at h; omega
theorem st_out (E : EqT) (T U : List (List (List Int))) (hl : T.length = U.length) (hm : T.length ≤ maxLen) (hmm : ∀ L ∈ T, L.length ≤ maxLen) (b : Nat) (hb : ∀ L ∈ T, L.length ≤ b) (K : K) :
    ∀ (c i n : Nat), i + c = T.length → c + b + 130 ≤ n → (∀ q, (hq : q < i) → (h1 : q < T.length) → (h2 : q < U.length) → T[q] = U[q]) →
      (T ≠ U → ∀ jj, K .ret (mkJ 54 [(4, .v (.bool false))] jj) [] []) → (T = U → ∀ jj, K (.exit 0) (mkJ 54 [] jj) [] []) →
      loopF (run Go.Proofs.Try.prog E (envL Go.Proofs.Try.prog [18]) n) 0 0 (loopB Go.Proofs.Try.prog 22 0) (mkT 54 [(0, .ro (nest3 T)), (1, .ro (nest3 U)), (5, .v (.int .i64 i))]) [] [] K := by
  intro c
  induction c with
  | zero =>
    intro i n hi hn heq hf ht
    obtain ⟨n, rfl⟩ : ∃ m, n = m + 130 := ⟨n - 130, by omega⟩
    conv => whnf
    rw [nest3_length]
    refine cndK_intro (fun h => ?_) (fun h => ?_)
    · simp at h; omega
    · conv => whnf
      exact useJ (ht (List.ext_getElem hl (fun q h1 h2 => heq q (by omega) h1 h2))) rfl
  | succ c ih =>
    intro i n hi hn heq hf ht
    obtain ⟨n, rfl⟩ : ∃ m, n = m + 130 := ⟨n - 130, by omega⟩
    conv => whnf
    rw [nest3_length]
    refine cndK_intro (fun h => ?_) (fun h => ?_)
    · have hi1 : i < T.length := by omega
      have hi2 : i < U.length := by omega
      conv => whnf
      refine Or.inl ⟨11, by kernel_rfl, ?_⟩
      conv => whnf
      refine ⟨⟨by omega, by rw [nest3_length]; omega⟩, optK_intro _ (nest3_get T i hi1) ?_⟩
      conv => whnf
      refine ⟨⟨by omega, by rw [nest3_length]; omega⟩, optK_intro _ (nest3_get U i hi2) ?_⟩
      conv => whnf
      rw [nest2_length, nest2_length]
      refine cndK_intro (fun h2 => ?_) (fun h2 => ?_)
      · conv => whnf
        exact useJ (hf (fun e => by subst e; simp at h2)) rfl
      · have h2' : T[i].length = U[i].length := Int.ofNat.inj (by simpa using h2)
        conv => whnf
        refine wk_mask [true, true, false, false, false, true, true] _ rfl ?_
        have hbi := hb _ (List.getElem_mem hi1)
        refine st_in E T U T[i] U[i] i hi1 hi2 rfl rfl h2' (hmm _ (List.getElem_mem hi1)) _ T[i].length 0 (n + 123) (by omega) (by omega) (fun q hq => by omega) (fun hne jj => ?_) (fun he jj => ?_)
        · conv => whnf
          exact useJ (hf (fun e => hne (by subst e; rfl))) rfl
        · conv => whnf
          have e1 : IntKind.i64.wrap ((i : Int) + 1) = ((i + 1 : Nat) : Int) := by
            simp only [maxLen] at hm
            simp [IntKind.wrap, IntKind.bits, IntKind.signed]
            omega
          rw [e1]
          refine wk_mask [true, true, false, false, false, true] _ rfl ?_
          refine ih (i + 1) (n + 129) (by omega) (by omega) (fun q hq h1 h3 => ?_) hf ht
          by_cases hqi : q = i
          · subst hqi; exact he
          · exact heq q (by omega) h1 h3
    · simp at h; omega
theorem len_bound {α : Type} (T : List (List α)) : ∃ b, ∀ L ∈ T, L.length ≤ b := by
  induction T with
  | nil => exact ⟨0, fun L hL => by cases hL⟩
  | cons x T ih =>
    obtain ⟨b, hb⟩ := ih
    refine ⟨max b x.length, fun L hL => ?_⟩
    rcases List.mem_cons.1 hL with rfl | hL
    · omega
    · have := hb L hL; omega
theorem sz_nest3 {T : List (List (List Int))} (h : Sz (.ro (nest3 T))) : T.length ≤ maxLen ∧ ∀ L ∈ T, L.length ≤ maxLen := by
  cases h with
  | ro _ hl h =>
    rw [nest3_length] at hl
    refine ⟨hl, fun L hL => ?_⟩
    obtain ⟨i, hi, rfl⟩ := List.getElem_of_mem hL
    have e : (nest3 T).getD i [] = [.ro (nest2 T[i])] := by rw [List.getD_eq_getElem?_getD, nest3_get T i hi]; rfl
    have := h i 0 (by rw [nest3_length]; exact hi) (by rw [e]; simp)
    rw [e] at this
    have h2 := Sz.len (els := nest2 T[i]) this
    rwa [nest2_length] at h2
theorem SameTables_pure (T U : List (List (List Int))) : Pure Go.Proofs.Try.prog 22 [.ro (nest3 T), .ro (nest3 U)] ⟨.v (.bool (decide (T = U))), []⟩ := by
  obtain ⟨b, hb⟩ := len_bound T
  refine pure_sz pf eqOk_none (env_ok [18] rfl) fun hs => ⟨T.length + b + 200, ?_⟩
  obtain ⟨hm, hmm⟩ := sz_nest3 (T := T) (hs 0 (by simp))
  conv => whnf
  rw [nest3_length, nest3_length]
  refine cndK_intro (fun h => ?_) (fun h => ?_)
  · conv => whnf
    left
    conv => whnf
    have : T ≠ U := fun e => by subst e; simp at h
    simp [this]
  · have hl : T.length = U.length := Int.ofNat.inj (by simpa using h)
    conv => whnf
    refine wk_mask [true, true, false, false, false, true] _ rfl ?_
    refine st_out (fun _ => none) T U hl hm hmm b hb _ T.length 0 (T.length + b + 194) (by omega) (by omega) (fun q hq => by omega) (fun hne j => ?_) (fun he j => ?_)
    · conv => whnf
      left
      conv => whnf
      simp [hne]
    · conv => whnf
      left
      conv => whnf
      simp [he]
end Go.YtoeophdffhmpmaaE
