/- headendref10.Great. -/
import Derived.Test.YtoeophdffhmpmaaQ2
set_option linter.unusedVariables false
set_option linter.unusedSimpArgs false
set_option maxRecDepth 100000
set_option maxHeartbeats 1000000
namespace Go.YtoeophdffhmpmaaE
open Go Go.RowKit

def grN (s : Int) (x : List Int) : Int := IntKind.i64.wrap (s + IntKind.i64.wrap (1 + (x.length : Int)))
def grIn : Int → List (List Int) → Option Int
  | s, [] => some s
  | s, x :: L => if grN s x > 2000 then none else grIn (grN s x) L
def grOut : Int → List (List (List Int)) → Option Int
  | s, [] => some s
  | s, L :: T => (grIn s L).bind fun s' => grOut s' T
def greatB (T : List (List (List Int))) : Bool := match grOut 0 T with | none => true | some _ => decide ((T.length : Int) > 20)
theorem grIn_drop (s : Int) (L : List (List Int)) (j : Nat) (h : j < L.length) : grIn s (L.drop j) = if grN s L[j] > 2000 then none else grIn (grN s L[j]) (L.drop (j + 1)) := by
  rw [List.drop_eq_getElem_cons h]; rfl
theorem grOut_drop (s : Int) (T : List (List (List Int))) (i : Nat) (h : i < T.length) : grOut s (T.drop i) = (grIn s T[i]).bind fun s' => grOut s' (T.drop (i + 1)) := by
  rw [List.drop_eq_getElem_cons h]; rfl
theorem gr_in (E : EqT) (T : List (List (List Int))) (L : List (List Int)) (i : Nat) (hi : i < T.length) (hT : T[i] = L) (hm : L.length ≤ maxLen) (K : K) :
    ∀ (c j n : Nat) (s : Int), j + c = L.length → c + 60 ≤ n →
      (grIn s (L.drop j) = none → ∀ jj, K .ret (mkJ 37 [(2, .v (.bool true))] jj) [] []) →
      (∀ s', grIn s (L.drop j) = some s' → ∀ jj, K (.exit 2) (mkJ 37 [(0, .ro (nest3 T)), (3, .v (.int .i64 s')), (4, .v (.int .i64 i))] jj) [] []) →
      loopF (run Go.Proofs.Try.prog E (envL Go.Proofs.Try.prog []) n) 0 0 (loopB Go.Proofs.Try.prog 19 1) (mkT 37 [(0, .ro (nest3 T)), (3, .v (.int .i64 s)), (4, .v (.int .i64 i)), (5, .v (.int .i64 j))]) [] [] K := by
  intro c
  induction c with
  | zero =>
    intro j n s hj hn hf ht
    obtain ⟨n, rfl⟩ : ∃ m, n = m + 60 := ⟨n - 60, by omega⟩
    conv => whnf
    refine ⟨⟨by omega, by rw [nest3_length]; omega⟩, ?_⟩
    conv => whnf
    refine optK_intro _ (nest3_get T i hi) ?_
    conv => whnf
    rw [hT, nest2_length]
    refine cndK_intro (fun h => ?_) (fun h => ?_)
    · simp at h; omega
    · conv => whnf
      exact useJ (ht s (by rw [List.drop_eq_nil_of_le (by omega)]; rfl)) rfl
  | succ c ih =>
    intro j n s hj hn hf ht
    obtain ⟨n, rfl⟩ : ∃ m, n = m + 60 := ⟨n - 60, by omega⟩
    have hj1 : j < L.length := by omega
    have hT3 : (nest3 T)[i]? = some [.ro (nest2 L)] := by rw [nest3_get T i hi, hT]
    rw [grIn_drop s L j hj1] at hf ht
    conv => whnf
    refine ⟨⟨by omega, by rw [nest3_length]; omega⟩, ?_⟩
    conv => whnf
    refine optK_intro _ hT3 ?_
    conv => whnf
    rw [nest2_length]
    refine cndK_intro (fun h => ?_) (fun h => ?_)
    · conv => whnf
      refine ⟨⟨by omega, by rw [nest3_length]; omega⟩, optK_intro _ hT3 ?_⟩
      conv => whnf
      refine ⟨⟨by omega, by rw [nest2_length]; omega⟩, optK_intro _ (nest2_get L j hj1) ?_⟩
      conv => whnf
      rw [ints_length]
      rw [show IntKind.i64.wrap (s + IntKind.i64.wrap (1 + (L[j].length : Int))) = grN s L[j] from rfl]
      refine cndK_intro (fun h2 => ?_) (fun h2 => ?_)
      · have h2' : grN s L[j] > 2000 := by simpa using h2
        rw [if_pos h2'] at hf
        conv => whnf
        exact useJ (hf rfl) rfl
      · have h2' : ¬ grN s L[j] > 2000 := by simpa using h2
        rw [if_neg h2'] at hf ht
        conv => whnf
        have e1 : IntKind.i64.wrap ((j : Int) + 1) = ((j + 1 : Nat) : Int) := by
          simp only [maxLen] at hm
          simp [IntKind.wrap, IntKind.bits, IntKind.signed]
          omega
        rw [e1]
        refine wk_mask [true, false, false, true, true, true] _ rfl ?_
        exact ih (j + 1) (n + 59) _ (by omega) (by omega) hf ht
    · simp at h; omega
theorem gr_out (E : EqT) (T : List (List (List Int))) (hm : T.length ≤ maxLen) (hmm : ∀ L ∈ T, L.length ≤ maxLen) (b : Nat) (hb : ∀ L ∈ T, L.length ≤ b) (K : K) :
    ∀ (c i n : Nat) (s : Int), i + c = T.length → c + b + 130 ≤ n →
      (grOut s (T.drop i) = none → ∀ jj, K .ret (mkJ 37 [(2, .v (.bool true))] jj) [] []) →
      (∀ s', grOut s (T.drop i) = some s' → ∀ jj, K (.exit 0) (mkJ 37 [(0, .ro (nest3 T))] jj) [] []) →
      loopF (run Go.Proofs.Try.prog E (envL Go.Proofs.Try.prog []) n) 0 0 (loopB Go.Proofs.Try.prog 19 0) (mkT 37 [(0, .ro (nest3 T)), (3, .v (.int .i64 s)), (4, .v (.int .i64 i))]) [] [] K := by
  intro c
  induction c with
  | zero =>
    intro i n s hi hn hf ht
    obtain ⟨n, rfl⟩ : ∃ m, n = m + 130 := ⟨n - 130, by omega⟩
    conv => whnf
    rw [nest3_length]
    refine cndK_intro (fun h => ?_) (fun h => ?_)
    · simp at h; omega
    · conv => whnf
      exact useJ (ht s (by rw [List.drop_eq_nil_of_le (by omega)]; rfl)) rfl
  | succ c ih =>
    intro i n s hi hn hf ht
    obtain ⟨n, rfl⟩ : ∃ m, n = m + 130 := ⟨n - 130, by omega⟩
    have hi1 : i < T.length := by omega
    rw [grOut_drop s T i hi1] at hf ht
    conv => whnf
    rw [nest3_length]
    refine cndK_intro (fun h => ?_) (fun h => ?_)
    · conv => whnf
      refine wk_mask [true, false, false, true, true, true] _ rfl ?_
      have hbi := hb _ (List.getElem_mem hi1)
      refine gr_in E T T[i] i hi1 rfl (hmm _ (List.getElem_mem hi1)) _ T[i].length 0 (n + 124) s (by omega) (by omega) (fun hne jj => ?_) (fun s' he jj => ?_)
      · conv => whnf
        exact useJ (hf (by rw [List.drop_zero] at hne; rw [hne]; rfl)) rfl
      · conv => whnf
        have e1 : IntKind.i64.wrap ((i : Int) + 1) = ((i + 1 : Nat) : Int) := by
          simp only [maxLen] at hm
          simp [IntKind.wrap, IntKind.bits, IntKind.signed]
          omega
        rw [e1]
        rw [List.drop_zero] at he
        rw [he] at hf ht
        refine wk_mask [true, false, false, true, true] _ rfl ?_
        exact ih (i + 1) (n + 129) s' (by omega) (by omega) hf ht
    · simp at h; omega
theorem Great_pure (T : List (List (List Int))) : Pure Go.Proofs.Try.prog 19 [.ro (nest3 T)] ⟨.v (.bool (greatB T)), []⟩ := by
  obtain ⟨b, hb⟩ := len_bound T
  refine pure_sz pf eqOk_none (env_ok [] rfl) fun hs => ⟨T.length + b + 200, ?_⟩
  obtain ⟨hm, hmm⟩ := sz_nest3 (T := T) (hs 0 (by simp))
  conv => whnf
  refine wk_mask [true, false, false, true, true] _ rfl ?_
  refine gr_out (fun _ => none) T hm hmm b hb _ T.length 0 (T.length + b + 194) 0 (by omega) (by omega) (fun hne j => ?_) (fun s he j => ?_)
  · conv => whnf
    left
    conv => whnf
    rw [List.drop_zero] at hne
    have : greatB T = true := by unfold greatB; rw [hne]
    rw [this]
    try rfl
  · conv => whnf
    rw [nest3_length]
    left
    conv => whnf
    rw [List.drop_zero] at he
    have : greatB T = decide ((T.length : Int) > 20) := by unfold greatB; rw [he]
    rw [this]
    try rfl
end Go.YtoeophdffhmpmaaE
