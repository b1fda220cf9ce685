/- plan.Tables: the loops. -/
import Derived.Test.YtoeophdffhmpmaaQ3
set_option linter.unusedVariables false
set_option linter.unusedSimpArgs false
set_option maxRecDepth 100000
set_option maxHeartbeats 1000000
namespace Go.YtoeophdffhmpmaaE
open Go Go.RowKit

theorem pt_in_0 (E : EqT) (kind d s : Nat) (hs : s < statesN kind) (hs4 : s < 4) (hd : d ≤ 6) (K : K) :
    ∀ (c h n : Nat), h + c = d + 1 → 1 ≤ h → c + 60 ≤ n →
      (∀ j, K (.exit 2) (mkJ 45 [(1, .pt 0 0 0 0 0), (5, tb kind d (fullR kind d) (statesN kind)), (6, .v (.slice none 0 0)), (7, .v (.int .i64 s)), (8, .sl 1 0 1 0 (d + 1)), (20, .v (.int .i64 (statesN kind : Nat))), (21, .v (.int .i64 s))] j) [schB kind d, .rw false false 0 1 (nest2 (rowsZ kind d s (d + 1)))] []) →
      loopF (run Go.Proofs.Try.prog E (envL Go.Proofs.Try.prog ptEnv) n) 0 0 (loopB Go.Proofs.Try.prog 20 1) (mkT 45 [(1, .pt 0 0 0 0 0), (5, tb kind d (fullR kind d) (statesN kind)), (6, .v (.slice none 0 0)), (7, .v (.int .i64 s)), (8, .sl 1 0 1 0 h), (20, .v (.int .i64 (statesN kind : Nat))), (21, .v (.int .i64 s)), (26, .v (.int .i64 (d + 1 : Nat))), (27, .v (.int .i64 h))]) [schB kind d, .rw false false 0 1 (nest2 (rowsZ kind d s h))] [] K := by
  intro c
  induction c with
  | zero =>
    intro h n hi h1 hn hK
    obtain ⟨n, rfl⟩ : ∃ m, n = m + 60 := ⟨n - 60, by omega⟩
    obtain rfl : h = d + 1 := by omega
    conv => whnf
    refine cndK_intro (fun h => ?_) (fun h => ?_)
    · simp at h
    · conv => whnf
      exact useJ hK rfl
  | succ c ih =>
    intro h n hi h1 hn hK
    obtain ⟨n, rfl⟩ : ∃ m, n = m + 60 := ⟨n - 60, by omega⟩
    have next := ih (h + 1) (n + 59) (by omega) (by omega) (by omega) hK
    have ek : IntKind.i64.wrap ((h : Int) + 1) = ((h + 1 : Nat) : Int) := by rw [wrap64 (by omega) (by omega)]; omega
    conv => whnf
    refine cndK_intro (fun h2 => ?_) (fun h2 => ?_)
    rotate_left
    · exfalso
      simp only [decide_eq_false_iff_not] at h2
      omega
    conv => whnf
    refine ⟨_, tat_pure kind d s h hs hs4 (by omega) hd, ?_⟩
    conv => whnf
    refine ⟨_, clone_pure _ (row_len kind d h s (by omega)), ?_⟩
    conv => whnf
    refine ⟨Nat.le_refl _, ?_⟩
    conv => whnf
    refine ⟨⟨rfl, by rw [nest2_length, rowsZ_length]; exact Nat.le_refl _, by show ((h + 1 : Nat) : Int) * ((24 : Nat) : Int) ≤ 70368744177664; omega, by simp⟩, nest2 (rowsZ kind d s (h + 1)), by rw [List.take_of_length_le (by rw [nest2_length, rowsZ_length]; exact Nat.le_refl _), nest_snoc]; rfl, ?_⟩
    conv => whnf
    rw [ek]
    refine gc_step ⟨[false, true, false, false, false, true, true, true, true, false, false, false, false, false, false, false, false, false, false, false, true, true, false, false, false, false, true, true], [0,1], 0⟩ _ _ _ (fun k hk => hk) ?_
    exact next
theorem pt_in_1 (E : EqT) (kind d s : Nat) (O : List (List A)) (m : Nat) (hs : s < statesN kind) (hs4 : s < 4) (hd : d ≤ 6) (K : K) :
    ∀ (c h n : Nat), h + c = d + 1 → 1 ≤ h → c + 60 ≤ n →
      (∀ j, K (.exit 2) (mkJ 45 [(1, .pt 0 0 0 0 0), (5, tb kind d (fullR kind d) (statesN kind)), (6, .sl 1 0 1 0 m), (7, .v (.int .i64 s)), (8, .sl 2 0 1 0 (d + 1)), (20, .v (.int .i64 (statesN kind : Nat))), (21, .v (.int .i64 s))] j) [schB kind d, .rw false false 0 1 O, .rw false false 0 1 (nest2 (rowsZ kind d s (d + 1)))] []) →
      loopF (run Go.Proofs.Try.prog E (envL Go.Proofs.Try.prog ptEnv) n) 0 0 (loopB Go.Proofs.Try.prog 20 1) (mkT 45 [(1, .pt 0 0 0 0 0), (5, tb kind d (fullR kind d) (statesN kind)), (6, .sl 1 0 1 0 m), (7, .v (.int .i64 s)), (8, .sl 2 0 1 0 h), (20, .v (.int .i64 (statesN kind : Nat))), (21, .v (.int .i64 s)), (26, .v (.int .i64 (d + 1 : Nat))), (27, .v (.int .i64 h))]) [schB kind d, .rw false false 0 1 O, .rw false false 0 1 (nest2 (rowsZ kind d s h))] [] K := by
  intro c
  induction c with
  | zero =>
    intro h n hi h1 hn hK
    obtain ⟨n, rfl⟩ : ∃ m, n = m + 60 := ⟨n - 60, by omega⟩
    obtain rfl : h = d + 1 := by omega
    conv => whnf
    refine cndK_intro (fun h => ?_) (fun h => ?_)
    · simp at h
    · conv => whnf
      exact useJ hK rfl
  | succ c ih =>
    intro h n hi h1 hn hK
    obtain ⟨n, rfl⟩ : ∃ m, n = m + 60 := ⟨n - 60, by omega⟩
    have next := ih (h + 1) (n + 59) (by omega) (by omega) (by omega) hK
    have ek : IntKind.i64.wrap ((h : Int) + 1) = ((h + 1 : Nat) : Int) := by rw [wrap64 (by omega) (by omega)]; omega
    conv => whnf
    refine cndK_intro (fun h2 => ?_) (fun h2 => ?_)
    rotate_left
    · exfalso
      simp only [decide_eq_false_iff_not] at h2
      omega
    conv => whnf
    refine ⟨_, tat_pure kind d s h hs hs4 (by omega) hd, ?_⟩
    conv => whnf
    refine ⟨_, clone_pure _ (row_len kind d h s (by omega)), ?_⟩
    conv => whnf
    refine ⟨Nat.le_refl _, ?_⟩
    conv => whnf
    refine ⟨⟨rfl, by rw [nest2_length, rowsZ_length]; exact Nat.le_refl _, by show ((h + 1 : Nat) : Int) * ((24 : Nat) : Int) ≤ 70368744177664; omega, by simp⟩, nest2 (rowsZ kind d s (h + 1)), by rw [List.take_of_length_le (by rw [nest2_length, rowsZ_length]; exact Nat.le_refl _), nest_snoc]; rfl, ?_⟩
    conv => whnf
    rw [ek]
    refine gc_step ⟨[false, true, false, false, false, true, true, true, true, false, false, false, false, false, false, false, false, false, false, false, true, true, false, false, false, false, true, true], [0,1,2], 0⟩ _ _ _ (fun k hk => hk) ?_
    exact next
/-- The first states' rows. -/
def TP (kind d m : Nat) : List (List (List Int)) := (List.range m).map fun s => rowsZ kind d s (d + 1)
theorem TP_length (kind d m : Nat) : (TP kind d m).length = m := by simp [TP]
theorem TP_succ (kind d m : Nat) : nest3 (TP kind d (m + 1)) = nest3 (TP kind d m) ++ [[.ro (nest2 (rowsZ kind d m (d + 1)))]] := by simp [TP, nest3, List.range_succ]
theorem statesN_le (kind : Nat) : statesN kind ≤ 4 := by unfold statesN; split <;> decide
theorem pt_out (E : EqT) (kind d : Nat) (hd : d ≤ 6) (K : K) :
    ∀ (c m n : Nat), m + c = statesN kind → 1 ≤ m → c + 150 ≤ n →
      (∀ j, K (.exit 0) (mkJ 45 [(6, .sl 1 0 1 0 (statesN kind))] j) [schB kind d, .rw false false 0 1 (nest3 (TP kind d (statesN kind)))] []) →
      loopF (run Go.Proofs.Try.prog E (envL Go.Proofs.Try.prog ptEnv) n) 0 0 (loopB Go.Proofs.Try.prog 20 0)
        (mkT 45 [(1, .pt 0 0 0 0 0), (5, tb kind d (fullR kind d) (statesN kind)), (6, .sl 1 0 1 0 m), (20, .v (.int .i64 (statesN kind : Nat))), (21, .v (.int .i64 m))]) [schB kind d, .rw false false 0 1 (nest3 (TP kind d m))] [] K := by
  intro c
  induction c with
  | zero =>
    intro m n hi h1 hn hK
    obtain ⟨n, rfl⟩ : ∃ q, n = q + 150 := ⟨n - 150, by omega⟩
    obtain rfl : m = statesN kind := by omega
    conv => whnf
    refine cndK_intro (fun h => ?_) (fun h => ?_)
    · simp at h
    · conv => whnf
      exact useJ hK rfl
  | succ c ih =>
    intro m n hi h1 hn hK
    obtain ⟨n, rfl⟩ : ∃ q, n = q + 150 := ⟨n - 150, by omega⟩
    have h4 := statesN_le kind
    have next := ih (m + 1) (n + 149) (by omega) (by omega) (by omega) hK
    have ek : IntKind.i64.wrap ((m : Int) + 1) = ((m + 1 : Nat) : Int) := by rw [wrap64 (by omega) (by omega)]; omega
    have ed : IntKind.i64.wrap ((d : Int) + 1) = ((d + 1 : Nat) : Int) := by rw [wrap64 (by omega) (by omega)]; omega
    conv => whnf
    refine cndK_intro (fun h2 => ?_) (fun h2 => ?_)
    rotate_left
    · exfalso
      simp only [decide_eq_false_iff_not] at h2
      omega
    conv => whnf
    rw [ed]
    refine wk_none ?_
    conv => whnf
    rw [show decide ((0 : Int) < ((d + 1 : Nat) : Int)) = true from by simp]
    conv => whnf
    refine ⟨_, tat_pure kind d m 0 (by omega) (by omega) (by omega) hd, ?_⟩
    conv => whnf
    refine ⟨_, clone_pure _ (row_len kind d 0 m (by omega)), ?_⟩
    conv => whnf
    refine ⟨Nat.le_refl _, ?_⟩
    conv => whnf
    refine ⟨fun h => (by cases h), fun _ => ⟨⟨by show ((1 : Nat) : Int) * ((24 : Nat) : Int) ≤ 70368744177664; decide, by simp⟩, ?_⟩⟩
    conv => whnf
    refine gc_step ⟨[false, true, false, false, false, true, true, true, true, false, false, false, false, false, false, false, false, false, false, false, true, true, false, false, false, false, true, true], [0,1,3], 0⟩ (mkT 45 [(1, .pt 0 0 0 0 0), (5, tb kind d (fullR kind d) (statesN kind)), (6, .sl 1 0 1 0 m), (7, .v (.int .i64 m)), (8, .sl 2 0 1 0 1), (20, .v (.int .i64 (statesN kind : Nat))), (21, .v (.int .i64 m)), (26, .v (.int .i64 (d + 1 : Nat))), (27, .v (.int .i64 (1 : Nat)))]) [schB kind d, .rw false false 0 1 (nest3 (TP kind d m)), .rw false false 0 1 (nest2 (rowsZ kind d m 1))] [] (fun k hk => hk) ?_
    refine pt_in_1 E kind d m (nest3 (TP kind d m)) m (by omega) (by omega) hd _ d 1 (n + 139) (by omega) (by omega) (by omega) fun j => ?_
    conv => whnf
    refine ⟨by rw [nest2_length, rowsZ_length]; omega, ?_⟩
    have ef : ((nest2 (rowsZ kind d m (d + 1))).drop 0).take (d + 1) = nest2 (rowsZ kind d m (d + 1)) := by rw [List.drop_zero]; exact List.take_of_length_le (by rw [nest2_length, rowsZ_length]; exact Nat.le_refl _)
    rw [ef]
    refine Or.inl ?_
    conv => whnf
    refine ⟨Nat.le_refl _, ?_⟩
    conv => whnf
    refine ⟨⟨rfl, by rw [nest3_length, TP_length]; exact Nat.le_refl _, by show ((m + 1 : Nat) : Int) * ((24 : Nat) : Int) ≤ 70368744177664; omega, by simp⟩, nest3 (TP kind d (m + 1)), by rw [List.take_of_length_le (by rw [nest3_length, TP_length]; exact Nat.le_refl _), TP_succ]; rfl, ?_⟩
    conv => whnf
    rw [ek]
    refine gc_step ⟨[false, true, false, false, false, true, true, false, false, false, false, false, false, false, false, false, false, false, false, false, true, true], [0,1], 0⟩ _ _ _ (fun k hk => hk) ?_
    exact next
end Go.YtoeophdffhmpmaaE
