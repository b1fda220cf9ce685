/- plan.Tables, plan.CheckTables: contracts. -/
import Derived.Test.YtoeophdffhmpmaaQ4
import Derived.Test.YtoeophdffhmpmaaQ5
set_option linter.unusedVariables false
set_option linter.unusedSimpArgs false
set_option maxRecDepth 100000
set_option maxHeartbeats 1000000
namespace Go.YtoeophdffhmpmaaE
open Go Go.RowKit

theorem TP_TZ (kind d : Nat) : TP kind d (statesN kind) = TZ kind d := rfl
theorem Tables_ok (kind d : Nat) (h1 : 1 ≤ kind) (h3 : kind ≤ 3) (hd : d ≤ 6) :
    Pure Go.Proofs.Try.prog 20 [scheme kind d 0 0 0 0] ⟨.tup [.ro (nest3 (TZ kind d)), .v (.int .i64 0)], []⟩ := by
  refine pure_sz pf eqOk_none (env_ok ptEnv rfl) fun _ => ⟨400, ?_⟩
  have hs : 1 ≤ statesN kind := by
    have hk : kind = 1 ∨ kind = 2 ∨ kind = 3 := by omega
    rcases hk with rfl | rfl | rfl <;> decide
  have h4 := statesN_le kind
  have ed : IntKind.i64.wrap ((d : Int) + 1) = ((d + 1 : Nat) : Int) := by rw [wrap64 (by omega) (by omega)]; omega
  conv => whnf
  refine ⟨_, check_pure kind d 0 0 0 0, ?_⟩
  rw [validB_ok kind d h1 h3 hd]
  conv => whnf
  refine ⟨_, newTables_pure kind d h1 h3 hd, ?_⟩
  conv => whnf
  refine wk_none ?_
  conv => whnf
  rw [show decide ((0 : Int) < ((statesN kind : Nat) : Int)) = true from by simp; omega]
  conv => whnf
  rw [ed]
  refine wk_none ?_
  conv => whnf
  rw [show decide ((0 : Int) < ((d + 1 : Nat) : Int)) = true from by simp]
  conv => whnf
  refine ⟨_, tat_pure kind d 0 0 (by omega) (by omega) (by omega) hd, ?_⟩
  conv => whnf
  refine ⟨_, clone_pure _ (row_len kind d 0 0 (by omega)), ?_⟩
  conv => whnf
  refine ⟨Nat.le_refl _, ?_⟩
  conv => whnf
  refine ⟨fun h => (by cases h), fun _ => ⟨⟨by show ((1 : Nat) : Int) * ((24 : Nat) : Int) ≤ 70368744177664; decide, by simp⟩, ?_⟩⟩
  conv => whnf
  refine gc_step ⟨[false, true, false, false, false, true, true, true, true, false, false, false, false, false, false, false, false, false, false, false, true, true, false, false, false, false, true, true], [0,2], 0⟩ (mkT 45 [(1, .pt 0 0 0 0 0), (5, tb kind d (fullR kind d) (statesN kind)), (6, .v (.slice none 0 0)), (7, .v (.int .i64 (0 : Nat))), (8, .sl 1 0 1 0 1), (20, .v (.int .i64 (statesN kind : Nat))), (21, .v (.int .i64 (0 : Nat))), (26, .v (.int .i64 (d + 1 : Nat))), (27, .v (.int .i64 (1 : Nat)))]) [schB kind d, .rw false false 0 1 (nest2 (rowsZ kind d 0 1))] [] (fun k hk => hk) ?_
  refine pt_in_0 (fun _ => none) kind d 0 (by omega) (by omega) hd _ d 1 381 (by omega) (by omega) (by omega) fun j => ?_
  conv => whnf
  refine ⟨by rw [nest2_length, rowsZ_length]; omega, ?_⟩
  have ef : ((nest2 (rowsZ kind d 0 (d + 1))).drop 0).take (d + 1) = nest2 (rowsZ kind d 0 (d + 1)) := by rw [List.drop_zero]; exact List.take_of_length_le (by rw [nest2_length, rowsZ_length]; exact Nat.le_refl _)
  rw [ef]
  refine Or.inl ?_
  conv => whnf
  refine ⟨Nat.le_refl _, ?_⟩
  conv => whnf
  refine ⟨fun h => (by cases h), fun _ => ⟨⟨by show ((1 : Nat) : Int) * ((24 : Nat) : Int) ≤ 70368744177664; decide, by simp⟩, ?_⟩⟩
  conv => whnf
  refine gc_step ⟨[false, true, false, false, false, true, true, false, false, false, false, false, false, false, false, false, false, false, false, false, true, true], [0,3], 0⟩ (mkT 45 [(1, .pt 0 0 0 0 0), (5, tb kind d (fullR kind d) (statesN kind)), (6, .sl 1 0 1 0 1), (20, .v (.int .i64 (statesN kind : Nat))), (21, .v (.int .i64 (1 : Nat)))]) [schB kind d, .rw false false 0 1 (nest3 (TP kind d 1))] [] (fun k hk => hk) ?_
  refine pt_out (fun _ => none) kind d hd _ (statesN kind - 1) 1 391 (by omega) (by omega) (by omega) fun j => ?_
  conv => whnf
  left
  conv => whnf
  refine ⟨by rw [nest3_length, TP_length]; omega, ?_⟩
  have ef : ((nest3 (TP kind d (statesN kind))).drop 0).take (statesN kind) = nest3 (TZ kind d) := by rw [List.drop_zero, ← TP_TZ]; exact List.take_of_length_le (by rw [nest3_length, TP_length]; exact Nat.le_refl _)
  rw [ef]
  conv => whnf
  try rfl
/-- What Tables hands over. -/
def tT (kind : Nat) (depth degree p q g : Int) : List (List (List Int)) := if validB kind depth degree p q g = true then TZ kind depth.toNat else []
def tE (kind : Nat) (depth degree p q g : Int) : Int := if validB kind depth degree p q g = true then 0 else 30
theorem Tables_pure (kind : Nat) (depth degree p q g : Int) :
    Pure Go.Proofs.Try.prog 20 [scheme kind depth degree p q g] ⟨.tup [.ro (nest3 (tT kind depth degree p q g)), .v (.int .i64 (tE kind depth degree p q g))], []⟩ := by
  cases hv : validB kind depth degree p q g with
  | false =>
    simp only [tT, tE, hv, Bool.false_eq_true, if_false]
    refine pure_sz pf eqOk_none (env_ok ptEnv rfl) fun _ => ⟨60, ?_⟩
    conv => whnf
    refine ⟨_, check_pure kind depth degree p q g, ?_⟩
    rw [hv]
    conv => whnf
    left
    conv => whnf
    refine Or.inl ?_
    conv => whnf
    try rfl
  | true =>
    simp only [tT, tE, hv, if_true]
    simp only [validB, decide_eq_true_eq] at hv
    obtain ⟨h1, h2, h3, h4, rfl, rfl, rfl, rfl⟩ := hv
    obtain ⟨d, rfl⟩ : ∃ d : Nat, depth = d := ⟨depth.toNat, by omega⟩
    exact Tables_ok kind d h1 h2 (by omega)
theorem Tables3_pure' (kind : Nat) (depth degree p q g : Int) :
    Pure Go.Proofs.Try.prog 21 [scheme kind depth degree p q g] ⟨.tup [.ro (nest3 (tT kind depth degree p q g)), .v (.int .i64 (tE kind depth degree p q g))], []⟩ := by
  have := Tables3_pure kind depth degree p q g
  rw [show (if validB kind depth degree p q g = true then nest3 (TZ kind depth.toNat) else []) = nest3 (tT kind depth degree p q g) from by unfold tT; split <;> rfl] at this
  exact this
theorem CheckTables_pure (kind : Nat) (depth degree p q g : Int) (T : List (List (List Int))) :
    Pure Go.Proofs.Try.prog 23 [scheme kind depth degree p q g, .ro (nest3 T)] ⟨.v (.int .i64 (cE kind depth degree p q g T)), []⟩ := by
  refine pure_sz pf eqOk_none (env_ok [20, 53] rfl) fun _ => ⟨60, ?_⟩
  have h1 := Tables_pure kind depth degree p q g
  cases hv : validB kind depth degree p q g with
  | false =>
    have e : cE kind depth degree p q g T = 30 := by simp [cE, hv]
    have e2 : tE kind depth degree p q g = 30 := by simp [tE, hv]
    rw [e]
    rw [e2] at h1
    conv => whnf
    refine ⟨_, h1, ?_⟩
    conv => whnf
    left
    conv => whnf
    try rfl
  | true =>
    have e2 : tE kind depth degree p q g = 0 := by simp [tE, hv]
    have e3 : tT kind depth degree p q g = TZ kind depth.toNat := by simp [tT, hv]
    rw [e2, e3] at h1
    have h2 := eqf3_pure (TZ kind depth.toNat) T (fun x y => eq2_pure x y)
    by_cases hT : T = TZ kind depth.toNat
    · have e : cE kind depth degree p q g T = 0 := by unfold cE; rw [if_pos hv, if_pos hT]
      rw [e]
      rw [show decide (TZ kind depth.toNat = T) = true by simp [hT]] at h2
      conv => whnf
      refine ⟨_, h1, ?_⟩
      conv => whnf
      refine ⟨_, h2, ?_⟩
      conv => whnf
      left
      conv => whnf
      try rfl
    · have e : cE kind depth degree p q g T = 100 := by unfold cE; rw [if_pos hv, if_neg hT]
      rw [e]
      rw [show decide (TZ kind depth.toNat = T) = false by simp; exact fun h => hT h.symm] at h2
      conv => whnf
      refine ⟨_, h1, ?_⟩
      conv => whnf
      refine ⟨_, h2, ?_⟩
      conv => whnf
      left
      conv => whnf
      try rfl
/-- The law's function. -/
theorem PlanTables_pure (kind : Nat) (depth degree p q g : Int) (T : List (List (List Int))) :
    Pure Go.Proofs.Try.prog 4 [scheme kind depth degree p q g, .ro (nest3 T)] ⟨.v (.bool true), []⟩ := by
  refine pure_sz pf eqOk_none (env_ok [19, 20, 21, 22, 23, 24] rfl) fun _ => ⟨60, ?_⟩
  have h0 := Great_pure T
  have h1 := Tables_pure kind depth degree p q g
  have h2 := Tables3_pure' kind depth degree p q g
  have h3 := CheckTables_pure kind depth degree p q g T
  have h4 := CheckTables3_pure kind depth degree p q g T
  generalize tT kind depth degree p q g = L at h1 h2
  generalize tE kind depth degree p q g = b at h1 h2
  generalize cE kind depth degree p q g T = c at h3 h4
  have h5 := SameTables_pure L L
  rw [show decide (L = L) = true by simp] at h5
  cases hg : greatB T with
  | true =>
    rw [hg] at h0
    conv => whnf
    refine ⟨_, h0, ?_⟩
    conv => whnf
    left
    conv => whnf
    try rfl
  | false =>
    rw [hg] at h0
    conv => whnf
    refine ⟨_, h0, ?_⟩
    conv => whnf
    refine ⟨_, h1, ?_⟩
    conv => whnf
    refine ⟨_, h2, ?_⟩
    conv => whnf
    refine Or.inl ⟨18, by kernel_rfl, ?_⟩
    conv => whnf
    refine ⟨_, h5, ?_⟩
    conv => whnf
    rw [show (b == b) = true by simp]
    conv => whnf
    refine ⟨_, h3, ?_⟩
    conv => whnf
    refine ⟨_, h4, ?_⟩
    conv => whnf
    rw [show (c == c) = true by simp]
    conv => whnf
    left
    conv => whnf
    try rfl
end Go.YtoeophdffhmpmaaE
