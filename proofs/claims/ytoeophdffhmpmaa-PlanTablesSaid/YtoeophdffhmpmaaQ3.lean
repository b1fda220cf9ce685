/- headendref10.Great, CheckTables; plan.Tables, CheckTables. -/
import Derived.Test.YtoeophdffhmpmaaQ2
set_option linter.unusedVariables false
set_option linter.unusedSimpArgs false
set_option maxRecDepth 100000
set_option maxHeartbeats 1000000
namespace Go.YtoeophdffhmpmaaE
open Go Go.RowKit

/-- What CheckTables says. -/
def cE (kind : Nat) (depth degree p q g : Int) (T : List (List (List Int))) : Int := if validB kind depth degree p q g = true then (if T = TZ kind depth.toNat then 0 else 100) else 30
theorem CheckTables3_pure (kind : Nat) (depth degree p q g : Int) (T : List (List (List Int))) :
    Pure Go.Proofs.Try.prog 24 [scheme kind depth degree p q g, .ro (nest3 T)] ⟨.v (.int .i64 (cE kind depth degree p q g T)), []⟩ := by
  refine pure_sz pf eqOk_none (env_ok [49, 42, 22] rfl) fun _ => ⟨60, ?_⟩
  cases hv : validB kind depth degree p q g with
  | false =>
    have e : cE kind depth degree p q g T = 30 := by simp [cE, hv]
    rw [e]
    conv => whnf
    refine ⟨_, check3_pure kind depth degree p q g, ?_⟩
    rw [hv]
    conv => whnf
    left
    conv => whnf
    try rfl
  | true =>
    have hv2 := hv
    simp only [validB, decide_eq_true_eq] at hv
    obtain ⟨h1, h2, h3, h4, rfl, rfl, rfl, rfl⟩ := hv
    obtain ⟨d, rfl⟩ : ∃ d : Nat, depth = d := ⟨depth.toNat, by omega⟩
    by_cases hT : T = TZ kind d
    · have e : cE kind d 0 0 0 0 T = 0 := by unfold cE; rw [if_pos hv2, Int.toNat_natCast, if_pos hT]
      rw [e]
      conv => whnf
      refine ⟨_, check3_pure kind d 0 0 0 0, ?_⟩
      rw [hv2]
      conv => whnf
      refine ⟨_, TablesOf_pure kind d h1 h2 (by omega), ?_⟩
      conv => whnf
      refine ⟨_, SameTables_pure T (TZ kind d), ?_⟩
      rw [show decide (T = TZ kind d) = true by simp [hT]]
      conv => whnf
      left
      conv => whnf
      try rfl
    · have e : cE kind d 0 0 0 0 T = 100 := by unfold cE; rw [if_pos hv2, Int.toNat_natCast, if_neg hT]
      rw [e]
      conv => whnf
      refine ⟨_, check3_pure kind d 0 0 0 0, ?_⟩
      rw [hv2]
      conv => whnf
      refine ⟨_, TablesOf_pure kind d h1 h2 (by omega), ?_⟩
      conv => whnf
      refine ⟨_, SameTables_pure T (TZ kind d), ?_⟩
      rw [show decide (T = TZ kind d) = false by simp [hT]]
      conv => whnf
      left
      conv => whnf
      try rfl

/-! ### plan.Tables -/
def ptEnv : List Nat := [45, 46, 48, 47]
def schB (kind d : Nat) : Blk := .bx false [.v (.int .u8 kind), .v (.int .i64 d), .v (.int .i64 0), .v (.int .u64 0), .v (.int .u64 0), .v (.int .u64 0)]
theorem tat_pure (kind d s h : Nat) (hs : s < statesN kind) (hs4 : s < 4) (hh : h ≤ d) (hd : d ≤ 6) :
    Pure Go.Proofs.Try.prog 48 [tb kind d (fullR kind d) (statesN kind), .v (.int .i64 s), .v (.int .i64 h)] ⟨.ro (ints (lvl kind d h s)), []⟩ := by
  have := at_pure kind d (statesN kind) (fullR kind d) s h hs4 (by omega) (fullR_len2 kind d s h hs hh)
  rw [fullR_row kind d s h hs hh] at this
  exact this
theorem row_len (kind d h s : Nat) (hh : h ≤ 6) : (lvl kind d h s).length ≤ 100 := by
  have := pow_le6 hh; rw [lvl_length]; omega
theorem nest_snoc (kind d s h : Nat) : nest2 (rowsZ kind d s (h + 1)) = nest2 (rowsZ kind d s h) ++ [[.ro (ints (lvl kind d h s))]] := by rw [rowsZ_succ]; simp [nest2]
end Go.YtoeophdffhmpmaaE
