/- plan.asked, Worst. -/
import Derived.Test.YtoeophdffhmpmaaP6
set_option linter.unusedVariables false
set_option linter.unusedSimpArgs false
set_option maxRecDepth 100000
set_option maxHeartbeats 1000000
namespace Go.YtoeophdffhmpmaaE
open Go Go.RowKit

theorem newTables_pure (kind depth : Nat) (h1 : 1 ≤ kind) (h3 : kind ≤ 3) (hd : depth ≤ 6) :
    Pure Go.Proofs.Try.prog 46 [scheme kind depth 0 0 0 0] ⟨tb kind depth (fullR kind depth) (statesN kind), []⟩ := by
  have hk : kind = 1 ∨ kind = 2 ∨ kind = 3 := by omega
  rcases hk with rfl | rfl | rfl
  · exact newTables_1 depth hd
  · exact newTables_2 depth hd
  · exact newTables_3 depth hd
theorem asked_bad (kind : Nat) (depth degree p q g r : Int) (hv : validB kind depth degree p q g = false) :
    Pure Go.Proofs.Try.prog 38 [scheme kind depth degree p q g, .v (.int .i64 r)] ⟨.tup [.v (.pointer none), .v (.int .i64 30)], []⟩ := by
  refine pure_sz pf eqOk_none (env_ok [45, 46] rfl) fun _ => ⟨60, ?_⟩
  conv => whnf
  refine ⟨_, check_pure kind depth degree p q g, ?_⟩
  rw [hv]
  conv => whnf
  left
  conv => whnf
  try rfl
theorem validB_ok (kind d : Nat) (h1 : 1 ≤ kind) (h3 : kind ≤ 3) (hd : d ≤ 6) : validB kind d 0 0 0 0 = true := by
  simp [validB]; omega
theorem asked_arg (kind d : Nat) (r : Int) (h1 : 1 ≤ kind) (h3 : kind ≤ 3) (hd : d ≤ 6) (hr : r < 0 ∨ r > ((2 ^ d : Nat) : Int)) :
    Pure Go.Proofs.Try.prog 38 [scheme kind d 0 0 0 0, .v (.int .i64 r)] ⟨.tup [.v (.pointer none), .v (.int .i64 2)], []⟩ := by
  refine pure_sz pf eqOk_none (env_ok [45, 46] rfl) fun _ => ⟨60, ?_⟩
  conv => whnf
  refine ⟨_, check_pure kind d 0 0 0 0, ?_⟩
  rw [validB_ok kind d h1 h3 hd]
  conv => whnf
  refine cndK_intro (fun h => ?_) (fun h => ?_)
  · rw [h]
    conv => whnf
    left
    conv => whnf
    try rfl
  · rw [h]
    conv => whnf
    refine ⟨by omega, ?_⟩
    conv => whnf
    rw [shl1 hd]
    refine cndK_intro (fun h => ?_) (fun h2 => ?_)
    · conv => whnf
      left
      conv => whnf
      try rfl
    · exfalso
      simp only [decide_eq_false_iff_not] at h h2
      omega
theorem asked_ok (kind d r : Nat) (h1 : 1 ≤ kind) (h3 : kind ≤ 3) (hd : d ≤ 6) (hr : r ≤ 2 ^ d) :
    Pure Go.Proofs.Try.prog 38 [scheme kind d 0 0 0 0, .v (.int .i64 r)] ⟨.tup [tb kind d (fullR kind d) (statesN kind), .v (.int .i64 0)], []⟩ := by
  refine pure_sz pf eqOk_none (env_ok [45, 46] rfl) fun _ => ⟨60, ?_⟩
  conv => whnf
  refine ⟨_, check_pure kind d 0 0 0 0, ?_⟩
  rw [validB_ok kind d h1 h3 hd]
  conv => whnf
  refine ⟨by omega, ?_⟩
  conv => whnf
  rw [shl1 hd]
  refine cndK_intro (fun h => ?_) (fun h2 => ?_)
  · exfalso
    simp only [decide_eq_true_eq] at h
    omega
  · conv => whnf
    refine ⟨_, newTables_pure kind d h1 h3 hd, ?_⟩
    conv => whnf
    left
    conv => whnf
    try rfl
theorem fullR_len (kind d : Nat) : off d + 2 ^ d + 1 ≤ (fullR kind d 0).length := by
  have h : 0 < statesN kind := by unfold statesN; split <;> decide
  unfold fullR; rw [if_pos h, fullZ_length, off_succ]; omega
/-- What Worst says. -/
def wE (kind : Nat) (depth degree p q g r : Int) : Int := if validB kind depth degree p q g = true then (if r < 0 ∨ r > ((2 ^ depth.toNat : Nat) : Int) then 2 else 0) else 30
def wN (kind : Nat) (depth degree p q g r : Int) : Int := if wE kind depth degree p q g r = 0 then (worstZ (fullR kind depth.toNat) depth.toNat r.toNat).1 else 0
theorem Worst_pure (kind : Nat) (depth degree p q g r : Int) :
    Pure Go.Proofs.Try.prog 14 [scheme kind depth degree p q g, .v (.int .i64 r)] ⟨.tup [.v (.int .i64 (wN kind depth degree p q g r)), .v (.int .i64 (wE kind depth degree p q g r))], []⟩ := by
  refine pure_sz pf eqOk_none (env_ok [38, 39] rfl) fun _ => ⟨60, ?_⟩
  cases hv : validB kind depth degree p q g with
  | false =>
    have e1 : wE kind depth degree p q g r = 30 := by simp [wE, hv]
    have e2 : wN kind depth degree p q g r = 0 := by simp [wN, e1]
    rw [e1, e2]
    conv => whnf
    refine ⟨_, asked_bad kind depth degree p q g r hv, ?_⟩
    conv => whnf
    left
    conv => whnf
    try rfl
  | true =>
    have hv2 := hv
    simp only [validB, decide_eq_true_eq] at hv
    obtain ⟨h1, h2, h3, h4, rfl, rfl, rfl, rfl⟩ := hv
    obtain ⟨d, rfl⟩ : ∃ d : Nat, depth = d := ⟨depth.toNat, by omega⟩
    by_cases hr : r < 0 ∨ r > ((2 ^ d : Nat) : Int)
    · have e1 : wE kind d 0 0 0 0 r = 2 := by unfold wE; rw [if_pos hv2, Int.toNat_natCast, if_pos hr]
      have e2 : wN kind d 0 0 0 0 r = 0 := by simp [wN, e1]
      rw [e1, e2]
      conv => whnf
      refine ⟨_, asked_arg kind d r h1 h2 (by omega) hr, ?_⟩
      conv => whnf
      left
      conv => whnf
      try rfl
    · obtain ⟨k, rfl⟩ : ∃ k : Nat, r = k := ⟨r.toNat, by omega⟩
      have e1 : wE kind d 0 0 0 0 k = 0 := by unfold wE; rw [if_pos hv2, Int.toNat_natCast, if_neg hr]
      have e2 : wN kind d 0 0 0 0 k = (worstZ (fullR kind d) d k).1 := by unfold wN; rw [if_pos e1, Int.toNat_natCast, Int.toNat_natCast]
      rw [e1, e2]
      conv => whnf
      refine ⟨_, asked_ok kind d k h1 h2 (by omega) (by omega), ?_⟩
      conv => whnf
      refine ⟨_, worstp_pure kind d (statesN kind) (fullR kind d) k (by omega) (fullR_len kind d) (by omega), ?_⟩
      conv => whnf
      left
      conv => whnf
      try rfl
end Go.YtoeophdffhmpmaaE
