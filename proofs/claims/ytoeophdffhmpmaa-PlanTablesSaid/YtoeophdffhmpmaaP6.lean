/- cover.Check; plan.asked, Worst. -/
import Derived.Test.YtoeophdffhmpmaaP5
import Derived.Test.YtoeophdffhmpmaaE30
set_option linter.unusedVariables false
set_option linter.unusedSimpArgs false
set_option maxRecDepth 100000
set_option maxHeartbeats 1000000
namespace Go.YtoeophdffhmpmaaE
open Go Go.RowKit

theorem eqs : EqOk Go.Proofs.Try.prog (eqN Go.Proofs.Try.prog [26, 24]) := eqN_ok (by kernel_rfl)
theorem eqScheme : eqN Go.Proofs.Try.prog [26, 24] 26 = some [some .u8, some .i64, some .i64, some .u64, some .u64, some .u64] := by kernel_rfl
theorem schemeNeq {E : EqT} (hE : E 26 = some [some .u8, some .i64, some .i64, some .u64, some .u64, some .u64]) (kind : Nat) (depth degree p q g : Int) (k : Bool → Prop) (h : k (degree == 0 && (p == 0 && (q == 0 && g == 0)))) :
    optK (E 26) fun cks => eqCells cks [.v (.int .u8 kind), .v (.int .i64 depth), .v (.int .i64 degree), .v (.int .u64 p), .v (.int .u64 q), .v (.int .u64 g)]
      [.v (.int .u8 kind), .v (.int .i64 depth), .v (.int .i64 0), .v (.int .u64 0), .v (.int .u64 0), .v (.int .u64 0)] fun b => k b := by
  refine optK_intro _ hE ?_
  have : ∀ x1 x2 : Int, ∀ y1 y2 : Int, (eqCells [some .u8, some .i64, some .i64, some .u64, some .u64, some .u64] [.v (.int .u8 x1), .v (.int .i64 y1), .v (.int .i64 degree), .v (.int .u64 p), .v (.int .u64 q), .v (.int .u64 g)]
      [.v (.int .u8 x2), .v (.int .i64 y2), .v (.int .i64 0), .v (.int .u64 0), .v (.int .u64 0), .v (.int .u64 0)] fun b => k b) = k ((x1 == x2) && ((y1 == y2) && ((degree == 0) && ((p == 0) && ((q == 0) && ((g == 0) && true)))))) := fun x1 x2 y1 y2 => rfl
  rw [this]
  simpa using h
def treeA (kind : Nat) (depth stride : Int) : A := .agg [.v (.int .u8 kind), .v (.int .i64 depth), .v (.int .i64 stride)]
theorem treeOf_ok (kind d : Nat) (h1 : 1 ≤ kind) (h3 : kind ≤ 3) (hd : d ≤ 6) :
    Pure Go.Proofs.Try.prog 85 [scheme kind d 0 0 0 0] ⟨.tup [treeA kind d (strideN d), .v (.bool true)], []⟩ := by
  refine pure_sz pf eqs (env_ok [] rfl) fun _ => ⟨60, ?_⟩
  generalize hEE : eqN Go.Proofs.Try.prog [26, 24] = E
  have hE : E 26 = some [some .u8, some .i64, some .i64, some .u64, some .u64, some .u64] := by rw [← hEE]; exact eqScheme
  clear hEE
  have hk : kind = 1 ∨ kind = 2 ∨ kind = 3 := by omega
  rcases hk with rfl | rfl | rfl
  all_goals
    match d, hd with
    | 0, _ | 1, _ | 2, _ | 3, _ | 4, _ | 5, _ | 6, _ =>
      conv => whnf
      refine optK_intro _ hE ?_
      conv => whnf
      repeat (refine wk_none ?_; conv => whnf)
      left
      conv => whnf
      try rfl
theorem treeOf_bad (kind : Nat) (depth degree p q g : Int) (hv : validB kind depth degree p q g = false) :
    Pure Go.Proofs.Try.prog 85 [scheme kind depth degree p q g] ⟨.tup [treeA 0 0 0, .v (.bool false)], []⟩ := by
  refine pure_sz pf eqs (env_ok [] rfl) fun _ => ⟨60, ?_⟩
  generalize hEE : eqN Go.Proofs.Try.prog [26, 24] = E
  have hE : E 26 = some [some .u8, some .i64, some .i64, some .u64, some .u64, some .u64] := by rw [← hEE]; exact eqScheme
  clear hEE
  conv => whnf
  refine cndK_intro (fun h => ?_) (fun h1 => ?_)
  · rw [h]; conv => whnf
    left
    conv => whnf
    try rfl
  rw [h1]; conv => whnf
  refine cndK_intro (fun h => ?_) (fun h2 => ?_)
  · rw [h]; conv => whnf
    left
    conv => whnf
    try rfl
  rw [h2]; conv => whnf
  refine cndK_intro (fun h => ?_) (fun h3 => ?_)
  · rw [h]; conv => whnf
    left
    conv => whnf
    try rfl
  rw [h3]; conv => whnf
  refine cndK_intro (fun h => ?_) (fun h4 => ?_)
  · rw [h]; conv => whnf
    left
    conv => whnf
    try rfl
  rw [h4]; conv => whnf
  rw [hE]
  conv => whnf
  rw [show ((kind : Int) == kind && (depth == depth && (degree == 0 && (p == 0 && (q == 0 && (g == 0 && true)))))) = (degree == 0 && (p == 0 && (q == 0 && g == 0))) from by simp]
  have h5 : (degree == 0 && (p == 0 && (q == 0 && g == 0))) = false := by
    cases h6 : (degree == 0 && (p == 0 && (q == 0 && g == 0))) with
    | false => rfl
    | true =>
      exfalso
      simp only [validB, decide_eq_false_iff_not] at hv
      simp at h1 h2 h3 h4 h6
      omega
  rw [h5]
  conv => whnf
  left
  conv => whnf
  try rfl
theorem check_pure (kind : Nat) (depth degree p q g : Int) :
    Pure Go.Proofs.Try.prog 45 [scheme kind depth degree p q g] ⟨.v (.int .i64 (if validB kind depth degree p q g = true then 0 else 30)), []⟩ := by
  refine pure_sz pf eqs (env_ok [85] rfl) fun _ => ⟨60, ?_⟩
  cases hv : validB kind depth degree p q g with
  | false =>
    conv => whnf
    refine ⟨_, treeOf_bad kind depth degree p q g hv, ?_⟩
    conv => whnf
    left
    conv => whnf
    try rfl
  | true =>
    simp only [validB, decide_eq_true_eq] at hv
    obtain ⟨h1, h2, h3, h4, rfl, rfl, rfl, rfl⟩ := hv
    obtain ⟨d, rfl⟩ : ∃ d : Nat, depth = d := ⟨depth.toNat, by omega⟩
    conv => whnf
    refine ⟨_, treeOf_ok kind d h1 h2 (by omega), ?_⟩
    conv => whnf
    left
    conv => whnf
    try rfl
end Go.YtoeophdffhmpmaaE
