/- The law's function: PlanWorsts. -/
import Derived.Test.YtoeophdffhmpmaaR6
set_option linter.unusedVariables false
set_option linter.unusedSimpArgs false
set_option maxRecDepth 100000
set_option maxHeartbeats 1000000
namespace Go.YtoeophdffhmpmaaE
open Go Go.RowKit

theorem PlanWorsts_pure (kind : Nat) (depth degree p q g r : Int) :
    Pure Go.Proofs.Try.prog 3 [scheme kind depth degree p q g, .v (.int .i64 r)] ⟨.v (.bool true), []⟩ := by
  refine pure_sz pf eqOk_none (env_ok [14, 15, 16, 17, 18] rfl) fun _ => ⟨60, ?_⟩
  have h1 := Worst_pure kind depth degree p q g r
  have h2 := Worst3_pure kind depth degree p q g r
  have h3 := Witness_pure kind depth degree p q g r
  have h4 := Witness3_pure kind depth degree p q g r
  generalize wN kind depth degree p q g r = a at h1 h2 h3 h4
  generalize wE kind depth degree p q g r = b at h1 h2 h3 h4
  generalize wL kind depth degree p q g r = L at h1 h2 h3 h4
  conv => whnf
  refine ⟨_, h1, ?_⟩
  conv => whnf
  refine ⟨_, h2, ?_⟩
  conv => whnf
  refine ⟨_, h3, ?_⟩
  conv => whnf
  refine ⟨_, h4, ?_⟩
  conv => whnf
  rw [show (a == a) = true by simp]
  conv => whnf
  rw [show (b == b) = true by simp]
  conv => whnf
  refine ⟨_, sameInts_pure L L, ?_⟩
  rw [show decide (L = L) = true by simp]
  conv => whnf
  rw [show (b == b) = true by simp]
  conv => whnf
  left
  conv => whnf
  try rfl
end Go.YtoeophdffhmpmaaE
