/- The law PlanGrows: 'Rows.PlanGrowsSaid': for every depth and number of revoked receivers the worst number does not decrease with the revoked receivers, and is within the kinds' bounds; the arguments read as they did. Out of the function's contract. -/
import Derived.Test.YtoeophdffhmpmaaRows
import Derived.Test.YtoeophdffhmpmaaG9
set_option linter.unusedVariables false
set_option linter.unusedSimpArgs false
set_option maxRecDepth 100000
namespace Go.Proofs.Ytoeophdffhmpmaa
open Go Go.RowKit Go.ChangeShapes Go.WideShapes Go.ChangeAt Go.YtoeophdffhmpmaaE

theorem cells1_3 : Try.prog.cellsOf 3 = 1 := by kernel_rfl
theorem walkPlanGrows (x0 : Int) (x1 : Int) (w : World) :
    Calls Try.prog 6 #[.int .i64 x0, .int .i64 x1] w fun x w' => x = .returned (.bool true) ∧ Below w.heap.size w w' := by
  refine (PlanGrows_pure x0 x1 w (fun b => b < w.heap.size) _ (fun x hx => hx) ⟨rfl, fun i hi => ?_⟩).mono fun x w' ⟨v, g', h1, h2, _, _, h3⟩ => ?_
  · match i, hi with
    | 0, _ =>
      exact VR.v _ rfl
    | 1, _ =>
      exact VR.v _ rfl
  · cases h3
    exact ⟨h1, h2.be⟩
theorem lifted (os : Os) (started : os.Started) (H : Type) (enc : TypeId × Value → H) :
    ReturnsInHanded {} Try.checked os 6 .any (Rows.planGrowsSpec.pre6 enc Try.prog Try.f6 Rows.planGrowsRow.domain false) (Rows.planGrowsSpec.post enc Try.prog Try.f6 false true false false) := by
  refine returnsInHanded_of_change (C := Try.checked) own started (by kernel_rfl) Try.func6
    (ChangeSpec.witness6 (enc := enc) (C := Try.checked) false ⟨#[], #[.int .i64 0, .int .i64 0], []⟩ 8 (by kernel_rfl) (by kernel_rfl) (by kernel_rfl) (by kernel_rfl)) ?_
  intro W base args ds gs before hval0 hW hcnd _
  have hval : ∀ (j : Nat) t v, Try.f6.params[j]? = some t → args[j]? = some v → Value.okWide Try.prog W .any base t v := hval0
  have hW' := hW
  obtain ⟨p, q, hA0, hV, rfl, hfz, hnd⟩ := hW
  have hA : DataW.TrodAll enc Try.prog W 0 (fun _ => true) true Try.f6.params.toList args.toList ds p := hA0
  have hAk := hA
  rw [Try.params6] at hA hval
  obtain ⟨v0, vs0, d0, ds0, p0, q0, hargs, rfl, rfl, h0, r0⟩ := trodAll_cons hA
  obtain ⟨v1, vs1, d1, ds1, p1, q1, rfl, rfl, rfl, h1, r1⟩ := trodAll_cons r0
  obtain ⟨rfl, rfl, rfl⟩ := trodAll_nil r1
  obtain rfl : args = #[v0, v1] := by cases args; simp_all
  obtain ⟨rfl, rfl⟩ := trodVars_none hV
  obtain ⟨x0, rfl, rfl, rfl, w0⟩ := open_int Try.underlying3 (hval 0 3 v0 rfl rfl) h0
  obtain ⟨x1, rfl, rfl, rfl, w1⟩ := open_int Try.underlying3 (hval 1 3 v1 rfl rfl) h1
  clear hA0 hval0
  refine (walkPlanGrows x0 x1 W).mono fun x W' ⟨he, hb⟩ => ?_
  subst he
  have back := args_back kidsP fullP hb (by rw [Try.params6]; decide) hAk
  refine ⟨_, rfl, _, _, _, [], _, [], hW', ?_, back, rfl, kept_below hb _, fun h => by cases h⟩
  exact trodAll_cons_mk (shut_bool Try.underlying4 _) trodAll_mk0
theorem over : Rows.planGrowsRow.holds Try.pinned (OpenSpec.ofChange Rows.planGrowsSpec) :=
  OpenClaim.holds_of_wide 6 Try.f6 rfl rfl rfl rfl rfl rfl rfl ⟨rfl, rfl, rfl, rfl, rfl⟩ rfl rfl rfl rfl rfl (by kernel_rfl) Try.func6 (by kernel_rfl)
    (of_decide_eq_true (by kernel_rfl)) (by unfold Func.isWrapper; first | (rw [if_pos (by decide +kernel)]; kernel_rfl) | (rw [if_neg (by decide +kernel)]; exact ⟨rfl, rfl⟩))
    (fun os started H enc _ => lifted os started H enc)
theorem planGrows_holds : Rows.PlanGrowsSaid := over
end Go.Proofs.Ytoeophdffhmpmaa
