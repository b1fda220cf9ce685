/- The law PlanScales: 'Rows.PlanScalesSaid': for every need, factor and storage more the costs are scaled, the best kind stays, and with more storage the best cost is no greater; the arguments read as they did. Out of the function's contract. -/
import Derived.Test.YtoeophdffhmpmaaRows
import Derived.Test.YtoeophdffhmpmaaG9
set_option linter.unusedVariables false
set_option linter.unusedSimpArgs false
set_option maxRecDepth 100000
namespace Go.Proofs.Ytoeophdffhmpmaa
open Go Go.RowKit Go.ChangeShapes Go.WideShapes Go.ChangeAt Go.YtoeophdffhmpmaaE

theorem cells1_3 : Try.prog.cellsOf 3 = 1 := by kernel_rfl
theorem walkPlanScales (a00 a01 a02 a03 a04 a05 : Int) (p0 q0 g0 : Nat) (u0 : p0 < 18446744073709551616) (v0' : q0 < 18446744073709551616) (z0 : g0 < 18446744073709551616) (x1 : Int) (x2 : Int) (w : World) :
    Calls Try.prog 7 #[needV a00 a01 a02 a03 a04 a05 p0 q0 g0, .int .i64 x1, .int .i64 x2] w fun x w' => x = .returned (.bool true) ∧ Below w.heap.size w w' := by
  refine (PlanScales_pure a00 a01 a02 a03 a04 a05 p0 q0 g0 u0 v0' z0 x1 x2 w (fun b => b < w.heap.size) _ (fun x hx => hx) ⟨rfl, fun i hi => ?_⟩).mono fun x w' ⟨v, g', h1, h2, _, _, h3⟩ => ?_
  · match i, hi with
    | 0, _ =>
      refine VR.agg _ _ rfl fun j hj => ?_
      match j, hj with
      | 0, _ | 1, _ | 2, _ | 3, _ | 4, _ | 5, _ | 6, _ | 7, _ | 8, _ => exact VR.v _ rfl
    | 1, _ =>
      exact VR.v _ rfl
    | 2, _ =>
      exact VR.v _ rfl
  · cases h3
    exact ⟨h1, h2.be⟩
theorem lifted (os : Os) (started : os.Started) (H : Type) (enc : TypeId × Value → H) :
    ReturnsInHanded {} Try.checked os 7 .any (Rows.planScalesSpec.pre6 enc Try.prog Try.f7 Rows.planScalesRow.domain false) (Rows.planScalesSpec.post enc Try.prog Try.f7 false true false false) := by
  refine returnsInHanded_of_change (C := Try.checked) own started (by kernel_rfl) Try.func7
    (ChangeSpec.witness6 (enc := enc) (C := Try.checked) false ⟨#[], #[needV 0 0 0 0 0 0 0 0 0, .int .i64 0, .int .i64 0], []⟩ 8 (by kernel_rfl) (by kernel_rfl) (by kernel_rfl) (by kernel_rfl)) ?_
  intro W base args ds gs before hval0 hW hcnd _
  have hval : ∀ (j : Nat) t v, Try.f7.params[j]? = some t → args[j]? = some v → Value.okWide Try.prog W .any base t v := hval0
  have hW' := hW
  obtain ⟨p, q, hA0, hV, rfl, hfz, hnd⟩ := hW
  have hA : DataW.TrodAll enc Try.prog W 0 (fun _ => true) true Try.f7.params.toList args.toList ds p := hA0
  have hAk := hA
  rw [Try.params7] at hA hval
  obtain ⟨v0, vs0, d0, ds0, p0, q0, hargs, rfl, rfl, h0, r0⟩ := trodAll_cons hA
  obtain ⟨v1, vs1, d1, ds1, p1, q1, rfl, rfl, rfl, h1, r1⟩ := trodAll_cons r0
  obtain ⟨v2, vs2, d2, ds2, p2, q2, rfl, rfl, rfl, h2, r2⟩ := trodAll_cons r1
  obtain ⟨rfl, rfl, rfl⟩ := trodAll_nil r2
  obtain rfl : args = #[v0, v1, v2] := by cases args; simp_all
  obtain ⟨rfl, rfl⟩ := trodVars_none hV
  obtain ⟨a00, a01, a02, a03, a04, a05, p0, q0, g0, rfl, u0, v0', z0⟩ := open_need (hval 0 50 v0 rfl rfl) h0
  obtain ⟨x1, rfl, rfl, rfl, w1⟩ := open_int Try.underlying3 (hval 1 3 v1 rfl rfl) h1
  obtain ⟨x2, rfl, rfl, rfl, w2⟩ := open_int Try.underlying3 (hval 2 3 v2 rfl rfl) h2
  clear hA0 hval0
  refine (walkPlanScales a00 a01 a02 a03 a04 a05 p0 q0 g0 u0 v0' z0 x1 x2 W).mono fun x W' ⟨he, hb⟩ => ?_
  subst he
  have back := args_back kidsP fullP hb (by rw [Try.params7]; decide) hAk
  refine ⟨_, rfl, _, _, _, [], _, [], hW', ?_, back, rfl, kept_below hb _, fun h => by cases h⟩
  exact trodAll_cons_mk (shut_bool Try.underlying4 _) trodAll_mk0
theorem over : Rows.planScalesRow.holds Try.pinned (OpenSpec.ofChange Rows.planScalesSpec) :=
  OpenClaim.holds_of_wide 7 Try.f7 rfl rfl rfl rfl rfl rfl rfl ⟨rfl, rfl, rfl, rfl, rfl⟩ rfl rfl rfl rfl rfl (by kernel_rfl) Try.func7 (by kernel_rfl)
    (of_decide_eq_true (by kernel_rfl)) (by unfold Func.isWrapper; first | (rw [if_pos (by decide +kernel)]; kernel_rfl) | (rw [if_neg (by decide +kernel)]; exact ⟨rfl, rfl⟩))
    (fun os started H enc _ => lifted os started H enc)
theorem planScales_holds : Rows.PlanScalesSaid := over
end Go.Proofs.Ytoeophdffhmpmaa
