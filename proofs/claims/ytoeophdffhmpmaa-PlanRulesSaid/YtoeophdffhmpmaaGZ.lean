/- The law PlanRules: 'Rows.PlanRulesSaid': for every scheme and number of revoked receivers the tables follow the local rules, and the worst number is the greatest entry; the arguments read as they did. Out of the function's contract. -/
import Derived.Test.YtoeophdffhmpmaaRows
import Derived.Test.YtoeophdffhmpmaaG9
set_option linter.unusedVariables false
set_option linter.unusedSimpArgs false
set_option maxRecDepth 100000
namespace Go.Proofs.Ytoeophdffhmpmaa
open Go Go.RowKit Go.ChangeShapes Go.WideShapes Go.ChangeAt Go.YtoeophdffhmpmaaE

theorem cells1_3 : Try.prog.cellsOf 3 = 1 := by kernel_rfl
theorem walkPlanRules (k0 : Nat) (a0 e0 p0 q0 g0 : Int) (x1 : Int) (w : World) :
    Calls Try.prog 8 #[schV k0 a0 e0 p0 q0 g0, .int .i64 x1] w fun x w' => x = .returned (.bool true) ∧ Below w.heap.size w w' := by
  refine (PlanRules_pure k0 a0 e0 p0 q0 g0 x1 w (fun b => b < w.heap.size) _ (fun x hx => hx) ⟨rfl, fun i hi => ?_⟩).mono fun x w' ⟨v, g', h1, h2, _, _, h3⟩ => ?_
  · match i, hi with
    | 0, _ =>
      refine VR.agg _ _ rfl fun j hj => ?_
      match j, hj with
      | 0, _ | 1, _ | 2, _ | 3, _ | 4, _ | 5, _ => exact VR.v _ rfl
    | 1, _ =>
      exact VR.v _ rfl
  · cases h3
    exact ⟨h1, h2.be⟩
theorem lifted (os : Os) (started : os.Started) (H : Type) (enc : TypeId × Value → H) :
    ReturnsInHanded {} Try.checked os 8 .any (Rows.planRulesSpec.pre6 enc Try.prog Try.f8 Rows.planRulesRow.domain false) (Rows.planRulesSpec.post enc Try.prog Try.f8 false true false false) := by
  refine returnsInHanded_of_change (C := Try.checked) own started (by kernel_rfl) Try.func8
    (ChangeSpec.witness6 (enc := enc) (C := Try.checked) false ⟨#[], #[schV 0 0 0 0 0 0, .int .i64 0], []⟩ 8 (by kernel_rfl) (by kernel_rfl) (by kernel_rfl) (by kernel_rfl)) ?_
  intro W base args ds gs before hval0 hW hcnd _
  have hval : ∀ (j : Nat) t v, Try.f8.params[j]? = some t → args[j]? = some v → Value.okWide Try.prog W .any base t v := hval0
  have hW' := hW
  obtain ⟨p, q, hA0, hV, rfl, hfz, hnd⟩ := hW
  have hA : DataW.TrodAll enc Try.prog W 0 (fun _ => true) true Try.f8.params.toList args.toList ds p := hA0
  have hAk := hA
  rw [Try.params8] at hA hval
  obtain ⟨v0, vs0, d0, ds0, p0, q0, hargs, rfl, rfl, h0, r0⟩ := trodAll_cons hA
  obtain ⟨v1, vs1, d1, ds1, p1, q1, rfl, rfl, rfl, h1, r1⟩ := trodAll_cons r0
  obtain ⟨rfl, rfl, rfl⟩ := trodAll_nil r1
  obtain rfl : args = #[v0, v1] := by cases args; simp_all
  obtain ⟨rfl, rfl⟩ := trodVars_none hV
  obtain ⟨k0, a0, e0, p0, q0, g0, rfl, rfl, rfl, -, -, -, -, -, -⟩ := open_scheme (hval 0 26 v0 rfl rfl) h0
  obtain ⟨x1, rfl, rfl, rfl, w1⟩ := open_int Try.underlying3 (hval 1 3 v1 rfl rfl) h1
  clear hA0 hval0
  refine (walkPlanRules k0 a0 e0 p0 q0 g0 x1 W).mono fun x W' ⟨he, hb⟩ => ?_
  subst he
  have back := args_back kidsP fullP hb (by rw [Try.params8]; decide) hAk
  refine ⟨_, rfl, _, _, _, [], _, [], hW', ?_, back, rfl, kept_below hb _, fun h => by cases h⟩
  exact trodAll_cons_mk (shut_bool Try.underlying4 _) trodAll_mk0
theorem over : Rows.planRulesRow.holds Try.pinned (OpenSpec.ofChange Rows.planRulesSpec) :=
  OpenClaim.holds_of_wide 8 Try.f8 rfl rfl rfl rfl rfl rfl rfl ⟨rfl, rfl, rfl, rfl, rfl⟩ rfl rfl rfl rfl rfl (by kernel_rfl) Try.func8 (by kernel_rfl)
    (of_decide_eq_true (by kernel_rfl)) (by unfold Func.isWrapper; first | (rw [if_pos (by decide +kernel)]; kernel_rfl) | (rw [if_neg (by decide +kernel)]; exact ⟨rfl, rfl⟩))
    (fun os started H enc _ => lifted os started H enc)
theorem planRules_holds : Rows.PlanRulesSaid := over
end Go.Proofs.Ytoeophdffhmpmaa
