/- The law PlanTables: 'Rows.PlanTablesSaid': for every scheme and every list the program's tables, their error, and whether the list is the tables, are the document's; the arguments read as they did. Out of the function's contract ('PlanTables_pure'). -/
import Derived.Test.YtoeophdffhmpmaaRows
import Derived.Test.YtoeophdffhmpmaaQ6
import Derived.Test.YtoeophdffhmpmaaM2
set_option linter.unusedVariables false
set_option linter.unusedSimpArgs false
set_option maxRecDepth 100000
namespace Go.Proofs.Ytoeophdffhmpmaa
open Go Go.RowKit Go.ChangeShapes Go.WideShapes Go.ChangeAt Go.YtoeophdffhmpmaaE

theorem cells1_39 : Try.prog.cellsOf 73 = 1 := by kernel_rfl
theorem cells1_32 : Try.prog.cellsOf 32 = 1 := by kernel_rfl
theorem cells1_3 : Try.prog.cellsOf 3 = 1 := by kernel_rfl
section
variable {H : Type} {enc : TypeId × Value → H} {w : World} {base : Nat} {spare : Nat → Bool} {held : Bool}
theorem open_tables {g : Gh} {hp : Hp} {fuel : Nat} {cs : List Value} {x : DataW H × List MemPlace} (hI : ∀ b, b < w.heap.size → g.I b)
    (h0 : DataW.trod enc Try.prog w base spare held fuel 39 cs = some x) :
    ∃ (v : Value) (T : List (List (List Int))), cs = [v] ∧ VR g w hp (.ro (nest3 T)) v :=
  open_ro1 (fun L : List (List Int) => .ro (nest2 L)) hI Try.underlying39 cells1_39 (fun _ => rfl) (fun n cs x hx =>
    open_ro1 (fun xs : List Int => .ro (ints xs)) hI Try.underlying73 cells1_32 (fun _ => rfl) (fun n cs x hx =>
      open_ro_ints hI Try.underlying32 Try.underlying3 cells1_3 hx |>.elim fun v h => h.elim fun xs h => ⟨v, h.1, xs, h.2⟩) hx |>.elim fun v h => h.elim fun xs h => ⟨v, h.1, xs, h.2⟩) h0
end
theorem walkPlanTables (k : Nat) (a e p q g : Int) (w : World) (v : Value) (T : List (List (List Int))) (hv : VR (gI fun b => b < w.heap.size) w (fun _ => .hole) (.ro (nest3 T)) v) :
    Calls Try.prog 4 #[schV k a e p q g, v] w fun x w' => x = .returned (.bool true) ∧ Below w.heap.size w w' := by
  refine (PlanTables_pure k a e p q g T w (fun b => b < w.heap.size) _ (fun x hx => hx) ⟨rfl, fun i hi => ?_⟩).mono fun x w' ⟨v, g', h1, h2, _, _, h3⟩ => ?_
  · match i, hi with
    | 0, _ =>
      refine VR.agg _ _ rfl fun j hj => ?_
      match j, hj with
      | 0, _ | 1, _ | 2, _ | 3, _ | 4, _ | 5, _ => exact VR.v _ rfl
    | 1, _ => exact hv
  · cases h3
    exact ⟨h1, h2.be⟩
theorem lifted (os : Os) (started : os.Started) (H : Type) (enc : TypeId × Value → H) :
    ReturnsInHanded {} Try.checked os 4 .any (Rows.planTablesSpec.pre6 enc Try.prog Try.f4 Rows.planTablesRow.domain false) (Rows.planTablesSpec.post enc Try.prog Try.f4 false true false false) := by
  refine returnsInHanded_of_change (C := Try.checked) own started (by kernel_rfl) Try.func4
    (ChangeSpec.witness6 (enc := enc) (C := Try.checked) false ⟨#[], #[schV 0 0 0 0 0 0, .slice none 0 0], []⟩ 8 (by kernel_rfl) (by kernel_rfl) (by kernel_rfl) (by kernel_rfl)) ?_
  intro W base args ds gs before hval0 hW hcnd _
  have hval : ∀ (j : Nat) t v, Try.f4.params[j]? = some t → args[j]? = some v → Value.okWide Try.prog W .any base t v := hval0
  have hW' := hW
  obtain ⟨p, q, hA0, hV, rfl, hfz, hnd⟩ := hW
  have hA : DataW.TrodAll enc Try.prog W 0 (fun _ => true) true Try.f4.params.toList args.toList ds p := hA0
  rw [Try.params4] at hA hval
  obtain ⟨v0, vs0, d0, ds0, p0, q0, hargs, rfl, rfl, h0, r0⟩ := trodAll_cons hA
  obtain ⟨v1, vs1, d1, ds1, p1, q1, rfl, rfl, rfl, h1, r1⟩ := trodAll_cons r0
  obtain ⟨rfl, rfl, rfl⟩ := trodAll_nil r1
  obtain rfl : args = #[v0, v1] := by cases args; simp_all
  obtain ⟨rfl, rfl⟩ := trodVars_none hV
  obtain ⟨k, a, e, p, q, g, rfl, rfl, rfl, w0, w1, w2, w3, w4, w5⟩ := open_scheme (hval 0 26 v0 rfl rfl) h0
  obtain ⟨aa, len, cap, rfl⟩ := okWide_slice Try.underlying39 (hval 1 39 v1 rfl rfl)
  have h1' := h1
  obtain ⟨fuel, h1⟩ := h1
  obtain ⟨v, T, hvs, hT⟩ := open_tables (g := gI fun b => b < W.heap.size) (hp := fun _ => .hole) (fun b hb => hb) h1
  obtain rfl : v = .slice aa len cap := by simpa [Value.cells] using hvs.symm
  clear hA0 hval0
  simp only [List.append_nil, List.nil_append] at hW'
  refine (walkPlanTables k a e p q g W _ T hT).mono fun x W' ⟨he, hb⟩ => ?_
  subst he
  refine ⟨_, rfl, _, _, _, [], p1, [], hW', ?_, ?_, rfl, kept_below hb _, fun h => by cases h⟩
  · exact trodAll_cons_mk (shut_bool Try.underlying4 _) trodAll_mk0
  · have := args_back kidsP fullP hb (by decide) hA
    rw [List.append_nil, List.nil_append] at this
    exact this
theorem over : Rows.planTablesRow.holds Try.pinned (OpenSpec.ofChange Rows.planTablesSpec) :=
  OpenClaim.holds_of_wide 4 Try.f4 rfl rfl rfl rfl rfl rfl rfl ⟨rfl, rfl, rfl, rfl, rfl⟩ rfl rfl rfl rfl rfl (by kernel_rfl) Try.func4 (by kernel_rfl)
    (of_decide_eq_true (by kernel_rfl)) (by unfold Func.isWrapper; first | (rw [if_pos (by decide +kernel)]; kernel_rfl) | (rw [if_neg (by decide +kernel)]; exact ⟨rfl, rfl⟩))
    (fun os started H enc _ => lifted os started H enc)
theorem planTables_holds : Rows.PlanTablesSaid := over
end Go.Proofs.Ytoeophdffhmpmaa
