/- The law PlanWorsts: 'Rows.PlanWorstsSaid': for every scheme and every number of revoked receivers the program's worst number, worst list and errors are the document's; the arguments read as they did. Out of the function's contract ('PlanWorsts_pure'). -/
import Derived.Test.YtoeophdffhmpmaaRows
import Derived.Test.YtoeophdffhmpmaaL1
import Derived.WalkKit
import Derived.ProofKit
import Derived.OpenShut
set_option linter.unusedVariables false
set_option linter.unusedSimpArgs false
set_option maxRecDepth 100000
namespace Go.YtoeophdffhmpmaaE
open Go Go.RowKit Go.ChangeShapes Go.WideShapes Go.ChangeAt

section
variable {H : Type} {enc : TypeId × Value → H} {w : World} {base : Nat} {spare : Nat → Bool} {held : Bool}
theorem cc22 : Go.Proofs.Try.prog.cellsOf 22 = 1 := by kernel_rfl
theorem cc24 : Go.Proofs.Try.prog.cellsOf 24 = 3 := by kernel_rfl
theorem cc26 : Go.Proofs.Try.prog.cellsOf 26 = 6 := by kernel_rfl
theorem cc3 : Go.Proofs.Try.prog.cellsOf 3 = 1 := by kernel_rfl
theorem cc5 : Go.Proofs.Try.prog.cellsOf 5 = 1 := by kernel_rfl
/-- An integer field of a struct. -/
theorem field_int {P : Program} {t : TypeId} {k : IntKind} {fuel : Nat} {cs : List Value} {x : DataW H × List MemPlace} (ht : P.underlying t = some (.int k)) (h : DataW.trod enc P w base spare held fuel t cs = some x) :
    ∃ n, cs = [.int k n] ∧ x = (.lit (.int k n), []) ∧ (Lit.int k n).wf = true := by
  obtain ⟨n, h1, h2, h3⟩ := DataW.trod_int ht h
  exact ⟨n, h1, h2, h3⟩
def grpD (p q g : Int) : DataW H := .agg [.lit (.int .u64 p), .lit (.int .u64 q), .lit (.int .u64 g)]
def schD (k d e p q g : Int) : DataW H := .agg [.lit (.int .u8 k), .lit (.int .i64 d), .lit (.int .i64 e), grpD p q g]
def schV (k d e p q g : Int) : Value := .agg #[.int .u8 k, .int .i64 d, .int .i64 e, .int .u64 p, .int .u64 q, .int .u64 g]
theorem open_group {fuel : Nat} {c0 c1 c2 : Value} {x : DataW H × List MemPlace} (h : DataW.trod enc Go.Proofs.Try.prog w base spare held fuel 24 [c0, c1, c2] = some x) :
    ∃ p q g, c0 = .int .u64 p ∧ c1 = .int .u64 q ∧ c2 = .int .u64 g ∧ x = (grpD p q g, []) ∧ (Lit.int .u64 p).wf = true ∧ (Lit.int .u64 q).wf = true ∧ (Lit.int .u64 g).wf = true := by
  obtain ⟨xs, n, _, rfl, hl, hlen, hf⟩ := DataW.trod_struct Go.Proofs.Try.underlying24 h
  match xs, hlen with
  | [x0, x1, x2], _ =>
  have f0 : DataW.trod enc Go.Proofs.Try.prog w base spare held n 22 ([c0, c1, c2].take (Go.Proofs.Try.prog.cellsOf 22)) = some x0 := hf 0 _ rfl
  have f1 : DataW.trod enc Go.Proofs.Try.prog w base spare held n 22 ([c1, c2].take (Go.Proofs.Try.prog.cellsOf 22)) = some x1 := hf 1 _ rfl
  have f2 : DataW.trod enc Go.Proofs.Try.prog w base spare held n 22 ([c2].take (Go.Proofs.Try.prog.cellsOf 22)) = some x2 := hf 2 _ rfl
  rw [cc22] at f0 f1 f2
  obtain ⟨p, e0, rfl, w0⟩ := field_int Go.Proofs.Try.underlying22 f0
  obtain ⟨q, e1, rfl, w1⟩ := field_int Go.Proofs.Try.underlying22 f1
  obtain ⟨g, e2, rfl, w2⟩ := field_int Go.Proofs.Try.underlying22 f2
  simp at e0 e1 e2
  subst e0 e1 e2
  exact ⟨p, q, g, rfl, rfl, rfl, rfl, w0, w1, w2⟩
theorem shut_group {n : Nat} {p q g : Int} (w0 : (Lit.int .u64 p).wf = true) (w1 : (Lit.int .u64 q).wf = true) (w2 : (Lit.int .u64 g).wf = true) :
    DataW.trod enc Go.Proofs.Try.prog w base spare held (n + 2) 24 [.int .u64 p, .int .u64 q, .int .u64 g] = some (grpD p q g, []) := by
  simp [DataW.trod, Go.Proofs.Try.underlying24, Go.Proofs.Try.underlying22, cc24, cc22, w0, w1, w2, grpD]
theorem open_scheme {b0 : Nat} {v : Value} {d : DataW H} {ps : List MemPlace} (hval : Value.okWide Go.Proofs.Try.prog w .any b0 26 v) (hd : DataW.Trod enc Go.Proofs.Try.prog w base spare held 26 v d ps) :
    ∃ (k : Nat) (a e p q g : Int), v = schV k a e p q g ∧ d = schD k a e p q g ∧ ps = [] ∧ (Lit.int .u8 k).wf = true ∧ (Lit.int .i64 a).wf = true ∧ (Lit.int .i64 e).wf = true ∧ (Lit.int .u64 p).wf = true ∧ (Lit.int .u64 q).wf = true ∧ (Lit.int .u64 g).wf = true := by
  unfold Value.okWide at hval
  rw [Go.Proofs.Try.underlying26] at hval
  obtain ⟨cs, rfl, hsz, _⟩ := hval
  rw [cc26] at hsz
  obtain ⟨fuel, h⟩ := hd
  obtain ⟨xs, n, _, hx, hl, hlen, hf⟩ := DataW.trod_struct Go.Proofs.Try.underlying26 h
  obtain ⟨l⟩ := cs
  match xs, hlen, l, hsz with
  | [x0, x1, x2, x3], _, [c0, c1, c2, c3, c4, c5], _ =>
  have f0 : DataW.trod enc Go.Proofs.Try.prog w base spare held n 5 ([c0, c1, c2, c3, c4, c5].take (Go.Proofs.Try.prog.cellsOf 5)) = some x0 := hf 0 _ rfl
  have f1 : DataW.trod enc Go.Proofs.Try.prog w base spare held n 3 ([c1, c2, c3, c4, c5].take (Go.Proofs.Try.prog.cellsOf 3)) = some x1 := hf 1 _ rfl
  have f2 : DataW.trod enc Go.Proofs.Try.prog w base spare held n 3 ([c2, c3, c4, c5].take (Go.Proofs.Try.prog.cellsOf 3)) = some x2 := hf 2 _ rfl
  have f3 : DataW.trod enc Go.Proofs.Try.prog w base spare held n 24 ([c3, c4, c5].take (Go.Proofs.Try.prog.cellsOf 24)) = some x3 := hf 3 _ rfl
  rw [cc5] at f0
  rw [cc3] at f1 f2
  rw [cc24] at f3
  obtain ⟨k, e0, rfl, w0⟩ := field_int Go.Proofs.Try.underlying5 f0
  obtain ⟨a, e1, rfl, w1⟩ := field_int Go.Proofs.Try.underlying3 f1
  obtain ⟨e, e2, rfl, w2⟩ := field_int Go.Proofs.Try.underlying3 f2
  simp [Value.cells] at e0 e1 e2
  subst e0 e1 e2
  obtain ⟨p, q, g, rfl, rfl, rfl, rfl, w3, w4, w5⟩ := open_group (show DataW.trod enc Go.Proofs.Try.prog w base spare held n 24 [c3, c4, c5] = some x3 from f3)
  obtain ⟨hx1, hx2⟩ := Prod.mk.inj hx
  obtain ⟨m, rfl⟩ : ∃ m : Nat, k = m := ⟨k.toNat, by have := bounds_u8 w0; omega⟩
  exact ⟨m, a, e, p, q, g, rfl, hx1, by simpa using hx2, w0, w1, w2, w3, w4, w5⟩
theorem shut_scheme {k a e p q g : Int} (w0 : (Lit.int .u8 k).wf = true) (w1 : (Lit.int .i64 a).wf = true) (w2 : (Lit.int .i64 e).wf = true) (w3 : (Lit.int .u64 p).wf = true) (w4 : (Lit.int .u64 q).wf = true) (w5 : (Lit.int .u64 g).wf = true) :
    DataW.Trod enc Go.Proofs.Try.prog w base spare held 26 (schV k a e p q g) (schD k a e p q g) [] := by
  refine ⟨4, ?_⟩
  have hg : DataW.trod enc Go.Proofs.Try.prog w base spare held 3 24 [.int .u64 p, .int .u64 q, .int .u64 g] = some (grpD p q g, []) := shut_group (n := 1) w3 w4 w5
  have h0 : DataW.trod enc Go.Proofs.Try.prog w base spare held 3 5 [.int .u8 k] = some (.lit (.int .u8 k), []) := by simp [DataW.trod, Go.Proofs.Try.underlying5, w0]
  have h1 : ∀ a : Int, (Lit.int .i64 a).wf = true → DataW.trod enc Go.Proofs.Try.prog w base spare held 3 3 [.int .i64 a] = some (.lit (.int .i64 a), []) := fun a wa => by simp [DataW.trod, Go.Proofs.Try.underlying3, wa]
  have := trod_struct_mk (enc := enc) (w := w) (base := base) (spare := spare) (held := held) (n := 3) (cs := [.int .u8 k, .int .i64 a, .int .i64 e, .int .u64 p, .int .u64 q, .int .u64 g]) (xs := [(.lit (.int .u8 k), []), (.lit (.int .i64 a), []), (.lit (.int .i64 e), []), (grpD p q g, [])]) Go.Proofs.Try.underlying26 (by rw [cc26]; rfl) (by
    simp only [List.mapM_cons, List.mapM_nil, cc5, cc3, cc24, List.drop_zero, List.drop_succ_cons, List.take_succ_cons, List.take_zero]
    rw [h0, h1 a w1, h1 e w2, hg]
    rfl)
  exact this
end
theorem kept_below {w w' : World} (hb : Below w.heap.size w w') (may : MemPlace → Prop) : w.keptBut w' may := by
  refine ⟨hb.os, hb.output, fun i hi => ?_⟩
  rw [hb.block i hi]
  exact (World.keptBut_refl w may).2.2 i hi
end Go.YtoeophdffhmpmaaE
namespace Go.Proofs.Ytoeophdffhmpmaa
open Go Go.RowKit Go.ChangeShapes Go.WideShapes Go.ChangeAt Go.YtoeophdffhmpmaaE

theorem own : ownKnob Try.prog.godebug = none := by kernel_rfl
theorem walkPlanWorsts (k : Nat) (a e p q g r : Int) (w : World) :
    Calls Try.prog 3 #[schV k a e p q g, .int .i64 r] w fun x w' => x = .returned (.bool true) ∧ Below w.heap.size w w' := by
  refine (PlanWorsts_pure k a e p q g r w (fun _ => False) _ (fun x hx => hx.elim) ⟨rfl, fun i hi => ?_⟩).mono fun x w' ⟨v, g', h1, h2, _, _, h3⟩ => ?_
  · match i, hi with
    | 0, _ =>
      refine VR.agg _ _ rfl fun j hj => ?_
      match j, hj with
      | 0, _ | 1, _ | 2, _ | 3, _ | 4, _ | 5, _ => exact VR.v _ rfl
    | 1, _ => exact VR.v _ rfl
  · cases h3
    exact ⟨h1, h2.be⟩
theorem lifted (os : Os) (started : os.Started) (H : Type) (enc : TypeId × Value → H) :
    ReturnsInHanded {} Try.checked os 3 .any (Rows.planWorstsSpec.pre6 enc Try.prog Try.f3 Rows.planWorstsRow.domain false) (Rows.planWorstsSpec.post enc Try.prog Try.f3 false true false false) := by
  refine returnsInHanded_of_change (C := Try.checked) own started (by kernel_rfl) Try.func3
    (ChangeSpec.witness6 (enc := enc) (C := Try.checked) false ⟨#[], #[schV 0 0 0 0 0 0, .int .i64 0], []⟩ 8 (by kernel_rfl) (by kernel_rfl) (by kernel_rfl) (by kernel_rfl)) ?_
  intro W base args ds gs before hval0 hW hcnd _
  have hval : ∀ (j : Nat) t v, Try.f3.params[j]? = some t → args[j]? = some v → Value.okWide Try.prog W .any base t v := hval0
  have hW' := hW
  obtain ⟨p, q, hA0, hV, rfl, hfz, hnd⟩ := hW
  have hA : DataW.TrodAll enc Try.prog W 0 (fun _ => true) true Try.f3.params.toList args.toList ds p := hA0
  rw [Try.params3] at hA hval
  obtain ⟨v0, vs0, d0, ds0, p0, q0, hargs, rfl, rfl, h0, r0⟩ := trodAll_cons hA
  obtain ⟨v1, vs1, d1, ds1, p1, q1, rfl, rfl, rfl, h1, r1⟩ := trodAll_cons r0
  obtain ⟨rfl, rfl, rfl⟩ := trodAll_nil r1
  obtain rfl : args = #[v0, v1] := by cases args; simp_all
  obtain ⟨rfl, rfl⟩ := trodVars_none hV
  obtain ⟨k, a, e, p, q, g, rfl, rfl, rfl, w0, w1, w2, w3, w4, w5⟩ := open_scheme (hval 0 26 v0 rfl rfl) h0
  obtain ⟨r, rfl, rfl, rfl, w6⟩ := open_int Try.underlying3 (hval 1 3 v1 rfl rfl) h1
  clear hA0 hval0
  simp only [List.append_nil] at hW'
  refine (walkPlanWorsts k a e p q g r W).mono fun x W' ⟨he, hb⟩ => ?_
  subst he
  refine ⟨_, rfl, _, _, _, [], [], [], hW', ?_, ?_, rfl, kept_below hb _, fun h => by cases h⟩
  · exact trodAll_cons_mk (shut_bool Try.underlying4 _) trodAll_mk0
  · exact trodAll_cons_mk (shut_scheme w0 w1 w2 w3 w4 w5) (trodAll_cons_mk (shut_int Try.underlying3 w6) trodAll_mk0)
theorem over : Rows.planWorstsRow.holds Try.pinned (OpenSpec.ofChange Rows.planWorstsSpec) :=
  OpenClaim.holds_of_wide 3 Try.f3 rfl rfl rfl rfl rfl rfl rfl ⟨rfl, rfl, rfl, rfl, rfl⟩ rfl rfl rfl rfl rfl (by kernel_rfl) Try.func3 (by kernel_rfl)
    (of_decide_eq_true (by kernel_rfl)) (by unfold Func.isWrapper; first | (rw [if_pos (by decide +kernel)]; kernel_rfl) | (rw [if_neg (by decide +kernel)]; exact ⟨rfl, rfl⟩))
    (fun os started H enc _ => lifted os started H enc)
theorem planWorsts_holds : Rows.PlanWorstsSaid := over
end Go.Proofs.Ytoeophdffhmpmaa
