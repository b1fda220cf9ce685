/- M2: Opening and shutting schemes; what lay stands. M3: Opening needs. -/
import Derived.Test.YtoeophdffhmpmaaChecked
import Derived.WalkKit
import Derived.ProofKit
import Derived.OpenShut
import Derived.Test.YtoeophdffhmpmaaG8

section
set_option linter.unusedVariables false
set_option linter.unusedSimpArgs false
set_option maxRecDepth 100000
namespace Go.YtoeophdffhmpmaaE
open Go Go.RowKit Go.ChangeShapes Go.WideShapes Go.ChangeAt

section
variable {H : Type} {enc : TypeId × Value → H} {w : World} {base : Nat} {spare : Nat → Bool} {held : Bool}
theorem cc22 : Go.Proofs.Try.prog.cellsOf 22 = 1 := by kernel_rfl
theorem cc24 : Go.Proofs.Try.prog.cellsOf 24 = 3 := by kernel_rfl
theorem cc26 : Go.Proofs.Try.prog.cellsOf 26 = 6 := by kernel_rfl
theorem cc3 : Go.Proofs.Try.prog.cellsOf 3 = 1 := by kernel_rfl
theorem cc5 : Go.Proofs.Try.prog.cellsOf 5 = 1 := by kernel_rfl
/-- An integer field of a struct. -/
theorem field_int {P : Program} {t : TypeId} {k : IntKind} {fuel : Nat} {cs : List Value} {x : DataW H × List MemPlace} (ht : P.underlying t = some (.int k)) (h : DataW.trod enc P w base spare held fuel t cs = some x) :
    ∃ n, cs = [.int k n] ∧ x = (.lit (.int k n), []) ∧ (Lit.int k n).wf = true := by
  obtain ⟨n, h1, h2, h3⟩ := DataW.trod_int ht h
  exact ⟨n, h1, h2, h3⟩
def grpD (p q g : Int) : DataW H := .agg [.lit (.int .u64 p), .lit (.int .u64 q), .lit (.int .u64 g)]
def schD (k d e p q g : Int) : DataW H := .agg [.lit (.int .u8 k), .lit (.int .i64 d), .lit (.int .i64 e), grpD p q g]
def schV (k d e p q g : Int) : Value := .agg #[.int .u8 k, .int .i64 d, .int .i64 e, .int .u64 p, .int .u64 q, .int .u64 g]
theorem open_group {fuel : Nat} {c0 c1 c2 : Value} {x : DataW H × List MemPlace} (h : DataW.trod enc Go.Proofs.Try.prog w base spare held fuel 24 [c0, c1, c2] = some x) :
    ∃ p q g, c0 = .int .u64 p ∧ c1 = .int .u64 q ∧ c2 = .int .u64 g ∧ x = (grpD p q g, []) ∧ (Lit.int .u64 p).wf = true ∧ (Lit.int .u64 q).wf = true ∧ (Lit.int .u64 g).wf = true := by
  obtain ⟨xs, n, _, rfl, hl, hlen, hf⟩ := DataW.trod_struct Go.Proofs.Try.underlying24 h
  match xs, hlen with
  | [x0, x1, x2], _ =>
  have f0 : DataW.trod enc Go.Proofs.Try.prog w base spare held n 22 ([c0, c1, c2].take (Go.Proofs.Try.prog.cellsOf 22)) = some x0 := hf 0 _ rfl
  have f1 : DataW.trod enc Go.Proofs.Try.prog w base spare held n 22 ([c1, c2].take (Go.Proofs.Try.prog.cellsOf 22)) = some x1 := hf 1 _ rfl
  have f2 : DataW.trod enc Go.Proofs.Try.prog w base spare held n 22 ([c2].take (Go.Proofs.Try.prog.cellsOf 22)) = some x2 := hf 2 _ rfl
  rw [cc22] at f0 f1 f2
  obtain ⟨p, e0, rfl, w0⟩ := field_int Go.Proofs.Try.underlying22 f0
  obtain ⟨q, e1, rfl, w1⟩ := field_int Go.Proofs.Try.underlying22 f1
  obtain ⟨g, e2, rfl, w2⟩ := field_int Go.Proofs.Try.underlying22 f2
  simp at e0 e1 e2
  subst e0 e1 e2
  exact ⟨p, q, g, rfl, rfl, rfl, rfl, w0, w1, w2⟩
theorem shut_group {n : Nat} {p q g : Int} (w0 : (Lit.int .u64 p).wf = true) (w1 : (Lit.int .u64 q).wf = true) (w2 : (Lit.int .u64 g).wf = true) :
    DataW.trod enc Go.Proofs.Try.prog w base spare held (n + 2) 24 [.int .u64 p, .int .u64 q, .int .u64 g] = some (grpD p q g, []) := by
  simp [DataW.trod, Go.Proofs.Try.underlying24, Go.Proofs.Try.underlying22, cc24, cc22, w0, w1, w2, grpD]
theorem open_scheme {b0 : Nat} {v : Value} {d : DataW H} {ps : List MemPlace} (hval : Value.okWide Go.Proofs.Try.prog w .any b0 26 v) (hd : DataW.Trod enc Go.Proofs.Try.prog w base spare held 26 v d ps) :
    ∃ (k : Nat) (a e p q g : Int), v = schV k a e p q g ∧ d = schD k a e p q g ∧ ps = [] ∧ (Lit.int .u8 k).wf = true ∧ (Lit.int .i64 a).wf = true ∧ (Lit.int .i64 e).wf = true ∧ (Lit.int .u64 p).wf = true ∧ (Lit.int .u64 q).wf = true ∧ (Lit.int .u64 g).wf = true := by
  unfold Value.okWide at hval
  rw [Go.Proofs.Try.underlying26] at hval
  obtain ⟨cs, rfl, hsz, _⟩ := hval
  rw [cc26] at hsz
  obtain ⟨fuel, h⟩ := hd
  obtain ⟨xs, n, _, hx, hl, hlen, hf⟩ := DataW.trod_struct Go.Proofs.Try.underlying26 h
  obtain ⟨l⟩ := cs
  match xs, hlen, l, hsz with
  | [x0, x1, x2, x3], _, [c0, c1, c2, c3, c4, c5], _ =>
  have f0 : DataW.trod enc Go.Proofs.Try.prog w base spare held n 5 ([c0, c1, c2, c3, c4, c5].take (Go.Proofs.Try.prog.cellsOf 5)) = some x0 := hf 0 _ rfl
  have f1 : DataW.trod enc Go.Proofs.Try.prog w base spare held n 3 ([c1, c2, c3, c4, c5].take (Go.Proofs.Try.prog.cellsOf 3)) = some x1 := hf 1 _ rfl
  have f2 : DataW.trod enc Go.Proofs.Try.prog w base spare held n 3 ([c2, c3, c4, c5].take (Go.Proofs.Try.prog.cellsOf 3)) = some x2 := hf 2 _ rfl
  have f3 : DataW.trod enc Go.Proofs.Try.prog w base spare held n 24 ([c3, c4, c5].take (Go.Proofs.Try.prog.cellsOf 24)) = some x3 := hf 3 _ rfl
  rw [cc5] at f0
  rw [cc3] at f1 f2
  rw [cc24] at f3
  obtain ⟨k, e0, rfl, w0⟩ := field_int Go.Proofs.Try.underlying5 f0
  obtain ⟨a, e1, rfl, w1⟩ := field_int Go.Proofs.Try.underlying3 f1
  obtain ⟨e, e2, rfl, w2⟩ := field_int Go.Proofs.Try.underlying3 f2
  simp [Value.cells] at e0 e1 e2
  subst e0 e1 e2
  obtain ⟨p, q, g, rfl, rfl, rfl, rfl, w3, w4, w5⟩ := open_group (show DataW.trod enc Go.Proofs.Try.prog w base spare held n 24 [c3, c4, c5] = some x3 from f3)
  obtain ⟨hx1, hx2⟩ := Prod.mk.inj hx
  obtain ⟨m, rfl⟩ : ∃ m : Nat, k = m := ⟨k.toNat, by have := bounds_u8 w0; omega⟩
  exact ⟨m, a, e, p, q, g, rfl, hx1, by simpa using hx2, w0, w1, w2, w3, w4, w5⟩
theorem shut_scheme {k a e p q g : Int} (w0 : (Lit.int .u8 k).wf = true) (w1 : (Lit.int .i64 a).wf = true) (w2 : (Lit.int .i64 e).wf = true) (w3 : (Lit.int .u64 p).wf = true) (w4 : (Lit.int .u64 q).wf = true) (w5 : (Lit.int .u64 g).wf = true) :
    DataW.Trod enc Go.Proofs.Try.prog w base spare held 26 (schV k a e p q g) (schD k a e p q g) [] := by
  refine ⟨4, ?_⟩
  have hg : DataW.trod enc Go.Proofs.Try.prog w base spare held 3 24 [.int .u64 p, .int .u64 q, .int .u64 g] = some (grpD p q g, []) := shut_group (n := 1) w3 w4 w5
  have h0 : DataW.trod enc Go.Proofs.Try.prog w base spare held 3 5 [.int .u8 k] = some (.lit (.int .u8 k), []) := by simp [DataW.trod, Go.Proofs.Try.underlying5, w0]
  have h1 : ∀ a : Int, (Lit.int .i64 a).wf = true → DataW.trod enc Go.Proofs.Try.prog w base spare held 3 3 [.int .i64 a] = some (.lit (.int .i64 a), []) := fun a wa => by simp [DataW.trod, Go.Proofs.Try.underlying3, wa]
  have := trod_struct_mk (enc := enc) (w := w) (base := base) (spare := spare) (held := held) (n := 3) (cs := [.int .u8 k, .int .i64 a, .int .i64 e, .int .u64 p, .int .u64 q, .int .u64 g]) (xs := [(.lit (.int .u8 k), []), (.lit (.int .i64 a), []), (.lit (.int .i64 e), []), (grpD p q g, [])]) Go.Proofs.Try.underlying26 (by rw [cc26]; rfl) (by
    simp only [List.mapM_cons, List.mapM_nil, cc5, cc3, cc24, List.drop_zero, List.drop_succ_cons, List.take_succ_cons, List.take_zero]
    rw [h0, h1 a w1, h1 e w2, hg]
    rfl)
  exact this
end
theorem kept_below {w w' : World} (hb : Below w.heap.size w w') (may : MemPlace → Prop) : w.keptBut w' may := by
  refine ⟨hb.os, hb.output, fun i hi => ?_⟩
  rw [hb.block i hi]
  exact (World.keptBut_refl w may).2.2 i hi
end Go.YtoeophdffhmpmaaE
namespace Go.Proofs.Ytoeophdffhmpmaa
open Go Go.RowKit Go.ChangeShapes Go.WideShapes Go.ChangeAt Go.YtoeophdffhmpmaaE

theorem own : ownKnob Try.prog.godebug = none := by kernel_rfl
theorem kidsP : Kids Try.prog (· < Try.prog.types.size) := kids_rows (by kernel_rfl) (by kernel_rfl)
theorem fullP : ∀ t e, t < Try.prog.types.size → Try.prog.underlying t = some (.slice e) → 0 < Try.prog.cellsOf e := slices_full_of Try.prog (by kernel_rfl)
end Go.Proofs.Ytoeophdffhmpmaa
end

section
set_option linter.unusedVariables false
set_option linter.unusedSimpArgs false
set_option maxRecDepth 100000
namespace Go.YtoeophdffhmpmaaE
open Go Go.RowKit Go.ChangeShapes Go.WideShapes Go.ChangeAt

section
variable {H : Type} {enc : TypeId × Value → H} {w : World} {base : Nat} {spare : Nat → Bool} {held : Bool}
theorem cc50 : Go.Proofs.Try.prog.cellsOf 50 = 9 := by kernel_rfl
def needV (d r s h hp sp p q g : Int) : Value := .agg #[.int .i64 d, .int .i64 r, .int .i64 s, .int .i64 h, .int .i64 hp, .int .i64 sp, .int .u64 p, .int .u64 q, .int .u64 g]
theorem open_need {b0 : Nat} {v : Value} {d : DataW H} {ps : List MemPlace} (hval : Value.okWide Go.Proofs.Try.prog w .any b0 50 v) (hd : DataW.Trod enc Go.Proofs.Try.prog w base spare held 50 v d ps) :
    ∃ (a1 a2 a3 a4 a5 a6 : Int) (p q g : Nat), v = needV a1 a2 a3 a4 a5 a6 p q g ∧ p < 18446744073709551616 ∧ q < 18446744073709551616 ∧ g < 18446744073709551616 := by
  unfold Value.okWide at hval
  rw [Go.Proofs.Try.underlying50] at hval
  obtain ⟨cs, rfl, hsz, _⟩ := hval
  rw [cc50] at hsz
  obtain ⟨fuel, h⟩ := hd
  obtain ⟨xs, n, _, hx, hl, hlen, hf⟩ := DataW.trod_struct Go.Proofs.Try.underlying50 h
  obtain ⟨l⟩ := cs
  match xs, hlen, l, hsz with
  | [x0, x1, x2, x3, x4, x5, x6], _, [c0, c1, c2, c3, c4, c5, c6, c7, c8], _ =>
  have f0 : DataW.trod enc Go.Proofs.Try.prog w base spare held n 3 ([c0, c1, c2, c3, c4, c5, c6, c7, c8].take (Go.Proofs.Try.prog.cellsOf 3)) = some x0 := hf 0 _ rfl
  have f1 : DataW.trod enc Go.Proofs.Try.prog w base spare held n 3 ([c1, c2, c3, c4, c5, c6, c7, c8].take (Go.Proofs.Try.prog.cellsOf 3)) = some x1 := hf 1 _ rfl
  have f2 : DataW.trod enc Go.Proofs.Try.prog w base spare held n 3 ([c2, c3, c4, c5, c6, c7, c8].take (Go.Proofs.Try.prog.cellsOf 3)) = some x2 := hf 2 _ rfl
  have f3 : DataW.trod enc Go.Proofs.Try.prog w base spare held n 3 ([c3, c4, c5, c6, c7, c8].take (Go.Proofs.Try.prog.cellsOf 3)) = some x3 := hf 3 _ rfl
  have f4 : DataW.trod enc Go.Proofs.Try.prog w base spare held n 3 ([c4, c5, c6, c7, c8].take (Go.Proofs.Try.prog.cellsOf 3)) = some x4 := hf 4 _ rfl
  have f5 : DataW.trod enc Go.Proofs.Try.prog w base spare held n 3 ([c5, c6, c7, c8].take (Go.Proofs.Try.prog.cellsOf 3)) = some x5 := hf 5 _ rfl
  have f6 : DataW.trod enc Go.Proofs.Try.prog w base spare held n 24 ([c6, c7, c8].take (Go.Proofs.Try.prog.cellsOf 24)) = some x6 := hf 6 _ rfl
  rw [cc3] at f0 f1 f2 f3 f4 f5
  rw [cc24] at f6
  obtain ⟨a1, e0, rfl, w0⟩ := field_int Go.Proofs.Try.underlying3 f0
  obtain ⟨a2, e1, rfl, w1⟩ := field_int Go.Proofs.Try.underlying3 f1
  obtain ⟨a3, e2, rfl, w2⟩ := field_int Go.Proofs.Try.underlying3 f2
  obtain ⟨a4, e3, rfl, w3⟩ := field_int Go.Proofs.Try.underlying3 f3
  obtain ⟨a5, e4, rfl, w4⟩ := field_int Go.Proofs.Try.underlying3 f4
  obtain ⟨a6, e5, rfl, w5⟩ := field_int Go.Proofs.Try.underlying3 f5
  simp [Value.cells] at e0 e1 e2 e3 e4 e5
  subst e0 e1 e2 e3 e4 e5
  obtain ⟨p, q, g, rfl, rfl, rfl, rfl, w6, w7, w8⟩ := open_group (show DataW.trod enc Go.Proofs.Try.prog w base spare held n 24 [c6, c7, c8] = some x6 from f6)
  have b6 := bounds_u64 w6
  have b7 := bounds_u64 w7
  have b8 := bounds_u64 w8
  obtain ⟨p, rfl⟩ : ∃ m : Nat, p = m := ⟨p.toNat, by omega⟩
  obtain ⟨q, rfl⟩ : ∃ m : Nat, q = m := ⟨q.toNat, by omega⟩
  obtain ⟨g, rfl⟩ : ∃ m : Nat, g = m := ⟨g.toNat, by omega⟩
  exact ⟨a1, a2, a3, a4, a5, a6, p, q, g, rfl, by omega, by omega, by omega⟩
end
end Go.YtoeophdffhmpmaaE
end
