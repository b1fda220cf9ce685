/- M2: Opening and shutting schemes; what lay stands. M3: Opening needs. T1: The tables of the 21 trees as literal lists. A1: headendlaw10.tree, small, worsts, alive. A2: headendlaw10.alive. A3: PlanGrows: the plain law, and the law's function. -/
import Derived.Test.YtoeophdffhmpmaaChecked
import Derived.WalkKit
import Derived.ProofKit
import Derived.OpenShut
import Derived.Test.YtoeophdffhmpmaaG8

section
set_option linter.unusedVariables false
set_option linter.unusedSimpArgs false
set_option maxRecDepth 100000
namespace Go.YtoeophdffhmpmaaE
open Go Go.RowKit Go.ChangeShapes Go.WideShapes Go.ChangeAt

section
variable {H : Type} {enc : TypeId × Value → H} {w : World} {base : Nat} {spare : Nat → Bool} {held : Bool}
theorem cc22 : Go.Proofs.Try.prog.cellsOf 22 = 1 := by kernel_rfl
theorem cc24 : Go.Proofs.Try.prog.cellsOf 24 = 3 := by kernel_rfl
theorem cc26 : Go.Proofs.Try.prog.cellsOf 26 = 6 := by kernel_rfl
theorem cc3 : Go.Proofs.Try.prog.cellsOf 3 = 1 := by kernel_rfl
theorem cc5 : Go.Proofs.Try.prog.cellsOf 5 = 1 := by kernel_rfl
/-- An integer field of a struct. -/
theorem field_int {P : Program} {t : TypeId} {k : IntKind} {fuel : Nat} {cs : List Value} {x : DataW H × List MemPlace} (ht : P.underlying t = some (.int k)) (h : DataW.trod enc P w base spare held fuel t cs = some x) :
    ∃ n, cs = [.int k n] ∧ x = (.lit (.int k n), []) ∧ (Lit.int k n).wf = true := by
  obtain ⟨n, h1, h2, h3⟩ := DataW.trod_int ht h
  exact ⟨n, h1, h2, h3⟩
def grpD (p q g : Int) : DataW H := .agg [.lit (.int .u64 p), .lit (.int .u64 q), .lit (.int .u64 g)]
def schD (k d e p q g : Int) : DataW H := .agg [.lit (.int .u8 k), .lit (.int .i64 d), .lit (.int .i64 e), grpD p q g]
def schV (k d e p q g : Int) : Value := .agg #[.int .u8 k, .int .i64 d, .int .i64 e, .int .u64 p, .int .u64 q, .int .u64 g]
theorem open_group {fuel : Nat} {c0 c1 c2 : Value} {x : DataW H × List MemPlace} (h : DataW.trod enc Go.Proofs.Try.prog w base spare held fuel 24 [c0, c1, c2] = some x) :
    ∃ p q g, c0 = .int .u64 p ∧ c1 = .int .u64 q ∧ c2 = .int .u64 g ∧ x = (grpD p q g, []) ∧ (Lit.int .u64 p).wf = true ∧ (Lit.int .u64 q).wf = true ∧ (Lit.int .u64 g).wf = true := by
  obtain ⟨xs, n, _, rfl, hl, hlen, hf⟩ := DataW.trod_struct Go.Proofs.Try.underlying24 h
  match xs, hlen with
  | [x0, x1, x2], _ =>
  have f0 : DataW.trod enc Go.Proofs.Try.prog w base spare held n 22 ([c0, c1, c2].take (Go.Proofs.Try.prog.cellsOf 22)) = some x0 := hf 0 _ rfl
  have f1 : DataW.trod enc Go.Proofs.Try.prog w base spare held n 22 ([c1, c2].take (Go.Proofs.Try.prog.cellsOf 22)) = some x1 := hf 1 _ rfl
  have f2 : DataW.trod enc Go.Proofs.Try.prog w base spare held n 22 ([c2].take (Go.Proofs.Try.prog.cellsOf 22)) = some x2 := hf 2 _ rfl
  rw [cc22] at f0 f1 f2
  obtain ⟨p, e0, rfl, w0⟩ := field_int Go.Proofs.Try.underlying22 f0
  obtain ⟨q, e1, rfl, w1⟩ := field_int Go.Proofs.Try.underlying22 f1
  obtain ⟨g, e2, rfl, w2⟩ := field_int Go.Proofs.Try.underlying22 f2
  simp at e0 e1 e2
  subst e0 e1 e2
  exact ⟨p, q, g, rfl, rfl, rfl, rfl, w0, w1, w2⟩
theorem shut_group {n : Nat} {p q g : Int} (w0 : (Lit.int .u64 p).wf = true) (w1 : (Lit.int .u64 q).wf = true) (w2 : (Lit.int .u64 g).wf = true) :
    DataW.trod enc Go.Proofs.Try.prog w base spare held (n + 2) 24 [.int .u64 p, .int .u64 q, .int .u64 g] = some (grpD p q g, []) := by
  simp [DataW.trod, Go.Proofs.Try.underlying24, Go.Proofs.Try.underlying22, cc24, cc22, w0, w1, w2, grpD]
theorem open_scheme {b0 : Nat} {v : Value} {d : DataW H} {ps : List MemPlace} (hval : Value.okWide Go.Proofs.Try.prog w .any b0 26 v) (hd : DataW.Trod enc Go.Proofs.Try.prog w base spare held 26 v d ps) :
    ∃ (k : Nat) (a e p q g : Int), v = schV k a e p q g ∧ d = schD k a e p q g ∧ ps = [] ∧ (Lit.int .u8 k).wf = true ∧ (Lit.int .i64 a).wf = true ∧ (Lit.int .i64 e).wf = true ∧ (Lit.int .u64 p).wf = true ∧ (Lit.int .u64 q).wf = true ∧ (Lit.int .u64 g).wf = true := by
  unfold Value.okWide at hval
  rw [Go.Proofs.Try.underlying26] at hval
  obtain ⟨cs, rfl, hsz, _⟩ := hval
  rw [cc26] at hsz
  obtain ⟨fuel, h⟩ := hd
  obtain ⟨xs, n, _, hx, hl, hlen, hf⟩ := DataW.trod_struct Go.Proofs.Try.underlying26 h
  obtain ⟨l⟩ := cs
  match xs, hlen, l, hsz with
  | [x0, x1, x2, x3], _, [c0, c1, c2, c3, c4, c5], _ =>
  have f0 : DataW.trod enc Go.Proofs.Try.prog w base spare held n 5 ([c0, c1, c2, c3, c4, c5].take (Go.Proofs.Try.prog.cellsOf 5)) = some x0 := hf 0 _ rfl
  have f1 : DataW.trod enc Go.Proofs.Try.prog w base spare held n 3 ([c1, c2, c3, c4, c5].take (Go.Proofs.Try.prog.cellsOf 3)) = some x1 := hf 1 _ rfl
  have f2 : DataW.trod enc Go.Proofs.Try.prog w base spare held n 3 ([c2, c3, c4, c5].take (Go.Proofs.Try.prog.cellsOf 3)) = some x2 := hf 2 _ rfl
  have f3 : DataW.trod enc Go.Proofs.Try.prog w base spare held n 24 ([c3, c4, c5].take (Go.Proofs.Try.prog.cellsOf 24)) = some x3 := hf 3 _ rfl
  rw [cc5] at f0
  rw [cc3] at f1 f2
  rw [cc24] at f3
  obtain ⟨k, e0, rfl, w0⟩ := field_int Go.Proofs.Try.underlying5 f0
  obtain ⟨a, e1, rfl, w1⟩ := field_int Go.Proofs.Try.underlying3 f1
  obtain ⟨e, e2, rfl, w2⟩ := field_int Go.Proofs.Try.underlying3 f2
  simp [Value.cells] at e0 e1 e2
  subst e0 e1 e2
  obtain ⟨p, q, g, rfl, rfl, rfl, rfl, w3, w4, w5⟩ := open_group (show DataW.trod enc Go.Proofs.Try.prog w base spare held n 24 [c3, c4, c5] = some x3 from f3)
  obtain ⟨hx1, hx2⟩ := Prod.mk.inj hx
  obtain ⟨m, rfl⟩ : ∃ m : Nat, k = m := ⟨k.toNat, by have := bounds_u8 w0; omega⟩
  exact ⟨m, a, e, p, q, g, rfl, hx1, by simpa using hx2, w0, w1, w2, w3, w4, w5⟩
theorem shut_scheme {k a e p q g : Int} (w0 : (Lit.int .u8 k).wf = true) (w1 : (Lit.int .i64 a).wf = true) (w2 : (Lit.int .i64 e).wf = true) (w3 : (Lit.int .u64 p).wf = true) (w4 : (Lit.int .u64 q).wf = true) (w5 : (Lit.int .u64 g).wf = true) :
    DataW.Trod enc Go.Proofs.Try.prog w base spare held 26 (schV k a e p q g) (schD k a e p q g) [] := by
  refine ⟨4, ?_⟩
  have hg : DataW.trod enc Go.Proofs.Try.prog w base spare held 3 24 [.int .u64 p, .int .u64 q, .int .u64 g] = some (grpD p q g, []) := shut_group (n := 1) w3 w4 w5
  have h0 : DataW.trod enc Go.Proofs.Try.prog w base spare held 3 5 [.int .u8 k] = some (.lit (.int .u8 k), []) := by simp [DataW.trod, Go.Proofs.Try.underlying5, w0]
  have h1 : ∀ a : Int, (Lit.int .i64 a).wf = true → DataW.trod enc Go.Proofs.Try.prog w base spare held 3 3 [.int .i64 a] = some (.lit (.int .i64 a), []) := fun a wa => by simp [DataW.trod, Go.Proofs.Try.underlying3, wa]
  have := trod_struct_mk (enc := enc) (w := w) (base := base) (spare := spare) (held := held) (n := 3) (cs := [.int .u8 k, .int .i64 a, .int .i64 e, .int .u64 p, .int .u64 q, .int .u64 g]) (xs := [(.lit (.int .u8 k), []), (.lit (.int .i64 a), []), (.lit (.int .i64 e), []), (grpD p q g, [])]) Go.Proofs.Try.underlying26 (by rw [cc26]; rfl) (by
    simp only [List.mapM_cons, List.mapM_nil, cc5, cc3, cc24, List.drop_zero, List.drop_succ_cons, List.take_succ_cons, List.take_zero]
    rw [h0, h1 a w1, h1 e w2, hg]
    rfl)
  exact this
end
theorem kept_below {w w' : World} (hb : Below w.heap.size w w') (may : MemPlace → Prop) : w.keptBut w' may := by
  refine ⟨hb.os, hb.output, fun i hi => ?_⟩
  rw [hb.block i hi]
  exact (World.keptBut_refl w may).2.2 i hi
end Go.YtoeophdffhmpmaaE
namespace Go.Proofs.Ytoeophdffhmpmaa
open Go Go.RowKit Go.ChangeShapes Go.WideShapes Go.ChangeAt Go.YtoeophdffhmpmaaE

theorem own : ownKnob Try.prog.godebug = none := by kernel_rfl
theorem kidsP : Kids Try.prog (· < Try.prog.types.size) := kids_rows (by kernel_rfl) (by kernel_rfl)
theorem fullP : ∀ t e, t < Try.prog.types.size → Try.prog.underlying t = some (.slice e) → 0 < Try.prog.cellsOf e := slices_full_of Try.prog (by kernel_rfl)
end Go.Proofs.Ytoeophdffhmpmaa
end

section
set_option linter.unusedVariables false
set_option linter.unusedSimpArgs false
set_option maxRecDepth 100000
namespace Go.YtoeophdffhmpmaaE
open Go Go.RowKit Go.ChangeShapes Go.WideShapes Go.ChangeAt

section
variable {H : Type} {enc : TypeId × Value → H} {w : World} {base : Nat} {spare : Nat → Bool} {held : Bool}
theorem cc50 : Go.Proofs.Try.prog.cellsOf 50 = 9 := by kernel_rfl
def needV (d r s h hp sp p q g : Int) : Value := .agg #[.int .i64 d, .int .i64 r, .int .i64 s, .int .i64 h, .int .i64 hp, .int .i64 sp, .int .u64 p, .int .u64 q, .int .u64 g]
theorem open_need {b0 : Nat} {v : Value} {d : DataW H} {ps : List MemPlace} (hval : Value.okWide Go.Proofs.Try.prog w .any b0 50 v) (hd : DataW.Trod enc Go.Proofs.Try.prog w base spare held 50 v d ps) :
    ∃ (a1 a2 a3 a4 a5 a6 : Int) (p q g : Nat), v = needV a1 a2 a3 a4 a5 a6 p q g ∧ p < 18446744073709551616 ∧ q < 18446744073709551616 ∧ g < 18446744073709551616 := by
  unfold Value.okWide at hval
  rw [Go.Proofs.Try.underlying50] at hval
  obtain ⟨cs, rfl, hsz, _⟩ := hval
  rw [cc50] at hsz
  obtain ⟨fuel, h⟩ := hd
  obtain ⟨xs, n, _, hx, hl, hlen, hf⟩ := DataW.trod_struct Go.Proofs.Try.underlying50 h
  obtain ⟨l⟩ := cs
  match xs, hlen, l, hsz with
  | [x0, x1, x2, x3, x4, x5, x6], _, [c0, c1, c2, c3, c4, c5, c6, c7, c8], _ =>
  have f0 : DataW.trod enc Go.Proofs.Try.prog w base spare held n 3 ([c0, c1, c2, c3, c4, c5, c6, c7, c8].take (Go.Proofs.Try.prog.cellsOf 3)) = some x0 := hf 0 _ rfl
  have f1 : DataW.trod enc Go.Proofs.Try.prog w base spare held n 3 ([c1, c2, c3, c4, c5, c6, c7, c8].take (Go.Proofs.Try.prog.cellsOf 3)) = some x1 := hf 1 _ rfl
  have f2 : DataW.trod enc Go.Proofs.Try.prog w base spare held n 3 ([c2, c3, c4, c5, c6, c7, c8].take (Go.Proofs.Try.prog.cellsOf 3)) = some x2 := hf 2 _ rfl
  have f3 : DataW.trod enc Go.Proofs.Try.prog w base spare held n 3 ([c3, c4, c5, c6, c7, c8].take (Go.Proofs.Try.prog.cellsOf 3)) = some x3 := hf 3 _ rfl
  have f4 : DataW.trod enc Go.Proofs.Try.prog w base spare held n 3 ([c4, c5, c6, c7, c8].take (Go.Proofs.Try.prog.cellsOf 3)) = some x4 := hf 4 _ rfl
  have f5 : DataW.trod enc Go.Proofs.Try.prog w base spare held n 3 ([c5, c6, c7, c8].take (Go.Proofs.Try.prog.cellsOf 3)) = some x5 := hf 5 _ rfl
  have f6 : DataW.trod enc Go.Proofs.Try.prog w base spare held n 24 ([c6, c7, c8].take (Go.Proofs.Try.prog.cellsOf 24)) = some x6 := hf 6 _ rfl
  rw [cc3] at f0 f1 f2 f3 f4 f5
  rw [cc24] at f6
  obtain ⟨a1, e0, rfl, w0⟩ := field_int Go.Proofs.Try.underlying3 f0
  obtain ⟨a2, e1, rfl, w1⟩ := field_int Go.Proofs.Try.underlying3 f1
  obtain ⟨a3, e2, rfl, w2⟩ := field_int Go.Proofs.Try.underlying3 f2
  obtain ⟨a4, e3, rfl, w3⟩ := field_int Go.Proofs.Try.underlying3 f3
  obtain ⟨a5, e4, rfl, w4⟩ := field_int Go.Proofs.Try.underlying3 f4
  obtain ⟨a6, e5, rfl, w5⟩ := field_int Go.Proofs.Try.underlying3 f5
  simp [Value.cells] at e0 e1 e2 e3 e4 e5
  subst e0 e1 e2 e3 e4 e5
  obtain ⟨p, q, g, rfl, rfl, rfl, rfl, w6, w7, w8⟩ := open_group (show DataW.trod enc Go.Proofs.Try.prog w base spare held n 24 [c6, c7, c8] = some x6 from f6)
  have b6 := bounds_u64 w6
  have b7 := bounds_u64 w7
  have b8 := bounds_u64 w8
  obtain ⟨p, rfl⟩ : ∃ m : Nat, p = m := ⟨p.toNat, by omega⟩
  obtain ⟨q, rfl⟩ : ∃ m : Nat, q = m := ⟨q.toNat, by omega⟩
  obtain ⟨g, rfl⟩ : ∃ m : Nat, g = m := ⟨g.toNat, by omega⟩
  exact ⟨a1, a2, a3, a4, a5, a6, p, q, g, rfl, by omega, by omega, by omega⟩
end
end Go.YtoeophdffhmpmaaE
end

section
set_option linter.unusedVariables false
set_option linter.unusedSimpArgs false
set_option maxRecDepth 100000
namespace Go.YtoeophdffhmpmaaE
open Go Go.RowKit

theorem lv_one (d g s : Nat) (F : List Int) (hF : lvl 1 d g 0 = F) : lvl 1 d (g + 1) s = 1 :: (List.range (2 ^ (g + 1))).map fun i => (bestZ 1 F [] 0 g (i + 1)).1 := by
  subst hF
  show (1 : Int) :: _ = _
  refine congrArg _ (List.map_congr_left fun i _ => ?_)
  unfold bestZ
  congr 1
theorem lv_succ (k d g s b : Nat) (F L : List Int) (hk : k ≠ 1) (hb : belowN k d s (g + 1) = b) (hF : lvl k d g 0 = F) (hL : lvl k d g b = L) :
    lvl k d (g + 1) s = 0 :: (List.range (2 ^ (g + 1))).map fun i => (bestZ k F L (moreZ s) g (i + 1)).1 := by
  subst hb hF hL
  show (if k = 1 then (1 : Int) else 0) :: _ = _
  rw [if_neg hk]
theorem lv1_0 (d : Nat) : lvl 1 d 0 0 = [1, 0] := rfl
theorem lv1_1 (d : Nat) : lvl 1 d 1 0 = [1, 1, 0] := (lv_one d 0 0 _ (lv1_0 d)).trans (by decide +kernel)
theorem lv1_2 (d : Nat) : lvl 1 d 2 0 = [1, 2, 2, 1, 0] := (lv_one d 1 0 _ (lv1_1 d)).trans (by decide +kernel)
theorem lv1_3 (d : Nat) : lvl 1 d 3 0 = [1, 3, 4, 4, 4, 3, 2, 1, 0] := (lv_one d 2 0 _ (lv1_2 d)).trans (by decide +kernel)
theorem lv1_4 (d : Nat) : lvl 1 d 4 0 = [1, 4, 6, 7, 8, 8, 8, 8, 8, 7, 6, 5, 4, 3, 2, 1, 0] := (lv_one d 3 0 _ (lv1_3 d)).trans (by decide +kernel)
theorem lv1_5 (d : Nat) : lvl 1 d 5 0 = [1, 5, 8, 10, 12, 13, 14, 15, 16, 16, 16, 16, 16, 16, 16, 16, 16, 15, 14, 13, 12, 11, 10, 9, 8, 7, 6, 5, 4, 3, 2, 1, 0] := (lv_one d 4 0 _ (lv1_4 d)).trans (by decide +kernel)
theorem lv1_6 (d : Nat) : lvl 1 d 6 0 = [1, 6, 10, 13, 16, 18, 20, 22, 24, 25, 26, 27, 28, 29, 30, 31, 32, 32, 32, 32, 32, 32, 32, 32, 32, 32, 32, 32, 32, 32, 32, 32, 32, 31, 30, 29, 28, 27, 26, 25, 24, 23, 22, 21, 20, 19, 18, 17, 16, 15, 14, 13, 12, 11, 10, 9, 8, 7, 6, 5, 4, 3, 2, 1, 0] := (lv_one d 5 0 _ (lv1_5 d)).trans (by decide +kernel)
theorem lv2_0_0 (d : Nat) : lvl 2 d 0 0 = [0, 0] := rfl
theorem lv2_0_1 (d : Nat) : lvl 2 d 0 1 = [0, 1] := rfl
theorem lv2_1_0 (d : Nat) : lvl 2 d 1 0 = [0, 1, 0] := (lv_succ 2 d 0 0 1 _ _ (by decide) rfl (lv2_0_0 d) (lv2_0_1 d)).trans (by decide +kernel)
theorem lv2_1_1 (d : Nat) : lvl 2 d 1 1 = [0, 1, 1] := (lv_succ 2 d 0 1 1 _ _ (by decide) rfl (lv2_0_0 d) (lv2_0_1 d)).trans (by decide +kernel)
theorem lv2_2_0 (d : Nat) : lvl 2 d 2 0 = [0, 1, 2, 1, 0] := (lv_succ 2 d 1 0 1 _ _ (by decide) rfl (lv2_1_0 d) (lv2_1_1 d)).trans (by decide +kernel)
theorem lv2_2_1 (d : Nat) : lvl 2 d 2 1 = [0, 1, 3, 2, 1] := (lv_succ 2 d 1 1 1 _ _ (by decide) rfl (lv2_1_0 d) (lv2_1_1 d)).trans (by decide +kernel)
theorem lv2_3_0 (d : Nat) : lvl 2 d 3 0 = [0, 1, 3, 3, 4, 3, 2, 1, 0] := (lv_succ 2 d 2 0 1 _ _ (by decide) rfl (lv2_2_0 d) (lv2_2_1 d)).trans (by decide +kernel)
theorem lv2_3_1 (d : Nat) : lvl 2 d 3 1 = [0, 1, 3, 4, 5, 4, 3, 2, 1] := (lv_succ 2 d 2 1 1 _ _ (by decide) rfl (lv2_2_0 d) (lv2_2_1 d)).trans (by decide +kernel)
theorem lv2_4_0 (d : Nat) : lvl 2 d 4 0 = [0, 1, 3, 4, 6, 6, 7, 7, 8, 7, 6, 5, 4, 3, 2, 1, 0] := (lv_succ 2 d 3 0 1 _ _ (by decide) rfl (lv2_3_0 d) (lv2_3_1 d)).trans (by decide +kernel)
theorem lv2_4_1 (d : Nat) : lvl 2 d 4 1 = [0, 1, 3, 5, 7, 7, 8, 8, 9, 8, 7, 6, 5, 4, 3, 2, 1] := (lv_succ 2 d 3 1 1 _ _ (by decide) rfl (lv2_3_0 d) (lv2_3_1 d)).trans (by decide +kernel)
theorem lv2_5_0 (d : Nat) : lvl 2 d 5 0 = [0, 1, 3, 5, 7, 7, 9, 10, 12, 12, 13, 13, 14, 14, 15, 15, 16, 15, 14, 13, 12, 11, 10, 9, 8, 7, 6, 5, 4, 3, 2, 1, 0] := (lv_succ 2 d 4 0 1 _ _ (by decide) rfl (lv2_4_0 d) (lv2_4_1 d)).trans (by decide +kernel)
theorem lv2_5_1 (d : Nat) : lvl 2 d 5 1 = [0, 1, 3, 5, 7, 8, 10, 11, 13, 13, 14, 14, 15, 15, 16, 16, 17, 16, 15, 14, 13, 12, 11, 10, 9, 8, 7, 6, 5, 4, 3, 2, 1] := (lv_succ 2 d 4 1 1 _ _ (by decide) rfl (lv2_4_0 d) (lv2_4_1 d)).trans (by decide +kernel)
theorem lv2_6_0 (d : Nat) : lvl 2 d 6 0 = [0, 1, 3, 5, 7, 8, 10, 12, 14, 14, 16, 17, 19, 19, 21, 22, 24, 24, 25, 25, 26, 26, 27, 27, 28, 28, 29, 29, 30, 30, 31, 31, 32, 31, 30, 29, 28, 27, 26, 25, 24, 23, 22, 21, 20, 19, 18, 17, 16, 15, 14, 13, 12, 11, 10, 9, 8, 7, 6, 5, 4, 3, 2, 1, 0] := (lv_succ 2 d 5 0 1 _ _ (by decide) rfl (lv2_5_0 d) (lv2_5_1 d)).trans (by decide +kernel)
theorem lv2_6_1 (d : Nat) : lvl 2 d 6 1 = [0, 1, 3, 5, 7, 9, 11, 13, 15, 15, 17, 18, 20, 20, 22, 23, 25, 25, 26, 26, 27, 27, 28, 28, 29, 29, 30, 30, 31, 31, 32, 32, 33, 32, 31, 30, 29, 28, 27, 26, 25, 24, 23, 22, 21, 20, 19, 18, 17, 16, 15, 14, 13, 12, 11, 10, 9, 8, 7, 6, 5, 4, 3, 2, 1] := (lv_succ 2 d 5 1 1 _ _ (by decide) rfl (lv2_5_0 d) (lv2_5_1 d)).trans (by decide +kernel)
theorem lv3_0_0_0 : lvl 3 0 0 0 = [0, 0] := rfl
theorem lv3_0_0_1 : lvl 3 0 0 1 = [0, 1] := rfl
theorem lv3_0_0_2 : lvl 3 0 0 2 = [0, 1] := rfl
theorem lv3_0_0_3 : lvl 3 0 0 3 = [0, 2] := rfl
theorem lv3_1_0_0 : lvl 3 1 0 0 = [0, 0] := rfl
theorem lv3_1_0_1 : lvl 3 1 0 1 = [0, 1] := rfl
theorem lv3_1_0_2 : lvl 3 1 0 2 = [0, 1] := rfl
theorem lv3_1_0_3 : lvl 3 1 0 3 = [0, 2] := rfl
theorem lv3_1_1_0 : lvl 3 1 1 0 = [0, 1, 0] := (lv_succ 3 1 0 0 1 _ _ (by decide) (by decide) lv3_1_0_0 lv3_1_0_1).trans (by decide +kernel)
theorem lv3_1_1_1 : lvl 3 1 1 1 = [0, 1, 1] := (lv_succ 3 1 0 1 1 _ _ (by decide) (by decide) lv3_1_0_0 lv3_1_0_1).trans (by decide +kernel)
theorem lv3_1_1_2 : lvl 3 1 1 2 = [0, 2, 1] := (lv_succ 3 1 0 2 3 _ _ (by decide) (by decide) lv3_1_0_0 lv3_1_0_3).trans (by decide +kernel)
theorem lv3_1_1_3 : lvl 3 1 1 3 = [0, 2, 2] := (lv_succ 3 1 0 3 3 _ _ (by decide) (by decide) lv3_1_0_0 lv3_1_0_3).trans (by decide +kernel)
theorem lv3_2_0_0 : lvl 3 2 0 0 = [0, 0] := rfl
theorem lv3_2_0_1 : lvl 3 2 0 1 = [0, 1] := rfl
theorem lv3_2_0_2 : lvl 3 2 0 2 = [0, 1] := rfl
theorem lv3_2_0_3 : lvl 3 2 0 3 = [0, 2] := rfl
theorem lv3_2_1_0 : lvl 3 2 1 0 = [0, 1, 0] := (lv_succ 3 2 0 0 2 _ _ (by decide) (by decide) lv3_2_0_0 lv3_2_0_2).trans (by decide +kernel)
theorem lv3_2_1_1 : lvl 3 2 1 1 = [0, 1, 1] := (lv_succ 3 2 0 1 1 _ _ (by decide) (by decide) lv3_2_0_0 lv3_2_0_1).trans (by decide +kernel)
theorem lv3_2_1_2 : lvl 3 2 1 2 = [0, 1, 1] := (lv_succ 3 2 0 2 2 _ _ (by decide) (by decide) lv3_2_0_0 lv3_2_0_2).trans (by decide +kernel)
theorem lv3_2_1_3 : lvl 3 2 1 3 = [0, 2, 2] := (lv_succ 3 2 0 3 3 _ _ (by decide) (by decide) lv3_2_0_0 lv3_2_0_3).trans (by decide +kernel)
theorem lv3_2_2_0 : lvl 3 2 2 0 = [0, 1, 2, 1, 0] := (lv_succ 3 2 1 0 1 _ _ (by decide) (by decide) lv3_2_1_0 lv3_2_1_1).trans (by decide +kernel)
theorem lv3_2_2_1 : lvl 3 2 2 1 = [0, 1, 3, 2, 1] := (lv_succ 3 2 1 1 1 _ _ (by decide) (by decide) lv3_2_1_0 lv3_2_1_1).trans (by decide +kernel)
theorem lv3_2_2_2 : lvl 3 2 2 2 = [0, 2, 3, 2, 1] := (lv_succ 3 2 1 2 3 _ _ (by decide) (by decide) lv3_2_1_0 lv3_2_1_3).trans (by decide +kernel)
theorem lv3_2_2_3 : lvl 3 2 2 3 = [0, 2, 4, 3, 2] := (lv_succ 3 2 1 3 3 _ _ (by decide) (by decide) lv3_2_1_0 lv3_2_1_3).trans (by decide +kernel)
theorem lv3_3_0_0 : lvl 3 3 0 0 = [0, 0] := rfl
theorem lv3_3_0_1 : lvl 3 3 0 1 = [0, 1] := rfl
theorem lv3_3_0_2 : lvl 3 3 0 2 = [0, 1] := rfl
theorem lv3_3_0_3 : lvl 3 3 0 3 = [0, 2] := rfl
theorem lv3_3_1_0 : lvl 3 3 1 0 = [0, 1, 0] := (lv_succ 3 3 0 0 1 _ _ (by decide) (by decide) lv3_3_0_0 lv3_3_0_1).trans (by decide +kernel)
theorem lv3_3_1_1 : lvl 3 3 1 1 = [0, 1, 1] := (lv_succ 3 3 0 1 1 _ _ (by decide) (by decide) lv3_3_0_0 lv3_3_0_1).trans (by decide +kernel)
theorem lv3_3_1_2 : lvl 3 3 1 2 = [0, 2, 1] := (lv_succ 3 3 0 2 3 _ _ (by decide) (by decide) lv3_3_0_0 lv3_3_0_3).trans (by decide +kernel)
theorem lv3_3_1_3 : lvl 3 3 1 3 = [0, 2, 2] := (lv_succ 3 3 0 3 3 _ _ (by decide) (by decide) lv3_3_0_0 lv3_3_0_3).trans (by decide +kernel)
theorem lv3_3_2_0 : lvl 3 3 2 0 = [0, 2, 2, 1, 0] := (lv_succ 3 3 1 0 2 _ _ (by decide) (by decide) lv3_3_1_0 lv3_3_1_2).trans (by decide +kernel)
theorem lv3_3_2_1 : lvl 3 3 2 1 = [0, 1, 3, 2, 1] := (lv_succ 3 3 1 1 1 _ _ (by decide) (by decide) lv3_3_1_0 lv3_3_1_1).trans (by decide +kernel)
theorem lv3_3_2_2 : lvl 3 3 2 2 = [0, 2, 3, 2, 1] := (lv_succ 3 3 1 2 2 _ _ (by decide) (by decide) lv3_3_1_0 lv3_3_1_2).trans (by decide +kernel)
theorem lv3_3_2_3 : lvl 3 3 2 3 = [0, 2, 4, 3, 2] := (lv_succ 3 3 1 3 3 _ _ (by decide) (by decide) lv3_3_1_0 lv3_3_1_3).trans (by decide +kernel)
theorem lv3_3_3_0 : lvl 3 3 3 0 = [0, 1, 4, 4, 4, 3, 2, 1, 0] := (lv_succ 3 3 2 0 1 _ _ (by decide) (by decide) lv3_3_2_0 lv3_3_2_1).trans (by decide +kernel)
theorem lv3_3_3_1 : lvl 3 3 3 1 = [0, 1, 5, 5, 5, 4, 3, 2, 1] := (lv_succ 3 3 2 1 1 _ _ (by decide) (by decide) lv3_3_2_0 lv3_3_2_1).trans (by decide +kernel)
theorem lv3_3_3_2 : lvl 3 3 3 2 = [0, 2, 5, 5, 5, 4, 3, 2, 1] := (lv_succ 3 3 2 2 3 _ _ (by decide) (by decide) lv3_3_2_0 lv3_3_2_3).trans (by decide +kernel)
theorem lv3_3_3_3 : lvl 3 3 3 3 = [0, 2, 6, 6, 6, 5, 4, 3, 2] := (lv_succ 3 3 2 3 3 _ _ (by decide) (by decide) lv3_3_2_0 lv3_3_2_3).trans (by decide +kernel)
theorem lv3_4_0_0 : lvl 3 4 0 0 = [0, 0] := rfl
theorem lv3_4_0_1 : lvl 3 4 0 1 = [0, 1] := rfl
theorem lv3_4_0_2 : lvl 3 4 0 2 = [0, 1] := rfl
theorem lv3_4_0_3 : lvl 3 4 0 3 = [0, 2] := rfl
theorem lv3_4_1_0 : lvl 3 4 1 0 = [0, 1, 0] := (lv_succ 3 4 0 0 2 _ _ (by decide) (by decide) lv3_4_0_0 lv3_4_0_2).trans (by decide +kernel)
theorem lv3_4_1_1 : lvl 3 4 1 1 = [0, 1, 1] := (lv_succ 3 4 0 1 1 _ _ (by decide) (by decide) lv3_4_0_0 lv3_4_0_1).trans (by decide +kernel)
theorem lv3_4_1_2 : lvl 3 4 1 2 = [0, 1, 1] := (lv_succ 3 4 0 2 2 _ _ (by decide) (by decide) lv3_4_0_0 lv3_4_0_2).trans (by decide +kernel)
theorem lv3_4_1_3 : lvl 3 4 1 3 = [0, 2, 2] := (lv_succ 3 4 0 3 3 _ _ (by decide) (by decide) lv3_4_0_0 lv3_4_0_3).trans (by decide +kernel)
theorem lv3_4_2_0 : lvl 3 4 2 0 = [0, 1, 2, 1, 0] := (lv_succ 3 4 1 0 1 _ _ (by decide) (by decide) lv3_4_1_0 lv3_4_1_1).trans (by decide +kernel)
theorem lv3_4_2_1 : lvl 3 4 2 1 = [0, 1, 3, 2, 1] := (lv_succ 3 4 1 1 1 _ _ (by decide) (by decide) lv3_4_1_0 lv3_4_1_1).trans (by decide +kernel)
theorem lv3_4_2_2 : lvl 3 4 2 2 = [0, 2, 3, 2, 1] := (lv_succ 3 4 1 2 3 _ _ (by decide) (by decide) lv3_4_1_0 lv3_4_1_3).trans (by decide +kernel)
theorem lv3_4_2_3 : lvl 3 4 2 3 = [0, 2, 4, 3, 2] := (lv_succ 3 4 1 3 3 _ _ (by decide) (by decide) lv3_4_1_0 lv3_4_1_3).trans (by decide +kernel)
theorem lv3_4_3_0 : lvl 3 4 3 0 = [0, 2, 3, 3, 4, 3, 2, 1, 0] := (lv_succ 3 4 2 0 2 _ _ (by decide) (by decide) lv3_4_2_0 lv3_4_2_2).trans (by decide +kernel)
theorem lv3_4_3_1 : lvl 3 4 3 1 = [0, 1, 3, 4, 5, 4, 3, 2, 1] := (lv_succ 3 4 2 1 1 _ _ (by decide) (by decide) lv3_4_2_0 lv3_4_2_1).trans (by decide +kernel)
theorem lv3_4_3_2 : lvl 3 4 3 2 = [0, 2, 3, 4, 5, 4, 3, 2, 1] := (lv_succ 3 4 2 2 2 _ _ (by decide) (by decide) lv3_4_2_0 lv3_4_2_2).trans (by decide +kernel)
theorem lv3_4_3_3 : lvl 3 4 3 3 = [0, 2, 4, 5, 6, 5, 4, 3, 2] := (lv_succ 3 4 2 3 3 _ _ (by decide) (by decide) lv3_4_2_0 lv3_4_2_3).trans (by decide +kernel)
theorem lv3_4_4_0 : lvl 3 4 4 0 = [0, 1, 4, 5, 6, 6, 7, 7, 8, 7, 6, 5, 4, 3, 2, 1, 0] := (lv_succ 3 4 3 0 1 _ _ (by decide) (by decide) lv3_4_3_0 lv3_4_3_1).trans (by decide +kernel)
theorem lv3_4_4_1 : lvl 3 4 4 1 = [0, 1, 5, 6, 7, 7, 8, 8, 9, 8, 7, 6, 5, 4, 3, 2, 1] := (lv_succ 3 4 3 1 1 _ _ (by decide) (by decide) lv3_4_3_0 lv3_4_3_1).trans (by decide +kernel)
theorem lv3_4_4_2 : lvl 3 4 4 2 = [0, 2, 5, 6, 7, 7, 8, 8, 9, 8, 7, 6, 5, 4, 3, 2, 1] := (lv_succ 3 4 3 2 3 _ _ (by decide) (by decide) lv3_4_3_0 lv3_4_3_3).trans (by decide +kernel)
theorem lv3_4_4_3 : lvl 3 4 4 3 = [0, 2, 6, 7, 8, 8, 9, 9, 10, 9, 8, 7, 6, 5, 4, 3, 2] := (lv_succ 3 4 3 3 3 _ _ (by decide) (by decide) lv3_4_3_0 lv3_4_3_3).trans (by decide +kernel)
theorem lv3_5_0_0 : lvl 3 5 0 0 = [0, 0] := rfl
theorem lv3_5_0_1 : lvl 3 5 0 1 = [0, 1] := rfl
theorem lv3_5_0_2 : lvl 3 5 0 2 = [0, 1] := rfl
theorem lv3_5_0_3 : lvl 3 5 0 3 = [0, 2] := rfl
theorem lv3_5_1_0 : lvl 3 5 1 0 = [0, 1, 0] := (lv_succ 3 5 0 0 2 _ _ (by decide) (by decide) lv3_5_0_0 lv3_5_0_2).trans (by decide +kernel)
theorem lv3_5_1_1 : lvl 3 5 1 1 = [0, 1, 1] := (lv_succ 3 5 0 1 1 _ _ (by decide) (by decide) lv3_5_0_0 lv3_5_0_1).trans (by decide +kernel)
theorem lv3_5_1_2 : lvl 3 5 1 2 = [0, 1, 1] := (lv_succ 3 5 0 2 2 _ _ (by decide) (by decide) lv3_5_0_0 lv3_5_0_2).trans (by decide +kernel)
theorem lv3_5_1_3 : lvl 3 5 1 3 = [0, 2, 2] := (lv_succ 3 5 0 3 3 _ _ (by decide) (by decide) lv3_5_0_0 lv3_5_0_3).trans (by decide +kernel)
theorem lv3_5_2_0 : lvl 3 5 2 0 = [0, 1, 2, 1, 0] := (lv_succ 3 5 1 0 1 _ _ (by decide) (by decide) lv3_5_1_0 lv3_5_1_1).trans (by decide +kernel)
theorem lv3_5_2_1 : lvl 3 5 2 1 = [0, 1, 3, 2, 1] := (lv_succ 3 5 1 1 1 _ _ (by decide) (by decide) lv3_5_1_0 lv3_5_1_1).trans (by decide +kernel)
theorem lv3_5_2_2 : lvl 3 5 2 2 = [0, 2, 3, 2, 1] := (lv_succ 3 5 1 2 3 _ _ (by decide) (by decide) lv3_5_1_0 lv3_5_1_3).trans (by decide +kernel)
theorem lv3_5_2_3 : lvl 3 5 2 3 = [0, 2, 4, 3, 2] := (lv_succ 3 5 1 3 3 _ _ (by decide) (by decide) lv3_5_1_0 lv3_5_1_3).trans (by decide +kernel)
theorem lv3_5_3_0 : lvl 3 5 3 0 = [0, 2, 3, 3, 4, 3, 2, 1, 0] := (lv_succ 3 5 2 0 2 _ _ (by decide) (by decide) lv3_5_2_0 lv3_5_2_2).trans (by decide +kernel)
theorem lv3_5_3_1 : lvl 3 5 3 1 = [0, 1, 3, 4, 5, 4, 3, 2, 1] := (lv_succ 3 5 2 1 1 _ _ (by decide) (by decide) lv3_5_2_0 lv3_5_2_1).trans (by decide +kernel)
theorem lv3_5_3_2 : lvl 3 5 3 2 = [0, 2, 3, 4, 5, 4, 3, 2, 1] := (lv_succ 3 5 2 2 2 _ _ (by decide) (by decide) lv3_5_2_0 lv3_5_2_2).trans (by decide +kernel)
theorem lv3_5_3_3 : lvl 3 5 3 3 = [0, 2, 4, 5, 6, 5, 4, 3, 2] := (lv_succ 3 5 2 3 3 _ _ (by decide) (by decide) lv3_5_2_0 lv3_5_2_3).trans (by decide +kernel)
theorem lv3_5_4_0 : lvl 3 5 4 0 = [0, 2, 4, 5, 6, 6, 7, 7, 8, 7, 6, 5, 4, 3, 2, 1, 0] := (lv_succ 3 5 3 0 2 _ _ (by decide) (by decide) lv3_5_3_0 lv3_5_3_2).trans (by decide +kernel)
theorem lv3_5_4_1 : lvl 3 5 4 1 = [0, 1, 5, 6, 7, 7, 8, 8, 9, 8, 7, 6, 5, 4, 3, 2, 1] := (lv_succ 3 5 3 1 1 _ _ (by decide) (by decide) lv3_5_3_0 lv3_5_3_1).trans (by decide +kernel)
theorem lv3_5_4_2 : lvl 3 5 4 2 = [0, 2, 5, 6, 7, 7, 8, 8, 9, 8, 7, 6, 5, 4, 3, 2, 1] := (lv_succ 3 5 3 2 2 _ _ (by decide) (by decide) lv3_5_3_0 lv3_5_3_2).trans (by decide +kernel)
theorem lv3_5_4_3 : lvl 3 5 4 3 = [0, 2, 6, 7, 8, 8, 9, 9, 10, 9, 8, 7, 6, 5, 4, 3, 2] := (lv_succ 3 5 3 3 3 _ _ (by decide) (by decide) lv3_5_3_0 lv3_5_3_3).trans (by decide +kernel)
theorem lv3_5_5_0 : lvl 3 5 5 0 = [0, 1, 5, 6, 8, 9, 10, 11, 12, 12, 13, 13, 14, 14, 15, 15, 16, 15, 14, 13, 12, 11, 10, 9, 8, 7, 6, 5, 4, 3, 2, 1, 0] := (lv_succ 3 5 4 0 1 _ _ (by decide) (by decide) lv3_5_4_0 lv3_5_4_1).trans (by decide +kernel)
theorem lv3_5_5_1 : lvl 3 5 5 1 = [0, 1, 5, 7, 9, 10, 11, 12, 13, 13, 14, 14, 15, 15, 16, 16, 17, 16, 15, 14, 13, 12, 11, 10, 9, 8, 7, 6, 5, 4, 3, 2, 1] := (lv_succ 3 5 4 1 1 _ _ (by decide) (by decide) lv3_5_4_0 lv3_5_4_1).trans (by decide +kernel)
theorem lv3_5_5_2 : lvl 3 5 5 2 = [0, 2, 6, 7, 9, 10, 11, 12, 13, 13, 14, 14, 15, 15, 16, 16, 17, 16, 15, 14, 13, 12, 11, 10, 9, 8, 7, 6, 5, 4, 3, 2, 1] := (lv_succ 3 5 4 2 3 _ _ (by decide) (by decide) lv3_5_4_0 lv3_5_4_3).trans (by decide +kernel)
theorem lv3_5_5_3 : lvl 3 5 5 3 = [0, 2, 6, 8, 10, 11, 12, 13, 14, 14, 15, 15, 16, 16, 17, 17, 18, 17, 16, 15, 14, 13, 12, 11, 10, 9, 8, 7, 6, 5, 4, 3, 2] := (lv_succ 3 5 4 3 3 _ _ (by decide) (by decide) lv3_5_4_0 lv3_5_4_3).trans (by decide +kernel)
theorem lv3_6_0_0 : lvl 3 6 0 0 = [0, 0] := rfl
theorem lv3_6_0_1 : lvl 3 6 0 1 = [0, 1] := rfl
theorem lv3_6_0_2 : lvl 3 6 0 2 = [0, 1] := rfl
theorem lv3_6_0_3 : lvl 3 6 0 3 = [0, 2] := rfl
theorem lv3_6_1_0 : lvl 3 6 1 0 = [0, 1, 0] := (lv_succ 3 6 0 0 2 _ _ (by decide) (by decide) lv3_6_0_0 lv3_6_0_2).trans (by decide +kernel)
theorem lv3_6_1_1 : lvl 3 6 1 1 = [0, 1, 1] := (lv_succ 3 6 0 1 1 _ _ (by decide) (by decide) lv3_6_0_0 lv3_6_0_1).trans (by decide +kernel)
theorem lv3_6_1_2 : lvl 3 6 1 2 = [0, 1, 1] := (lv_succ 3 6 0 2 2 _ _ (by decide) (by decide) lv3_6_0_0 lv3_6_0_2).trans (by decide +kernel)
theorem lv3_6_1_3 : lvl 3 6 1 3 = [0, 2, 2] := (lv_succ 3 6 0 3 3 _ _ (by decide) (by decide) lv3_6_0_0 lv3_6_0_3).trans (by decide +kernel)
theorem lv3_6_2_0 : lvl 3 6 2 0 = [0, 1, 2, 1, 0] := (lv_succ 3 6 1 0 2 _ _ (by decide) (by decide) lv3_6_1_0 lv3_6_1_2).trans (by decide +kernel)
theorem lv3_6_2_1 : lvl 3 6 2 1 = [0, 1, 3, 2, 1] := (lv_succ 3 6 1 1 1 _ _ (by decide) (by decide) lv3_6_1_0 lv3_6_1_1).trans (by decide +kernel)
theorem lv3_6_2_2 : lvl 3 6 2 2 = [0, 1, 3, 2, 1] := (lv_succ 3 6 1 2 2 _ _ (by decide) (by decide) lv3_6_1_0 lv3_6_1_2).trans (by decide +kernel)
theorem lv3_6_2_3 : lvl 3 6 2 3 = [0, 2, 4, 3, 2] := (lv_succ 3 6 1 3 3 _ _ (by decide) (by decide) lv3_6_1_0 lv3_6_1_3).trans (by decide +kernel)
theorem lv3_6_3_0 : lvl 3 6 3 0 = [0, 1, 3, 3, 4, 3, 2, 1, 0] := (lv_succ 3 6 2 0 1 _ _ (by decide) (by decide) lv3_6_2_0 lv3_6_2_1).trans (by decide +kernel)
theorem lv3_6_3_1 : lvl 3 6 3 1 = [0, 1, 3, 4, 5, 4, 3, 2, 1] := (lv_succ 3 6 2 1 1 _ _ (by decide) (by decide) lv3_6_2_0 lv3_6_2_1).trans (by decide +kernel)
theorem lv3_6_3_2 : lvl 3 6 3 2 = [0, 2, 4, 4, 5, 4, 3, 2, 1] := (lv_succ 3 6 2 2 3 _ _ (by decide) (by decide) lv3_6_2_0 lv3_6_2_3).trans (by decide +kernel)
theorem lv3_6_3_3 : lvl 3 6 3 3 = [0, 2, 4, 5, 6, 5, 4, 3, 2] := (lv_succ 3 6 2 3 3 _ _ (by decide) (by decide) lv3_6_2_0 lv3_6_2_3).trans (by decide +kernel)
theorem lv3_6_4_0 : lvl 3 6 4 0 = [0, 2, 4, 4, 6, 6, 7, 7, 8, 7, 6, 5, 4, 3, 2, 1, 0] := (lv_succ 3 6 3 0 2 _ _ (by decide) (by decide) lv3_6_3_0 lv3_6_3_2).trans (by decide +kernel)
theorem lv3_6_4_1 : lvl 3 6 4 1 = [0, 1, 3, 5, 7, 7, 8, 8, 9, 8, 7, 6, 5, 4, 3, 2, 1] := (lv_succ 3 6 3 1 1 _ _ (by decide) (by decide) lv3_6_3_0 lv3_6_3_1).trans (by decide +kernel)
theorem lv3_6_4_2 : lvl 3 6 4 2 = [0, 2, 4, 5, 7, 7, 8, 8, 9, 8, 7, 6, 5, 4, 3, 2, 1] := (lv_succ 3 6 3 2 2 _ _ (by decide) (by decide) lv3_6_3_0 lv3_6_3_2).trans (by decide +kernel)
theorem lv3_6_4_3 : lvl 3 6 4 3 = [0, 2, 4, 6, 8, 8, 9, 9, 10, 9, 8, 7, 6, 5, 4, 3, 2] := (lv_succ 3 6 3 3 3 _ _ (by decide) (by decide) lv3_6_3_0 lv3_6_3_3).trans (by decide +kernel)
theorem lv3_6_5_0 : lvl 3 6 5 0 = [0, 2, 4, 6, 8, 8, 10, 10, 12, 12, 13, 13, 14, 14, 15, 15, 16, 15, 14, 13, 12, 11, 10, 9, 8, 7, 6, 5, 4, 3, 2, 1, 0] := (lv_succ 3 6 4 0 2 _ _ (by decide) (by decide) lv3_6_4_0 lv3_6_4_2).trans (by decide +kernel)
theorem lv3_6_5_1 : lvl 3 6 5 1 = [0, 1, 5, 7, 9, 9, 11, 11, 13, 13, 14, 14, 15, 15, 16, 16, 17, 16, 15, 14, 13, 12, 11, 10, 9, 8, 7, 6, 5, 4, 3, 2, 1] := (lv_succ 3 6 4 1 1 _ _ (by decide) (by decide) lv3_6_4_0 lv3_6_4_1).trans (by decide +kernel)
theorem lv3_6_5_2 : lvl 3 6 5 2 = [0, 2, 5, 7, 9, 9, 11, 11, 13, 13, 14, 14, 15, 15, 16, 16, 17, 16, 15, 14, 13, 12, 11, 10, 9, 8, 7, 6, 5, 4, 3, 2, 1] := (lv_succ 3 6 4 2 2 _ _ (by decide) (by decide) lv3_6_4_0 lv3_6_4_2).trans (by decide +kernel)
theorem lv3_6_5_3 : lvl 3 6 5 3 = [0, 2, 6, 8, 10, 10, 12, 12, 14, 14, 15, 15, 16, 16, 17, 17, 18, 17, 16, 15, 14, 13, 12, 11, 10, 9, 8, 7, 6, 5, 4, 3, 2] := (lv_succ 3 6 4 3 3 _ _ (by decide) (by decide) lv3_6_4_0 lv3_6_4_3).trans (by decide +kernel)
theorem lv3_6_6_0 : lvl 3 6 6 0 = [0, 1, 5, 7, 9, 10, 12, 14, 16, 16, 18, 18, 20, 20, 22, 22, 24, 24, 25, 25, 26, 26, 27, 27, 28, 28, 29, 29, 30, 30, 31, 31, 32, 31, 30, 29, 28, 27, 26, 25, 24, 23, 22, 21, 20, 19, 18, 17, 16, 15, 14, 13, 12, 11, 10, 9, 8, 7, 6, 5, 4, 3, 2, 1, 0] := (lv_succ 3 6 5 0 1 _ _ (by decide) (by decide) lv3_6_5_0 lv3_6_5_1).trans (by decide +kernel)
theorem lv3_6_6_1 : lvl 3 6 6 1 = [0, 1, 5, 7, 9, 11, 13, 15, 17, 17, 19, 19, 21, 21, 23, 23, 25, 25, 26, 26, 27, 27, 28, 28, 29, 29, 30, 30, 31, 31, 32, 32, 33, 32, 31, 30, 29, 28, 27, 26, 25, 24, 23, 22, 21, 20, 19, 18, 17, 16, 15, 14, 13, 12, 11, 10, 9, 8, 7, 6, 5, 4, 3, 2, 1] := (lv_succ 3 6 5 1 1 _ _ (by decide) (by decide) lv3_6_5_0 lv3_6_5_1).trans (by decide +kernel)
theorem lv3_6_6_2 : lvl 3 6 6 2 = [0, 2, 6, 8, 10, 11, 13, 15, 17, 17, 19, 19, 21, 21, 23, 23, 25, 25, 26, 26, 27, 27, 28, 28, 29, 29, 30, 30, 31, 31, 32, 32, 33, 32, 31, 30, 29, 28, 27, 26, 25, 24, 23, 22, 21, 20, 19, 18, 17, 16, 15, 14, 13, 12, 11, 10, 9, 8, 7, 6, 5, 4, 3, 2, 1] := (lv_succ 3 6 5 2 3 _ _ (by decide) (by decide) lv3_6_5_0 lv3_6_5_3).trans (by decide +kernel)
theorem lv3_6_6_3 : lvl 3 6 6 3 = [0, 2, 6, 8, 10, 12, 14, 16, 18, 18, 20, 20, 22, 22, 24, 24, 26, 26, 27, 27, 28, 28, 29, 29, 30, 30, 31, 31, 32, 32, 33, 33, 34, 33, 32, 31, 30, 29, 28, 27, 26, 25, 24, 23, 22, 21, 20, 19, 18, 17, 16, 15, 14, 13, 12, 11, 10, 9, 8, 7, 6, 5, 4, 3, 2] := (lv_succ 3 6 5 3 3 _ _ (by decide) (by decide) lv3_6_5_0 lv3_6_5_3).trans (by decide +kernel)
end Go.YtoeophdffhmpmaaE
end

section
set_option linter.unusedVariables false
set_option linter.unusedSimpArgs false
set_option maxRecDepth 100000
set_option maxHeartbeats 1000000
namespace Go.YtoeophdffhmpmaaE
open Go Go.RowKit

theorem tree_pure (k : Nat) (d : Int) : Pure Go.Proofs.Try.prog 34 [.v (.int .u8 k), .v (.int .i64 d)] ⟨scheme k d 0 0 0 0, []⟩ := by
  refine pure_sz pf eqOk_none (env_ok [] rfl) fun _ => ⟨60, ?_⟩
  conv => whnf
  left
  conv => whnf
  try rfl
theorem small_pure : Pure Go.Proofs.Try.prog 37 [] ⟨needA 2 1 48 10 1 2 0 0 0, []⟩ := by
  refine pure_sz pf eqOk_none (env_ok [] rfl) fun _ => ⟨60, ?_⟩
  conv => whnf
  left
  conv => whnf
  try rfl
/-- The worst number out of the last row. -/
def wz (row : List Int) (r : Nat) : Int := (gr (fun k => if k = 0 then 1 else row.getD k 0) (r + 1) 0 0 0 true).1
theorem itZ_wz (kind d r : Nat) : itZ kind d r = wz (lvl kind d d 0) r := by
  unfold wz; rw [greatest_worst]; rfl
theorem worst_at (kind d r : Nat) (h1 : 1 ≤ kind) (h3 : kind ≤ 3) (hd : d ≤ 6) (hr : r ≤ 2 ^ d) :
    Pure Go.Proofs.Try.prog 14 [scheme kind d 0 0 0 0, .v (.int .i64 r)] ⟨.tup [.v (.int .i64 (itZ kind d r)), .v (.int .i64 0)], []⟩ := by
  have := Worst_pure kind d 0 0 0 0 r
  rw [wE_ok kind d r h1 h3 hd hr, wN_ok kind d r h1 h3 hd hr] at this
  exact this
theorem witness_at (kind d r : Nat) (h1 : 1 ≤ kind) (h3 : kind ≤ 3) (hd : d ≤ 6) (hr : r ≤ 2 ^ d) :
    Pure Go.Proofs.Try.prog 16 [scheme kind d 0 0 0 0, .v (.int .i64 r)] ⟨.tup [.ro (ints (wlZ kind d r)), .v (.int .i64 0)], []⟩ := by
  have := Witness_pure kind d 0 0 0 0 r
  rw [show wL kind d 0 0 0 0 r = wlZ kind d r from by unfold wL; rw [if_pos (wE_ok kind d r h1 h3 hd hr)]; rfl, wE_ok kind d r h1 h3 hd hr] at this
  exact this
theorem worsts_1 : Pure Go.Proofs.Try.prog 61 [scheme 1 2 0 0 0 0, .ro (ints [1, 2, 2, 2, 2])] ⟨.v (.bool true), []⟩ := by
  refine pure_sz pf eqOk_none (env_ok [14] rfl) fun _ => ⟨100, ?_⟩
  have h0 := worst_at 1 2 0 (by decide) (by decide) (by decide) (by decide)
  have h1 := worst_at 1 2 1 (by decide) (by decide) (by decide) (by decide)
  have h2 := worst_at 1 2 2 (by decide) (by decide) (by decide) (by decide)
  have h3 := worst_at 1 2 3 (by decide) (by decide) (by decide) (by decide)
  have h4 := worst_at 1 2 4 (by decide) (by decide) (by decide) (by decide)
  rw [show itZ 1 2 0 = 1 from by kernel_rfl] at h0
  rw [show itZ 1 2 1 = 2 from by kernel_rfl] at h1
  rw [show itZ 1 2 2 = 2 from by kernel_rfl] at h2
  rw [show itZ 1 2 3 = 2 from by kernel_rfl] at h3
  rw [show itZ 1 2 4 = 2 from by kernel_rfl] at h4
  conv => whnf
  repeat (first
    | (refine wk_none ?_; conv => whnf)
    | (refine ⟨_, h0, ?_⟩; conv => whnf)
    | (refine ⟨_, h1, ?_⟩; conv => whnf)
    | (refine ⟨_, h2, ?_⟩; conv => whnf)
    | (refine ⟨_, h3, ?_⟩; conv => whnf)
    | (refine ⟨_, h4, ?_⟩; conv => whnf)
    | (refine ⟨by decide, ?_⟩; conv => whnf))
  left
  conv => whnf
  try rfl
theorem worsts_2 : Pure Go.Proofs.Try.prog 61 [scheme 2 2 0 0 0 0, .ro (ints [1, 1, 2, 2, 2])] ⟨.v (.bool true), []⟩ := by
  refine pure_sz pf eqOk_none (env_ok [14] rfl) fun _ => ⟨100, ?_⟩
  have h0 := worst_at 2 2 0 (by decide) (by decide) (by decide) (by decide)
  have h1 := worst_at 2 2 1 (by decide) (by decide) (by decide) (by decide)
  have h2 := worst_at 2 2 2 (by decide) (by decide) (by decide) (by decide)
  have h3 := worst_at 2 2 3 (by decide) (by decide) (by decide) (by decide)
  have h4 := worst_at 2 2 4 (by decide) (by decide) (by decide) (by decide)
  rw [show itZ 2 2 0 = 1 from by kernel_rfl] at h0
  rw [show itZ 2 2 1 = 1 from by kernel_rfl] at h1
  rw [show itZ 2 2 2 = 2 from by kernel_rfl] at h2
  rw [show itZ 2 2 3 = 2 from by kernel_rfl] at h3
  rw [show itZ 2 2 4 = 2 from by kernel_rfl] at h4
  conv => whnf
  repeat (first
    | (refine wk_none ?_; conv => whnf)
    | (refine ⟨_, h0, ?_⟩; conv => whnf)
    | (refine ⟨_, h1, ?_⟩; conv => whnf)
    | (refine ⟨_, h2, ?_⟩; conv => whnf)
    | (refine ⟨_, h3, ?_⟩; conv => whnf)
    | (refine ⟨_, h4, ?_⟩; conv => whnf)
    | (refine ⟨by decide, ?_⟩; conv => whnf))
  left
  conv => whnf
  try rfl
end Go.YtoeophdffhmpmaaE
end

section
set_option linter.unusedVariables false
set_option linter.unusedSimpArgs false
set_option maxRecDepth 100000
set_option maxHeartbeats 1000000
namespace Go.YtoeophdffhmpmaaE
open Go Go.RowKit

def smallCh : Ch := ⟨1, true, 2, 0, 103, 48, 1414, [3]⟩
theorem alive_pure : Pure Go.Proofs.Try.prog 33 [] ⟨.v (.bool true), []⟩ := by
  refine pure_sz pf eqOk_none (env_ok [34, 37, 16, 25, 27, 18, 61, 31] rfl) fun _ => ⟨100, ?_⟩
  have t1 := tree_pure 1 2
  have t2 := tree_pure 2 2
  have w1 := witness_at 1 2 2 (by decide) (by decide) (by decide) (by decide)
  rw [show wlZ 1 2 2 = [3] from by kernel_rfl] at w1
  have w2 := witness_at 2 2 2 (by decide) (by decide) (by decide) (by decide)
  rw [show wlZ 2 2 2 = [1, 3] from by kernel_rfl] at w2
  have c1 := Choose_pure 2 1 48 10 1 2 0 0 0 1 (by decide) (by decide) (by decide)
  rw [show chF 2 1 48 10 1 2 0 0 0 1 = smallCh from by kernel_rfl, show chE 2 1 48 10 1 2 1 = 0 from by kernel_rfl] at c1
  have m1 := Make_pure 2 1 48 10 1 2 0 0 0 (by decide) (by decide) (by decide)
  rw [show mkB 2 1 48 10 1 2 0 0 0 = 1 from by kernel_rfl, show mkE 2 1 48 10 1 2 = 0 from by kernel_rfl] at m1
  have hl : (rowC (mkL 2 1 48 10 1 2 0 0 0)).length = 4 := by kernel_rfl
  generalize mkL 2 1 48 10 1 2 0 0 0 = L at *
  have s1 := sameInts_pure [3] [3]
  rw [decide_eq_true rfl] at s1
  have s2 := sameInts_pure [1, 3] [1, 3]
  rw [decide_eq_true rfl] at s2
  have sc := sameChoice_pure smallCh smallCh
  rw [chNum_refl, decide_eq_true rfl] at sc
  conv => whnf
  refine ⟨_, t1, ?_⟩
  conv => whnf
  refine ⟨_, w1, ?_⟩
  conv => whnf
  refine ⟨_, t2, ?_⟩
  conv => whnf
  refine ⟨_, w2, ?_⟩
  conv => whnf
  refine ⟨_, small_pure, ?_⟩
  conv => whnf
  refine ⟨_, c1, ?_⟩
  conv => whnf
  refine ⟨_, small_pure, ?_⟩
  conv => whnf
  refine ⟨_, m1, ?_⟩
  conv => whnf
  refine ⟨by decide, ?_⟩
  conv => whnf
  refine ⟨_, s1, ?_⟩
  conv => whnf
  refine ⟨by decide, ?_⟩
  conv => whnf
  refine ⟨_, s2, ?_⟩
  conv => whnf
  refine ⟨_, t1, ?_⟩
  conv => whnf
  refine ⟨by simp, ?_⟩
  conv => whnf
  refine ⟨_, worsts_1, ?_⟩
  conv => whnf
  refine ⟨_, t2, ?_⟩
  conv => whnf
  refine ⟨by simp, ?_⟩
  conv => whnf
  refine ⟨_, worsts_2, ?_⟩
  conv => whnf
  refine ⟨Nat.le_refl _, ?_⟩
  conv => whnf
  refine ⟨_, sc, ?_⟩
  conv => whnf
  rw [hl]
  conv => whnf
  left
  conv => whnf
  try rfl
end Go.YtoeophdffhmpmaaE
end

section
set_option linter.unusedVariables false
set_option linter.unusedSimpArgs false
set_option maxRecDepth 100000
set_option maxHeartbeats 1000000
namespace Go.YtoeophdffhmpmaaE
open Go Go.RowKit

def mx1 (x : Int) : Int := if x > 1 then x else 1
/-- What is asked of the worst numbers of a depth, up to some revoked receivers. -/
def growB (a b c : List Int) (d r : Nat) : Bool :=
  decide (wz a r ≤ mx1 (r * d)) && (decide (wz b r ≤ mx1 (2 * r - 1)) && (decide (wz b r ≤ wz c r) && (decide (wz c r ≤ 2 * wz b r) && (decide (wz b r ≤ wz a r) &&
    ((decide (r ≠ 0) || (decide (wz a r = 1) && (decide (wz b r = 1) && decide (wz c r = 1)))) &&
     (decide (wz a (r - 1) ≤ wz a r) && (decide (wz b (r - 1) ≤ wz b r) && decide (wz c (r - 1) ≤ wz c r))))))))
theorem grow_all {a b c : List Int} {d n : Nat} (h : (List.range n).all (growB a b c d) = true) (r : Nat) (hr : r < n) : growB a b c d r = true :=
  List.all_eq_true.1 h r (List.mem_range.2 hr)
theorem grows (d r : Nat) (hd : d ≤ 6) (hr : r ≤ 2 ^ d) : growB (lvl 1 d d 0) (lvl 2 d d 0) (lvl 3 d d 0) d r = true := by
  match d, hd with
  | 0, _ => rw [lv1_0, lv2_0_0, lv3_0_0_0]; exact grow_all (n := 2) (by decide +kernel) r (by omega)
  | 1, _ => rw [lv1_1, lv2_1_0, lv3_1_1_0]; exact grow_all (n := 3) (by decide +kernel) r (by omega)
  | 2, _ => rw [lv1_2, lv2_2_0, lv3_2_2_0]; exact grow_all (n := 5) (by decide +kernel) r (by omega)
  | 3, _ => rw [lv1_3, lv2_3_0, lv3_3_3_0]; exact grow_all (n := 9) (by decide +kernel) r (by omega)
  | 4, _ => rw [lv1_4, lv2_4_0, lv3_4_4_0]; exact grow_all (n := 17) (by decide +kernel) r (by omega)
  | 5, _ => rw [lv1_5, lv2_5_0, lv3_5_5_0]; exact grow_all (n := 33) (by decide +kernel) r (by omega)
  | 6, _ => rw [lv1_6, lv2_6_0, lv3_6_6_0]; exact grow_all (n := 65) (by decide +kernel) r (by omega)
theorem grows' (d r : Nat) (hd : d ≤ 6) (hr : r ≤ 2 ^ d) :
    itZ 1 d r ≤ mx1 (r * d) ∧ itZ 2 d r ≤ mx1 (2 * r - 1) ∧ itZ 2 d r ≤ itZ 3 d r ∧ itZ 3 d r ≤ 2 * itZ 2 d r ∧ itZ 2 d r ≤ itZ 1 d r ∧
    (r = 0 → itZ 1 d r = 1 ∧ itZ 2 d r = 1 ∧ itZ 3 d r = 1) ∧ itZ 1 d (r - 1) ≤ itZ 1 d r ∧ itZ 2 d (r - 1) ≤ itZ 2 d r ∧ itZ 3 d (r - 1) ≤ itZ 3 d r := by
  have h := grows d r hd hr
  unfold growB at h
  simp only [Bool.and_eq_true, Bool.or_eq_true, decide_eq_true_eq] at h
  obtain ⟨h1, h2, h3, h4, h5, h6, h7, h8, h9⟩ := h
  simp only [itZ_wz]
  exact ⟨h1, h2, h3, h4, h5, fun e => h6.elim (fun h => absurd e h) (fun h => h), h7, h8, h9⟩
theorem wE_kind (k : Nat) (depth r : Int) (h1 : 1 ≤ k) (h3 : k ≤ 3) : wE k depth 0 0 0 0 r = wE 1 depth 0 0 0 0 r := by
  have e : validB k depth 0 0 0 0 = validB 1 depth 0 0 0 0 := by
    unfold validB; rw [Bool.eq_iff_iff]; simp only [decide_eq_true_eq]
    constructor
    · rintro ⟨_, _, a, b, _⟩; simp; omega
    · rintro ⟨_, _, a, b, _⟩; simp; omega
  unfold wE
  rw [e]
theorem wE_yes {depth r : Int} (h : wE 1 depth 0 0 0 0 r = 0) : ∃ d k : Nat, depth = d ∧ r = k ∧ d ≤ 6 ∧ k ≤ 2 ^ d := by
  unfold wE at h
  split at h
  · rename_i hv
    simp only [validB, decide_eq_true_eq] at hv
    split at h
    · omega
    · rename_i hr
      exact ⟨depth.toNat, r.toNat, by omega, by omega, by omega, by omega⟩
  · omega
theorem PlanGrows_pure (depth r : Int) : Pure Go.Proofs.Try.prog 6 [.v (.int .i64 depth), .v (.int .i64 r)] ⟨.v (.bool true), []⟩ := by
  refine pure_sz pf eqOk_none (env_ok [33, 34, 14] rfl) fun _ => ⟨100, ?_⟩
  have t1 := tree_pure 1 depth
  have t2 := tree_pure 2 depth
  have t3 := tree_pure 3 depth
  by_cases hE : wE 1 depth 0 0 0 0 r = 0
  · obtain ⟨d, k, rfl, rfl, hd, hk⟩ := wE_yes hE
    have w1 := worst_at 1 d k (by decide) (by decide) hd hk
    have w2 := worst_at 2 d k (by decide) (by decide) hd hk
    have w3 := worst_at 3 d k (by decide) (by decide) hd hk
    obtain ⟨g1, g2, g3, g4, g5, g6, g7, g8, g9⟩ := grows' d k hd hk
    have b2 := itZ_bd 2 d k hd
    have hp := pow_le6 hd
    have hkd := mul_bd (a := (k : Int)) (b := (d : Int)) (A := 64) (B := 6) (by omega) (by omega) (by omega) (by omega)
    have m1 : IntKind.i64.wrap ((k : Int) * (d : Int)) = (k : Int) * (d : Int) := wrap64 (by omega) (by omega)
    have m2 : IntKind.i64.wrap (IntKind.i64.wrap (2 * (k : Int)) - 1) = 2 * (k : Int) - 1 := by rw [wrap64 (n := 2 * (k : Int)) (by omega) (by omega), wrap64 (by omega) (by omega)]
    have m3 : IntKind.i64.wrap (2 * itZ 2 d k) = 2 * itZ 2 d k := wrap64 (by omega) (by omega)
    generalize itZ 1 d k = a at *
    generalize itZ 2 d k = b at *
    generalize itZ 3 d k = c at *
    conv => whnf
    refine ⟨_, alive_pure, ?_⟩
    conv => whnf
    refine ⟨_, t1, ?_⟩
    conv => whnf
    refine ⟨_, w1, ?_⟩
    conv => whnf
    refine ⟨_, t2, ?_⟩
    conv => whnf
    refine ⟨_, w2, ?_⟩
    conv => whnf
    refine ⟨_, t3, ?_⟩
    conv => whnf
    refine ⟨_, w3, ?_⟩
    conv => whnf
    rw [m1]
    rw [show decide (a > if (k : Int) * (d : Int) > 1 then (k : Int) * (d : Int) else 1) = false by simp only [decide_eq_false_iff_not]; exact Int.not_lt.2 g1]
    conv => whnf
    rw [m2]
    rw [show decide (b > if 2 * (k : Int) - 1 > 1 then 2 * (k : Int) - 1 else 1) = false by simp only [decide_eq_false_iff_not]; exact Int.not_lt.2 g2]
    conv => whnf
    rw [show decide (c < b) = false by simp only [decide_eq_false_iff_not]; omega]
    conv => whnf
    rw [m3]
    rw [show decide (c > 2 * b) = false by simp only [decide_eq_false_iff_not]; omega]
    conv => whnf
    rw [show decide (b > a) = false by simp only [decide_eq_false_iff_not]; omega]
    conv => whnf
    refine cndK_intro (fun k0 => ?_) (fun k0 => ?_)
    · have hk0 : k = 0 := by have := eq_of_beq k0; omega
      obtain ⟨e1, e2, e3⟩ := g6 hk0
      conv => whnf
      rw [e1]
      conv => whnf
      rw [e2]
      conv => whnf
      rw [e3]
      conv => whnf
      left
      conv => whnf
      try rfl
    · have hk0 : k ≠ 0 := fun e => by subst e; simp at k0
      have km : IntKind.i64.wrap ((k : Int) - 1) = ((k - 1 : Nat) : Int) := by rw [wrap64 (by omega) (by omega)]; omega
      have v1 := worst_at 1 d (k - 1) (by decide) (by decide) hd (by omega)
      have v2 := worst_at 2 d (k - 1) (by decide) (by decide) hd (by omega)
      have v3 := worst_at 3 d (k - 1) (by decide) (by decide) hd (by omega)
      conv => whnf
      refine wk_none ?_
      conv => whnf
      refine ⟨by decide, ?_⟩
      conv => whnf
      refine ⟨_, t1, ?_⟩
      conv => whnf
      rw [km]
      refine ⟨_, v1, ?_⟩
      conv => whnf
      rw [show decide (itZ 1 d (k - 1) > a) = false by simp only [decide_eq_false_iff_not]; omega]
      conv => whnf
      refine wk_none ?_
      conv => whnf
      refine ⟨by decide, ?_⟩
      conv => whnf
      refine ⟨_, t2, ?_⟩
      conv => whnf
      rw [km]
      refine ⟨_, v2, ?_⟩
      conv => whnf
      rw [show decide (itZ 2 d (k - 1) > b) = false by simp only [decide_eq_false_iff_not]; omega]
      conv => whnf
      refine wk_none ?_
      conv => whnf
      refine ⟨by decide, ?_⟩
      conv => whnf
      refine ⟨_, t3, ?_⟩
      conv => whnf
      rw [km]
      refine ⟨_, v3, ?_⟩
      conv => whnf
      rw [show decide (itZ 3 d (k - 1) > c) = false by simp only [decide_eq_false_iff_not]; omega]
      conv => whnf
      refine wk_none ?_
      conv => whnf
      left
      conv => whnf
      try rfl
  · have w1 := Worst_pure 1 depth 0 0 0 0 r
    have w2 := Worst_pure 2 depth 0 0 0 0 r
    have w3 := Worst_pure 3 depth 0 0 0 0 r
    rw [wE_kind 2 depth r (by decide) (by decide)] at w2
    rw [wE_kind 3 depth r (by decide) (by decide)] at w3
    generalize wE 1 depth 0 0 0 0 r = e at *
    generalize wN 1 depth 0 0 0 0 r = a at *
    generalize wN 2 depth 0 0 0 0 r = b at *
    generalize wN 3 depth 0 0 0 0 r = c at *
    conv => whnf
    refine ⟨_, alive_pure, ?_⟩
    conv => whnf
    refine ⟨_, t1, ?_⟩
    conv => whnf
    refine ⟨_, w1, ?_⟩
    conv => whnf
    refine ⟨_, t2, ?_⟩
    conv => whnf
    refine ⟨_, w2, ?_⟩
    conv => whnf
    refine ⟨_, t3, ?_⟩
    conv => whnf
    refine ⟨_, w3, ?_⟩
    conv => whnf
    rw [show (e != 0) = true by simpa using hE]
    conv => whnf
    rw [show (e == e) = true by simp]
    conv => whnf
    rw [show (e == e) = true by simp]
    conv => whnf
    left
    conv => whnf
    try rfl
end Go.YtoeophdffhmpmaaE
end
