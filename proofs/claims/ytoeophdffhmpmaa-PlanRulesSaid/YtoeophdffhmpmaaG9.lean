/- M2: Opening and shutting schemes; what lay stands. M3: Opening needs. T1: The tables of the 21 trees as literal lists. A1: headendlaw10.tree, small, worsts, alive. A2: headendlaw10.alive. A6: Rules of the tables: no value is greater than its entry; the worst number is the greatest entry. A7: PlanRules: the loops. A8: PlanRules: the last loop, and the law's function. -/
import Derived.Test.YtoeophdffhmpmaaChecked
import Derived.WalkKit
import Derived.ProofKit
import Derived.OpenShut
import Derived.Test.YtoeophdffhmpmaaG8

section
set_option linter.unusedVariables false
set_option linter.unusedSimpArgs false
set_option maxRecDepth 100000
namespace Go.YtoeophdffhmpmaaE
open Go Go.RowKit Go.ChangeShapes Go.WideShapes Go.ChangeAt

section
variable {H : Type} {enc : TypeId × Value → H} {w : World} {base : Nat} {spare : Nat → Bool} {held : Bool}
theorem cc22 : Go.Proofs.Try.prog.cellsOf 22 = 1 := by kernel_rfl
theorem cc24 : Go.Proofs.Try.prog.cellsOf 24 = 3 := by kernel_rfl
theorem cc26 : Go.Proofs.Try.prog.cellsOf 26 = 6 := by kernel_rfl
theorem cc3 : Go.Proofs.Try.prog.cellsOf 3 = 1 := by kernel_rfl
theorem cc5 : Go.Proofs.Try.prog.cellsOf 5 = 1 := by kernel_rfl
/-- An integer field of a struct. -/
theorem field_int {P : Program} {t : TypeId} {k : IntKind} {fuel : Nat} {cs : List Value} {x : DataW H × List MemPlace} (ht : P.underlying t = some (.int k)) (h : DataW.trod enc P w base spare held fuel t cs = some x) :
    ∃ n, cs = [.int k n] ∧ x = (.lit (.int k n), []) ∧ (Lit.int k n).wf = true := by
  obtain ⟨n, h1, h2, h3⟩ := DataW.trod_int ht h
  exact ⟨n, h1, h2, h3⟩
def grpD (p q g : Int) : DataW H := .agg [.lit (.int .u64 p), .lit (.int .u64 q), .lit (.int .u64 g)]
def schD (k d e p q g : Int) : DataW H := .agg [.lit (.int .u8 k), .lit (.int .i64 d), .lit (.int .i64 e), grpD p q g]
def schV (k d e p q g : Int) : Value := .agg #[.int .u8 k, .int .i64 d, .int .i64 e, .int .u64 p, .int .u64 q, .int .u64 g]
theorem open_group {fuel : Nat} {c0 c1 c2 : Value} {x : DataW H × List MemPlace} (h : DataW.trod enc Go.Proofs.Try.prog w base spare held fuel 24 [c0, c1, c2] = some x) :
    ∃ p q g, c0 = .int .u64 p ∧ c1 = .int .u64 q ∧ c2 = .int .u64 g ∧ x = (grpD p q g, []) ∧ (Lit.int .u64 p).wf = true ∧ (Lit.int .u64 q).wf = true ∧ (Lit.int .u64 g).wf = true := by
  obtain ⟨xs, n, _, rfl, hl, hlen, hf⟩ := DataW.trod_struct Go.Proofs.Try.underlying24 h
  match xs, hlen with
  | [x0, x1, x2], _ =>
  have f0 : DataW.trod enc Go.Proofs.Try.prog w base spare held n 22 ([c0, c1, c2].take (Go.Proofs.Try.prog.cellsOf 22)) = some x0 := hf 0 _ rfl
  have f1 : DataW.trod enc Go.Proofs.Try.prog w base spare held n 22 ([c1, c2].take (Go.Proofs.Try.prog.cellsOf 22)) = some x1 := hf 1 _ rfl
  have f2 : DataW.trod enc Go.Proofs.Try.prog w base spare held n 22 ([c2].take (Go.Proofs.Try.prog.cellsOf 22)) = some x2 := hf 2 _ rfl
  rw [cc22] at f0 f1 f2
  obtain ⟨p, e0, rfl, w0⟩ := field_int Go.Proofs.Try.underlying22 f0
  obtain ⟨q, e1, rfl, w1⟩ := field_int Go.Proofs.Try.underlying22 f1
  obtain ⟨g, e2, rfl, w2⟩ := field_int Go.Proofs.Try.underlying22 f2
  simp at e0 e1 e2
  subst e0 e1 e2
  exact ⟨p, q, g, rfl, rfl, rfl, rfl, w0, w1, w2⟩
theorem shut_group {n : Nat} {p q g : Int} (w0 : (Lit.int .u64 p).wf = true) (w1 : (Lit.int .u64 q).wf = true) (w2 : (Lit.int .u64 g).wf = true) :
    DataW.trod enc Go.Proofs.Try.prog w base spare held (n + 2) 24 [.int .u64 p, .int .u64 q, .int .u64 g] = some (grpD p q g, []) := by
  simp [DataW.trod, Go.Proofs.Try.underlying24, Go.Proofs.Try.underlying22, cc24, cc22, w0, w1, w2, grpD]
theorem open_scheme {b0 : Nat} {v : Value} {d : DataW H} {ps : List MemPlace} (hval : Value.okWide Go.Proofs.Try.prog w .any b0 26 v) (hd : DataW.Trod enc Go.Proofs.Try.prog w base spare held 26 v d ps) :
    ∃ (k : Nat) (a e p q g : Int), v = schV k a e p q g ∧ d = schD k a e p q g ∧ ps = [] ∧ (Lit.int .u8 k).wf = true ∧ (Lit.int .i64 a).wf = true ∧ (Lit.int .i64 e).wf = true ∧ (Lit.int .u64 p).wf = true ∧ (Lit.int .u64 q).wf = true ∧ (Lit.int .u64 g).wf = true := by
  unfold Value.okWide at hval
  rw [Go.Proofs.Try.underlying26] at hval
  obtain ⟨cs, rfl, hsz, _⟩ := hval
  rw [cc26] at hsz
  obtain ⟨fuel, h⟩ := hd
  obtain ⟨xs, n, _, hx, hl, hlen, hf⟩ := DataW.trod_struct Go.Proofs.Try.underlying26 h
  obtain ⟨l⟩ := cs
  match xs, hlen, l, hsz with
  | [x0, x1, x2, x3], _, [c0, c1, c2, c3, c4, c5], _ =>
  have f0 : DataW.trod enc Go.Proofs.Try.prog w base spare held n 5 ([c0, c1, c2, c3, c4, c5].take (Go.Proofs.Try.prog.cellsOf 5)) = some x0 := hf 0 _ rfl
  have f1 : DataW.trod enc Go.Proofs.Try.prog w base spare held n 3 ([c1, c2, c3, c4, c5].take (Go.Proofs.Try.prog.cellsOf 3)) = some x1 := hf 1 _ rfl
  have f2 : DataW.trod enc Go.Proofs.Try.prog w base spare held n 3 ([c2, c3, c4, c5].take (Go.Proofs.Try.prog.cellsOf 3)) = some x2 := hf 2 _ rfl
  have f3 : DataW.trod enc Go.Proofs.Try.prog w base spare held n 24 ([c3, c4, c5].take (Go.Proofs.Try.prog.cellsOf 24)) = some x3 := hf 3 _ rfl
  rw [cc5] at f0
  rw [cc3] at f1 f2
  rw [cc24] at f3
  obtain ⟨k, e0, rfl, w0⟩ := field_int Go.Proofs.Try.underlying5 f0
  obtain ⟨a, e1, rfl, w1⟩ := field_int Go.Proofs.Try.underlying3 f1
  obtain ⟨e, e2, rfl, w2⟩ := field_int Go.Proofs.Try.underlying3 f2
  simp [Value.cells] at e0 e1 e2
  subst e0 e1 e2
  obtain ⟨p, q, g, rfl, rfl, rfl, rfl, w3, w4, w5⟩ := open_group (show DataW.trod enc Go.Proofs.Try.prog w base spare held n 24 [c3, c4, c5] = some x3 from f3)
  obtain ⟨hx1, hx2⟩ := Prod.mk.inj hx
  obtain ⟨m, rfl⟩ : ∃ m : Nat, k = m := ⟨k.toNat, by have := bounds_u8 w0; omega⟩
  exact ⟨m, a, e, p, q, g, rfl, hx1, by simpa using hx2, w0, w1, w2, w3, w4, w5⟩
theorem shut_scheme {k a e p q g : Int} (w0 : (Lit.int .u8 k).wf = true) (w1 : (Lit.int .i64 a).wf = true) (w2 : (Lit.int .i64 e).wf = true) (w3 : (Lit.int .u64 p).wf = true) (w4 : (Lit.int .u64 q).wf = true) (w5 : (Lit.int .u64 g).wf = true) :
    DataW.Trod enc Go.Proofs.Try.prog w base spare held 26 (schV k a e p q g) (schD k a e p q g) [] := by
  refine ⟨4, ?_⟩
  have hg : DataW.trod enc Go.Proofs.Try.prog w base spare held 3 24 [.int .u64 p, .int .u64 q, .int .u64 g] = some (grpD p q g, []) := shut_group (n := 1) w3 w4 w5
  have h0 : DataW.trod enc Go.Proofs.Try.prog w base spare held 3 5 [.int .u8 k] = some (.lit (.int .u8 k), []) := by simp [DataW.trod, Go.Proofs.Try.underlying5, w0]
  have h1 : ∀ a : Int, (Lit.int .i64 a).wf = true → DataW.trod enc Go.Proofs.Try.prog w base spare held 3 3 [.int .i64 a] = some (.lit (.int .i64 a), []) := fun a wa => by simp [DataW.trod, Go.Proofs.Try.underlying3, wa]
  have := trod_struct_mk (enc := enc) (w := w) (base := base) (spare := spare) (held := held) (n := 3) (cs := [.int .u8 k, .int .i64 a, .int .i64 e, .int .u64 p, .int .u64 q, .int .u64 g]) (xs := [(.lit (.int .u8 k), []), (.lit (.int .i64 a), []), (.lit (.int .i64 e), []), (grpD p q g, [])]) Go.Proofs.Try.underlying26 (by rw [cc26]; rfl) (by
    simp only [List.mapM_cons, List.mapM_nil, cc5, cc3, cc24, List.drop_zero, List.drop_succ_cons, List.take_succ_cons, List.take_zero]
    rw [h0, h1 a w1, h1 e w2, hg]
    rfl)
  exact this
end
theorem kept_below {w w' : World} (hb : Below w.heap.size w w') (may : MemPlace → Prop) : w.keptBut w' may := by
  refine ⟨hb.os, hb.output, fun i hi => ?_⟩
  rw [hb.block i hi]
  exact (World.keptBut_refl w may).2.2 i hi
end Go.YtoeophdffhmpmaaE
namespace Go.Proofs.Ytoeophdffhmpmaa
open Go Go.RowKit Go.ChangeShapes Go.WideShapes Go.ChangeAt Go.YtoeophdffhmpmaaE

theorem own : ownKnob Try.prog.godebug = none := by kernel_rfl
theorem kidsP : Kids Try.prog (· < Try.prog.types.size) := kids_rows (by kernel_rfl) (by kernel_rfl)
theorem fullP : ∀ t e, t < Try.prog.types.size → Try.prog.underlying t = some (.slice e) → 0 < Try.prog.cellsOf e := slices_full_of Try.prog (by kernel_rfl)
end Go.Proofs.Ytoeophdffhmpmaa
end

section
set_option linter.unusedVariables false
set_option linter.unusedSimpArgs false
set_option maxRecDepth 100000
namespace Go.YtoeophdffhmpmaaE
open Go Go.RowKit Go.ChangeShapes Go.WideShapes Go.ChangeAt

section
variable {H : Type} {enc : TypeId × Value → H} {w : World} {base : Nat} {spare : Nat → Bool} {held : Bool}
theorem cc50 : Go.Proofs.Try.prog.cellsOf 50 = 9 := by kernel_rfl
def needV (d r s h hp sp p q g : Int) : Value := .agg #[.int .i64 d, .int .i64 r, .int .i64 s, .int .i64 h, .int .i64 hp, .int .i64 sp, .int .u64 p, .int .u64 q, .int .u64 g]
theorem open_need {b0 : Nat} {v : Value} {d : DataW H} {ps : List MemPlace} (hval : Value.okWide Go.Proofs.Try.prog w .any b0 50 v) (hd : DataW.Trod enc Go.Proofs.Try.prog w base spare held 50 v d ps) :
    ∃ (a1 a2 a3 a4 a5 a6 : Int) (p q g : Nat), v = needV a1 a2 a3 a4 a5 a6 p q g ∧ p < 18446744073709551616 ∧ q < 18446744073709551616 ∧ g < 18446744073709551616 := by
  unfold Value.okWide at hval
  rw [Go.Proofs.Try.underlying50] at hval
  obtain ⟨cs, rfl, hsz, _⟩ := hval
  rw [cc50] at hsz
  obtain ⟨fuel, h⟩ := hd
  obtain ⟨xs, n, _, hx, hl, hlen, hf⟩ := DataW.trod_struct Go.Proofs.Try.underlying50 h
  obtain ⟨l⟩ := cs
  match xs, hlen, l, hsz with
  | [x0, x1, x2, x3, x4, x5, x6], _, [c0, c1, c2, c3, c4, c5, c6, c7, c8], _ =>
  have f0 : DataW.trod enc Go.Proofs.Try.prog w base spare held n 3 ([c0, c1, c2, c3, c4, c5, c6, c7, c8].take (Go.Proofs.Try.prog.cellsOf 3)) = some x0 := hf 0 _ rfl
  have f1 : DataW.trod enc Go.Proofs.Try.prog w base spare held n 3 ([c1, c2, c3, c4, c5, c6, c7, c8].take (Go.Proofs.Try.prog.cellsOf 3)) = some x1 := hf 1 _ rfl
  have f2 : DataW.trod enc Go.Proofs.Try.prog w base spare held n 3 ([c2, c3, c4, c5, c6, c7, c8].take (Go.Proofs.Try.prog.cellsOf 3)) = some x2 := hf 2 _ rfl
  have f3 : DataW.trod enc Go.Proofs.Try.prog w base spare held n 3 ([c3, c4, c5, c6, c7, c8].take (Go.Proofs.Try.prog.cellsOf 3)) = some x3 := hf 3 _ rfl
  have f4 : DataW.trod enc Go.Proofs.Try.prog w base spare held n 3 ([c4, c5, c6, c7, c8].take (Go.Proofs.Try.prog.cellsOf 3)) = some x4 := hf 4 _ rfl
  have f5 : DataW.trod enc Go.Proofs.Try.prog w base spare held n 3 ([c5, c6, c7, c8].take (Go.Proofs.Try.prog.cellsOf 3)) = some x5 := hf 5 _ rfl
  have f6 : DataW.trod enc Go.Proofs.Try.prog w base spare held n 24 ([c6, c7, c8].take (Go.Proofs.Try.prog.cellsOf 24)) = some x6 := hf 6 _ rfl
  rw [cc3] at f0 f1 f2 f3 f4 f5
  rw [cc24] at f6
  obtain ⟨a1, e0, rfl, w0⟩ := field_int Go.Proofs.Try.underlying3 f0
  obtain ⟨a2, e1, rfl, w1⟩ := field_int Go.Proofs.Try.underlying3 f1
  obtain ⟨a3, e2, rfl, w2⟩ := field_int Go.Proofs.Try.underlying3 f2
  obtain ⟨a4, e3, rfl, w3⟩ := field_int Go.Proofs.Try.underlying3 f3
  obtain ⟨a5, e4, rfl, w4⟩ := field_int Go.Proofs.Try.underlying3 f4
  obtain ⟨a6, e5, rfl, w5⟩ := field_int Go.Proofs.Try.underlying3 f5
  simp [Value.cells] at e0 e1 e2 e3 e4 e5
  subst e0 e1 e2 e3 e4 e5
  obtain ⟨p, q, g, rfl, rfl, rfl, rfl, w6, w7, w8⟩ := open_group (show DataW.trod enc Go.Proofs.Try.prog w base spare held n 24 [c6, c7, c8] = some x6 from f6)
  have b6 := bounds_u64 w6
  have b7 := bounds_u64 w7
  have b8 := bounds_u64 w8
  obtain ⟨p, rfl⟩ : ∃ m : Nat, p = m := ⟨p.toNat, by omega⟩
  obtain ⟨q, rfl⟩ : ∃ m : Nat, q = m := ⟨q.toNat, by omega⟩
  obtain ⟨g, rfl⟩ : ∃ m : Nat, g = m := ⟨g.toNat, by omega⟩
  exact ⟨a1, a2, a3, a4, a5, a6, p, q, g, rfl, by omega, by omega, by omega⟩
end
end Go.YtoeophdffhmpmaaE
end

section
set_option linter.unusedVariables false
set_option linter.unusedSimpArgs false
set_option maxRecDepth 100000
namespace Go.YtoeophdffhmpmaaE
open Go Go.RowKit

theorem lv_one (d g s : Nat) (F : List Int) (hF : lvl 1 d g 0 = F) : lvl 1 d (g + 1) s = 1 :: (List.range (2 ^ (g + 1))).map fun i => (bestZ 1 F [] 0 g (i + 1)).1 := by
  subst hF
  show (1 : Int) :: _ = _
  refine congrArg _ (List.map_congr_left fun i _ => ?_)
  unfold bestZ
  congr 1
theorem lv_succ (k d g s b : Nat) (F L : List Int) (hk : k ≠ 1) (hb : belowN k d s (g + 1) = b) (hF : lvl k d g 0 = F) (hL : lvl k d g b = L) :
    lvl k d (g + 1) s = 0 :: (List.range (2 ^ (g + 1))).map fun i => (bestZ k F L (moreZ s) g (i + 1)).1 := by
  subst hb hF hL
  show (if k = 1 then (1 : Int) else 0) :: _ = _
  rw [if_neg hk]
theorem lv1_0 (d : Nat) : lvl 1 d 0 0 = [1, 0] := rfl
theorem lv1_1 (d : Nat) : lvl 1 d 1 0 = [1, 1, 0] := (lv_one d 0 0 _ (lv1_0 d)).trans (by decide +kernel)
theorem lv1_2 (d : Nat) : lvl 1 d 2 0 = [1, 2, 2, 1, 0] := (lv_one d 1 0 _ (lv1_1 d)).trans (by decide +kernel)
theorem lv1_3 (d : Nat) : lvl 1 d 3 0 = [1, 3, 4, 4, 4, 3, 2, 1, 0] := (lv_one d 2 0 _ (lv1_2 d)).trans (by decide +kernel)
theorem lv1_4 (d : Nat) : lvl 1 d 4 0 = [1, 4, 6, 7, 8, 8, 8, 8, 8, 7, 6, 5, 4, 3, 2, 1, 0] := (lv_one d 3 0 _ (lv1_3 d)).trans (by decide +kernel)
theorem lv1_5 (d : Nat) : lvl 1 d 5 0 = [1, 5, 8, 10, 12, 13, 14, 15, 16, 16, 16, 16, 16, 16, 16, 16, 16, 15, 14, 13, 12, 11, 10, 9, 8, 7, 6, 5, 4, 3, 2, 1, 0] := (lv_one d 4 0 _ (lv1_4 d)).trans (by decide +kernel)
theorem lv1_6 (d : Nat) : lvl 1 d 6 0 = [1, 6, 10, 13, 16, 18, 20, 22, 24, 25, 26, 27, 28, 29, 30, 31, 32, 32, 32, 32, 32, 32, 32, 32, 32, 32, 32, 32, 32, 32, 32, 32, 32, 31, 30, 29, 28, 27, 26, 25, 24, 23, 22, 21, 20, 19, 18, 17, 16, 15, 14, 13, 12, 11, 10, 9, 8, 7, 6, 5, 4, 3, 2, 1, 0] := (lv_one d 5 0 _ (lv1_5 d)).trans (by decide +kernel)
theorem lv2_0_0 (d : Nat) : lvl 2 d 0 0 = [0, 0] := rfl
theorem lv2_0_1 (d : Nat) : lvl 2 d 0 1 = [0, 1] := rfl
theorem lv2_1_0 (d : Nat) : lvl 2 d 1 0 = [0, 1, 0] := (lv_succ 2 d 0 0 1 _ _ (by decide) rfl (lv2_0_0 d) (lv2_0_1 d)).trans (by decide +kernel)
theorem lv2_1_1 (d : Nat) : lvl 2 d 1 1 = [0, 1, 1] := (lv_succ 2 d 0 1 1 _ _ (by decide) rfl (lv2_0_0 d) (lv2_0_1 d)).trans (by decide +kernel)
theorem lv2_2_0 (d : Nat) : lvl 2 d 2 0 = [0, 1, 2, 1, 0] := (lv_succ 2 d 1 0 1 _ _ (by decide) rfl (lv2_1_0 d) (lv2_1_1 d)).trans (by decide +kernel)
theorem lv2_2_1 (d : Nat) : lvl 2 d 2 1 = [0, 1, 3, 2, 1] := (lv_succ 2 d 1 1 1 _ _ (by decide) rfl (lv2_1_0 d) (lv2_1_1 d)).trans (by decide +kernel)
theorem lv2_3_0 (d : Nat) : lvl 2 d 3 0 = [0, 1, 3, 3, 4, 3, 2, 1, 0] := (lv_succ 2 d 2 0 1 _ _ (by decide) rfl (lv2_2_0 d) (lv2_2_1 d)).trans (by decide +kernel)
theorem lv2_3_1 (d : Nat) : lvl 2 d 3 1 = [0, 1, 3, 4, 5, 4, 3, 2, 1] := (lv_succ 2 d 2 1 1 _ _ (by decide) rfl (lv2_2_0 d) (lv2_2_1 d)).trans (by decide +kernel)
theorem lv2_4_0 (d : Nat) : lvl 2 d 4 0 = [0, 1, 3, 4, 6, 6, 7, 7, 8, 7, 6, 5, 4, 3, 2, 1, 0] := (lv_succ 2 d 3 0 1 _ _ (by decide) rfl (lv2_3_0 d) (lv2_3_1 d)).trans (by decide +kernel)
theorem lv2_4_1 (d : Nat) : lvl 2 d 4 1 = [0, 1, 3, 5, 7, 7, 8, 8, 9, 8, 7, 6, 5, 4, 3, 2, 1] := (lv_succ 2 d 3 1 1 _ _ (by decide) rfl (lv2_3_0 d) (lv2_3_1 d)).trans (by decide +kernel)
theorem lv2_5_0 (d : Nat) : lvl 2 d 5 0 = [0, 1, 3, 5, 7, 7, 9, 10, 12, 12, 13, 13, 14, 14, 15, 15, 16, 15, 14, 13, 12, 11, 10, 9, 8, 7, 6, 5, 4, 3, 2, 1, 0] := (lv_succ 2 d 4 0 1 _ _ (by decide) rfl (lv2_4_0 d) (lv2_4_1 d)).trans (by decide +kernel)
theorem lv2_5_1 (d : Nat) : lvl 2 d 5 1 = [0, 1, 3, 5, 7, 8, 10, 11, 13, 13, 14, 14, 15, 15, 16, 16, 17, 16, 15, 14, 13, 12, 11, 10, 9, 8, 7, 6, 5, 4, 3, 2, 1] := (lv_succ 2 d 4 1 1 _ _ (by decide) rfl (lv2_4_0 d) (lv2_4_1 d)).trans (by decide +kernel)
theorem lv2_6_0 (d : Nat) : lvl 2 d 6 0 = [0, 1, 3, 5, 7, 8, 10, 12, 14, 14, 16, 17, 19, 19, 21, 22, 24, 24, 25, 25, 26, 26, 27, 27, 28, 28, 29, 29, 30, 30, 31, 31, 32, 31, 30, 29, 28, 27, 26, 25, 24, 23, 22, 21, 20, 19, 18, 17, 16, 15, 14, 13, 12, 11, 10, 9, 8, 7, 6, 5, 4, 3, 2, 1, 0] := (lv_succ 2 d 5 0 1 _ _ (by decide) rfl (lv2_5_0 d) (lv2_5_1 d)).trans (by decide +kernel)
theorem lv2_6_1 (d : Nat) : lvl 2 d 6 1 = [0, 1, 3, 5, 7, 9, 11, 13, 15, 15, 17, 18, 20, 20, 22, 23, 25, 25, 26, 26, 27, 27, 28, 28, 29, 29, 30, 30, 31, 31, 32, 32, 33, 32, 31, 30, 29, 28, 27, 26, 25, 24, 23, 22, 21, 20, 19, 18, 17, 16, 15, 14, 13, 12, 11, 10, 9, 8, 7, 6, 5, 4, 3, 2, 1] := (lv_succ 2 d 5 1 1 _ _ (by decide) rfl (lv2_5_0 d) (lv2_5_1 d)).trans (by decide +kernel)
theorem lv3_0_0_0 : lvl 3 0 0 0 = [0, 0] := rfl
theorem lv3_0_0_1 : lvl 3 0 0 1 = [0, 1] := rfl
theorem lv3_0_0_2 : lvl 3 0 0 2 = [0, 1] := rfl
theorem lv3_0_0_3 : lvl 3 0 0 3 = [0, 2] := rfl
theorem lv3_1_0_0 : lvl 3 1 0 0 = [0, 0] := rfl
theorem lv3_1_0_1 : lvl 3 1 0 1 = [0, 1] := rfl
theorem lv3_1_0_2 : lvl 3 1 0 2 = [0, 1] := rfl
theorem lv3_1_0_3 : lvl 3 1 0 3 = [0, 2] := rfl
theorem lv3_1_1_0 : lvl 3 1 1 0 = [0, 1, 0] := (lv_succ 3 1 0 0 1 _ _ (by decide) (by decide) lv3_1_0_0 lv3_1_0_1).trans (by decide +kernel)
theorem lv3_1_1_1 : lvl 3 1 1 1 = [0, 1, 1] := (lv_succ 3 1 0 1 1 _ _ (by decide) (by decide) lv3_1_0_0 lv3_1_0_1).trans (by decide +kernel)
theorem lv3_1_1_2 : lvl 3 1 1 2 = [0, 2, 1] := (lv_succ 3 1 0 2 3 _ _ (by decide) (by decide) lv3_1_0_0 lv3_1_0_3).trans (by decide +kernel)
theorem lv3_1_1_3 : lvl 3 1 1 3 = [0, 2, 2] := (lv_succ 3 1 0 3 3 _ _ (by decide) (by decide) lv3_1_0_0 lv3_1_0_3).trans (by decide +kernel)
theorem lv3_2_0_0 : lvl 3 2 0 0 = [0, 0] := rfl
theorem lv3_2_0_1 : lvl 3 2 0 1 = [0, 1] := rfl
theorem lv3_2_0_2 : lvl 3 2 0 2 = [0, 1] := rfl
theorem lv3_2_0_3 : lvl 3 2 0 3 = [0, 2] := rfl
theorem lv3_2_1_0 : lvl 3 2 1 0 = [0, 1, 0] := (lv_succ 3 2 0 0 2 _ _ (by decide) (by decide) lv3_2_0_0 lv3_2_0_2).trans (by decide +kernel)
theorem lv3_2_1_1 : lvl 3 2 1 1 = [0, 1, 1] := (lv_succ 3 2 0 1 1 _ _ (by decide) (by decide) lv3_2_0_0 lv3_2_0_1).trans (by decide +kernel)
theorem lv3_2_1_2 : lvl 3 2 1 2 = [0, 1, 1] := (lv_succ 3 2 0 2 2 _ _ (by decide) (by decide) lv3_2_0_0 lv3_2_0_2).trans (by decide +kernel)
theorem lv3_2_1_3 : lvl 3 2 1 3 = [0, 2, 2] := (lv_succ 3 2 0 3 3 _ _ (by decide) (by decide) lv3_2_0_0 lv3_2_0_3).trans (by decide +kernel)
theorem lv3_2_2_0 : lvl 3 2 2 0 = [0, 1, 2, 1, 0] := (lv_succ 3 2 1 0 1 _ _ (by decide) (by decide) lv3_2_1_0 lv3_2_1_1).trans (by decide +kernel)
theorem lv3_2_2_1 : lvl 3 2 2 1 = [0, 1, 3, 2, 1] := (lv_succ 3 2 1 1 1 _ _ (by decide) (by decide) lv3_2_1_0 lv3_2_1_1).trans (by decide +kernel)
theorem lv3_2_2_2 : lvl 3 2 2 2 = [0, 2, 3, 2, 1] := (lv_succ 3 2 1 2 3 _ _ (by decide) (by decide) lv3_2_1_0 lv3_2_1_3).trans (by decide +kernel)
theorem lv3_2_2_3 : lvl 3 2 2 3 = [0, 2, 4, 3, 2] := (lv_succ 3 2 1 3 3 _ _ (by decide) (by decide) lv3_2_1_0 lv3_2_1_3).trans (by decide +kernel)
theorem lv3_3_0_0 : lvl 3 3 0 0 = [0, 0] := rfl
theorem lv3_3_0_1 : lvl 3 3 0 1 = [0, 1] := rfl
theorem lv3_3_0_2 : lvl 3 3 0 2 = [0, 1] := rfl
theorem lv3_3_0_3 : lvl 3 3 0 3 = [0, 2] := rfl
theorem lv3_3_1_0 : lvl 3 3 1 0 = [0, 1, 0] := (lv_succ 3 3 0 0 1 _ _ (by decide) (by decide) lv3_3_0_0 lv3_3_0_1).trans (by decide +kernel)
theorem lv3_3_1_1 : lvl 3 3 1 1 = [0, 1, 1] := (lv_succ 3 3 0 1 1 _ _ (by decide) (by decide) lv3_3_0_0 lv3_3_0_1).trans (by decide +kernel)
theorem lv3_3_1_2 : lvl 3 3 1 2 = [0, 2, 1] := (lv_succ 3 3 0 2 3 _ _ (by decide) (by decide) lv3_3_0_0 lv3_3_0_3).trans (by decide +kernel)
theorem lv3_3_1_3 : lvl 3 3 1 3 = [0, 2, 2] := (lv_succ 3 3 0 3 3 _ _ (by decide) (by decide) lv3_3_0_0 lv3_3_0_3).trans (by decide +kernel)
theorem lv3_3_2_0 : lvl 3 3 2 0 = [0, 2, 2, 1, 0] := (lv_succ 3 3 1 0 2 _ _ (by decide) (by decide) lv3_3_1_0 lv3_3_1_2).trans (by decide +kernel)
theorem lv3_3_2_1 : lvl 3 3 2 1 = [0, 1, 3, 2, 1] := (lv_succ 3 3 1 1 1 _ _ (by decide) (by decide) lv3_3_1_0 lv3_3_1_1).trans (by decide +kernel)
theorem lv3_3_2_2 : lvl 3 3 2 2 = [0, 2, 3, 2, 1] := (lv_succ 3 3 1 2 2 _ _ (by decide) (by decide) lv3_3_1_0 lv3_3_1_2).trans (by decide +kernel)
theorem lv3_3_2_3 : lvl 3 3 2 3 = [0, 2, 4, 3, 2] := (lv_succ 3 3 1 3 3 _ _ (by decide) (by decide) lv3_3_1_0 lv3_3_1_3).trans (by decide +kernel)
theorem lv3_3_3_0 : lvl 3 3 3 0 = [0, 1, 4, 4, 4, 3, 2, 1, 0] := (lv_succ 3 3 2 0 1 _ _ (by decide) (by decide) lv3_3_2_0 lv3_3_2_1).trans (by decide +kernel)
theorem lv3_3_3_1 : lvl 3 3 3 1 = [0, 1, 5, 5, 5, 4, 3, 2, 1] := (lv_succ 3 3 2 1 1 _ _ (by decide) (by decide) lv3_3_2_0 lv3_3_2_1).trans (by decide +kernel)
theorem lv3_3_3_2 : lvl 3 3 3 2 = [0, 2, 5, 5, 5, 4, 3, 2, 1] := (lv_succ 3 3 2 2 3 _ _ (by decide) (by decide) lv3_3_2_0 lv3_3_2_3).trans (by decide +kernel)
theorem lv3_3_3_3 : lvl 3 3 3 3 = [0, 2, 6, 6, 6, 5, 4, 3, 2] := (lv_succ 3 3 2 3 3 _ _ (by decide) (by decide) lv3_3_2_0 lv3_3_2_3).trans (by decide +kernel)
theorem lv3_4_0_0 : lvl 3 4 0 0 = [0, 0] := rfl
theorem lv3_4_0_1 : lvl 3 4 0 1 = [0, 1] := rfl
theorem lv3_4_0_2 : lvl 3 4 0 2 = [0, 1] := rfl
theorem lv3_4_0_3 : lvl 3 4 0 3 = [0, 2] := rfl
theorem lv3_4_1_0 : lvl 3 4 1 0 = [0, 1, 0] := (lv_succ 3 4 0 0 2 _ _ (by decide) (by decide) lv3_4_0_0 lv3_4_0_2).trans (by decide +kernel)
theorem lv3_4_1_1 : lvl 3 4 1 1 = [0, 1, 1] := (lv_succ 3 4 0 1 1 _ _ (by decide) (by decide) lv3_4_0_0 lv3_4_0_1).trans (by decide +kernel)
theorem lv3_4_1_2 : lvl 3 4 1 2 = [0, 1, 1] := (lv_succ 3 4 0 2 2 _ _ (by decide) (by decide) lv3_4_0_0 lv3_4_0_2).trans (by decide +kernel)
theorem lv3_4_1_3 : lvl 3 4 1 3 = [0, 2, 2] := (lv_succ 3 4 0 3 3 _ _ (by decide) (by decide) lv3_4_0_0 lv3_4_0_3).trans (by decide +kernel)
theorem lv3_4_2_0 : lvl 3 4 2 0 = [0, 1, 2, 1, 0] := (lv_succ 3 4 1 0 1 _ _ (by decide) (by decide) lv3_4_1_0 lv3_4_1_1).trans (by decide +kernel)
theorem lv3_4_2_1 : lvl 3 4 2 1 = [0, 1, 3, 2, 1] := (lv_succ 3 4 1 1 1 _ _ (by decide) (by decide) lv3_4_1_0 lv3_4_1_1).trans (by decide +kernel)
theorem lv3_4_2_2 : lvl 3 4 2 2 = [0, 2, 3, 2, 1] := (lv_succ 3 4 1 2 3 _ _ (by decide) (by decide) lv3_4_1_0 lv3_4_1_3).trans (by decide +kernel)
theorem lv3_4_2_3 : lvl 3 4 2 3 = [0, 2, 4, 3, 2] := (lv_succ 3 4 1 3 3 _ _ (by decide) (by decide) lv3_4_1_0 lv3_4_1_3).trans (by decide +kernel)
theorem lv3_4_3_0 : lvl 3 4 3 0 = [0, 2, 3, 3, 4, 3, 2, 1, 0] := (lv_succ 3 4 2 0 2 _ _ (by decide) (by decide) lv3_4_2_0 lv3_4_2_2).trans (by decide +kernel)
theorem lv3_4_3_1 : lvl 3 4 3 1 = [0, 1, 3, 4, 5, 4, 3, 2, 1] := (lv_succ 3 4 2 1 1 _ _ (by decide) (by decide) lv3_4_2_0 lv3_4_2_1).trans (by decide +kernel)
theorem lv3_4_3_2 : lvl 3 4 3 2 = [0, 2, 3, 4, 5, 4, 3, 2, 1] := (lv_succ 3 4 2 2 2 _ _ (by decide) (by decide) lv3_4_2_0 lv3_4_2_2).trans (by decide +kernel)
theorem lv3_4_3_3 : lvl 3 4 3 3 = [0, 2, 4, 5, 6, 5, 4, 3, 2] := (lv_succ 3 4 2 3 3 _ _ (by decide) (by decide) lv3_4_2_0 lv3_4_2_3).trans (by decide +kernel)
theorem lv3_4_4_0 : lvl 3 4 4 0 = [0, 1, 4, 5, 6, 6, 7, 7, 8, 7, 6, 5, 4, 3, 2, 1, 0] := (lv_succ 3 4 3 0 1 _ _ (by decide) (by decide) lv3_4_3_0 lv3_4_3_1).trans (by decide +kernel)
theorem lv3_4_4_1 : lvl 3 4 4 1 = [0, 1, 5, 6, 7, 7, 8, 8, 9, 8, 7, 6, 5, 4, 3, 2, 1] := (lv_succ 3 4 3 1 1 _ _ (by decide) (by decide) lv3_4_3_0 lv3_4_3_1).trans (by decide +kernel)
theorem lv3_4_4_2 : lvl 3 4 4 2 = [0, 2, 5, 6, 7, 7, 8, 8, 9, 8, 7, 6, 5, 4, 3, 2, 1] := (lv_succ 3 4 3 2 3 _ _ (by decide) (by decide) lv3_4_3_0 lv3_4_3_3).trans (by decide +kernel)
theorem lv3_4_4_3 : lvl 3 4 4 3 = [0, 2, 6, 7, 8, 8, 9, 9, 10, 9, 8, 7, 6, 5, 4, 3, 2] := (lv_succ 3 4 3 3 3 _ _ (by decide) (by decide) lv3_4_3_0 lv3_4_3_3).trans (by decide +kernel)
theorem lv3_5_0_0 : lvl 3 5 0 0 = [0, 0] := rfl
theorem lv3_5_0_1 : lvl 3 5 0 1 = [0, 1] := rfl
theorem lv3_5_0_2 : lvl 3 5 0 2 = [0, 1] := rfl
theorem lv3_5_0_3 : lvl 3 5 0 3 = [0, 2] := rfl
theorem lv3_5_1_0 : lvl 3 5 1 0 = [0, 1, 0] := (lv_succ 3 5 0 0 2 _ _ (by decide) (by decide) lv3_5_0_0 lv3_5_0_2).trans (by decide +kernel)
theorem lv3_5_1_1 : lvl 3 5 1 1 = [0, 1, 1] := (lv_succ 3 5 0 1 1 _ _ (by decide) (by decide) lv3_5_0_0 lv3_5_0_1).trans (by decide +kernel)
theorem lv3_5_1_2 : lvl 3 5 1 2 = [0, 1, 1] := (lv_succ 3 5 0 2 2 _ _ (by decide) (by decide) lv3_5_0_0 lv3_5_0_2).trans (by decide +kernel)
theorem lv3_5_1_3 : lvl 3 5 1 3 = [0, 2, 2] := (lv_succ 3 5 0 3 3 _ _ (by decide) (by decide) lv3_5_0_0 lv3_5_0_3).trans (by decide +kernel)
theorem lv3_5_2_0 : lvl 3 5 2 0 = [0, 1, 2, 1, 0] := (lv_succ 3 5 1 0 1 _ _ (by decide) (by decide) lv3_5_1_0 lv3_5_1_1).trans (by decide +kernel)
theorem lv3_5_2_1 : lvl 3 5 2 1 = [0, 1, 3, 2, 1] := (lv_succ 3 5 1 1 1 _ _ (by decide) (by decide) lv3_5_1_0 lv3_5_1_1).trans (by decide +kernel)
theorem lv3_5_2_2 : lvl 3 5 2 2 = [0, 2, 3, 2, 1] := (lv_succ 3 5 1 2 3 _ _ (by decide) (by decide) lv3_5_1_0 lv3_5_1_3).trans (by decide +kernel)
theorem lv3_5_2_3 : lvl 3 5 2 3 = [0, 2, 4, 3, 2] := (lv_succ 3 5 1 3 3 _ _ (by decide) (by decide) lv3_5_1_0 lv3_5_1_3).trans (by decide +kernel)
theorem lv3_5_3_0 : lvl 3 5 3 0 = [0, 2, 3, 3, 4, 3, 2, 1, 0] := (lv_succ 3 5 2 0 2 _ _ (by decide) (by decide) lv3_5_2_0 lv3_5_2_2).trans (by decide +kernel)
theorem lv3_5_3_1 : lvl 3 5 3 1 = [0, 1, 3, 4, 5, 4, 3, 2, 1] := (lv_succ 3 5 2 1 1 _ _ (by decide) (by decide) lv3_5_2_0 lv3_5_2_1).trans (by decide +kernel)
theorem lv3_5_3_2 : lvl 3 5 3 2 = [0, 2, 3, 4, 5, 4, 3, 2, 1] := (lv_succ 3 5 2 2 2 _ _ (by decide) (by decide) lv3_5_2_0 lv3_5_2_2).trans (by decide +kernel)
theorem lv3_5_3_3 : lvl 3 5 3 3 = [0, 2, 4, 5, 6, 5, 4, 3, 2] := (lv_succ 3 5 2 3 3 _ _ (by decide) (by decide) lv3_5_2_0 lv3_5_2_3).trans (by decide +kernel)
theorem lv3_5_4_0 : lvl 3 5 4 0 = [0, 2, 4, 5, 6, 6, 7, 7, 8, 7, 6, 5, 4, 3, 2, 1, 0] := (lv_succ 3 5 3 0 2 _ _ (by decide) (by decide) lv3_5_3_0 lv3_5_3_2).trans (by decide +kernel)
theorem lv3_5_4_1 : lvl 3 5 4 1 = [0, 1, 5, 6, 7, 7, 8, 8, 9, 8, 7, 6, 5, 4, 3, 2, 1] := (lv_succ 3 5 3 1 1 _ _ (by decide) (by decide) lv3_5_3_0 lv3_5_3_1).trans (by decide +kernel)
theorem lv3_5_4_2 : lvl 3 5 4 2 = [0, 2, 5, 6, 7, 7, 8, 8, 9, 8, 7, 6, 5, 4, 3, 2, 1] := (lv_succ 3 5 3 2 2 _ _ (by decide) (by decide) lv3_5_3_0 lv3_5_3_2).trans (by decide +kernel)
theorem lv3_5_4_3 : lvl 3 5 4 3 = [0, 2, 6, 7, 8, 8, 9, 9, 10, 9, 8, 7, 6, 5, 4, 3, 2] := (lv_succ 3 5 3 3 3 _ _ (by decide) (by decide) lv3_5_3_0 lv3_5_3_3).trans (by decide +kernel)
theorem lv3_5_5_0 : lvl 3 5 5 0 = [0, 1, 5, 6, 8, 9, 10, 11, 12, 12, 13, 13, 14, 14, 15, 15, 16, 15, 14, 13, 12, 11, 10, 9, 8, 7, 6, 5, 4, 3, 2, 1, 0] := (lv_succ 3 5 4 0 1 _ _ (by decide) (by decide) lv3_5_4_0 lv3_5_4_1).trans (by decide +kernel)
theorem lv3_5_5_1 : lvl 3 5 5 1 = [0, 1, 5, 7, 9, 10, 11, 12, 13, 13, 14, 14, 15, 15, 16, 16, 17, 16, 15, 14, 13, 12, 11, 10, 9, 8, 7, 6, 5, 4, 3, 2, 1] := (lv_succ 3 5 4 1 1 _ _ (by decide) (by decide) lv3_5_4_0 lv3_5_4_1).trans (by decide +kernel)
theorem lv3_5_5_2 : lvl 3 5 5 2 = [0, 2, 6, 7, 9, 10, 11, 12, 13, 13, 14, 14, 15, 15, 16, 16, 17, 16, 15, 14, 13, 12, 11, 10, 9, 8, 7, 6, 5, 4, 3, 2, 1] := (lv_succ 3 5 4 2 3 _ _ (by decide) (by decide) lv3_5_4_0 lv3_5_4_3).trans (by decide +kernel)
theorem lv3_5_5_3 : lvl 3 5 5 3 = [0, 2, 6, 8, 10, 11, 12, 13, 14, 14, 15, 15, 16, 16, 17, 17, 18, 17, 16, 15, 14, 13, 12, 11, 10, 9, 8, 7, 6, 5, 4, 3, 2] := (lv_succ 3 5 4 3 3 _ _ (by decide) (by decide) lv3_5_4_0 lv3_5_4_3).trans (by decide +kernel)
theorem lv3_6_0_0 : lvl 3 6 0 0 = [0, 0] := rfl
theorem lv3_6_0_1 : lvl 3 6 0 1 = [0, 1] := rfl
theorem lv3_6_0_2 : lvl 3 6 0 2 = [0, 1] := rfl
theorem lv3_6_0_3 : lvl 3 6 0 3 = [0, 2] := rfl
theorem lv3_6_1_0 : lvl 3 6 1 0 = [0, 1, 0] := (lv_succ 3 6 0 0 2 _ _ (by decide) (by decide) lv3_6_0_0 lv3_6_0_2).trans (by decide +kernel)
theorem lv3_6_1_1 : lvl 3 6 1 1 = [0, 1, 1] := (lv_succ 3 6 0 1 1 _ _ (by decide) (by decide) lv3_6_0_0 lv3_6_0_1).trans (by decide +kernel)
theorem lv3_6_1_2 : lvl 3 6 1 2 = [0, 1, 1] := (lv_succ 3 6 0 2 2 _ _ (by decide) (by decide) lv3_6_0_0 lv3_6_0_2).trans (by decide +kernel)
theorem lv3_6_1_3 : lvl 3 6 1 3 = [0, 2, 2] := (lv_succ 3 6 0 3 3 _ _ (by decide) (by decide) lv3_6_0_0 lv3_6_0_3).trans (by decide +kernel)
theorem lv3_6_2_0 : lvl 3 6 2 0 = [0, 1, 2, 1, 0] := (lv_succ 3 6 1 0 2 _ _ (by decide) (by decide) lv3_6_1_0 lv3_6_1_2).trans (by decide +kernel)
theorem lv3_6_2_1 : lvl 3 6 2 1 = [0, 1, 3, 2, 1] := (lv_succ 3 6 1 1 1 _ _ (by decide) (by decide) lv3_6_1_0 lv3_6_1_1).trans (by decide +kernel)
theorem lv3_6_2_2 : lvl 3 6 2 2 = [0, 1, 3, 2, 1] := (lv_succ 3 6 1 2 2 _ _ (by decide) (by decide) lv3_6_1_0 lv3_6_1_2).trans (by decide +kernel)
theorem lv3_6_2_3 : lvl 3 6 2 3 = [0, 2, 4, 3, 2] := (lv_succ 3 6 1 3 3 _ _ (by decide) (by decide) lv3_6_1_0 lv3_6_1_3).trans (by decide +kernel)
theorem lv3_6_3_0 : lvl 3 6 3 0 = [0, 1, 3, 3, 4, 3, 2, 1, 0] := (lv_succ 3 6 2 0 1 _ _ (by decide) (by decide) lv3_6_2_0 lv3_6_2_1).trans (by decide +kernel)
theorem lv3_6_3_1 : lvl 3 6 3 1 = [0, 1, 3, 4, 5, 4, 3, 2, 1] := (lv_succ 3 6 2 1 1 _ _ (by decide) (by decide) lv3_6_2_0 lv3_6_2_1).trans (by decide +kernel)
theorem lv3_6_3_2 : lvl 3 6 3 2 = [0, 2, 4, 4, 5, 4, 3, 2, 1] := (lv_succ 3 6 2 2 3 _ _ (by decide) (by decide) lv3_6_2_0 lv3_6_2_3).trans (by decide +kernel)
theorem lv3_6_3_3 : lvl 3 6 3 3 = [0, 2, 4, 5, 6, 5, 4, 3, 2] := (lv_succ 3 6 2 3 3 _ _ (by decide) (by decide) lv3_6_2_0 lv3_6_2_3).trans (by decide +kernel)
theorem lv3_6_4_0 : lvl 3 6 4 0 = [0, 2, 4, 4, 6, 6, 7, 7, 8, 7, 6, 5, 4, 3, 2, 1, 0] := (lv_succ 3 6 3 0 2 _ _ (by decide) (by decide) lv3_6_3_0 lv3_6_3_2).trans (by decide +kernel)
theorem lv3_6_4_1 : lvl 3 6 4 1 = [0, 1, 3, 5, 7, 7, 8, 8, 9, 8, 7, 6, 5, 4, 3, 2, 1] := (lv_succ 3 6 3 1 1 _ _ (by decide) (by decide) lv3_6_3_0 lv3_6_3_1).trans (by decide +kernel)
theorem lv3_6_4_2 : lvl 3 6 4 2 = [0, 2, 4, 5, 7, 7, 8, 8, 9, 8, 7, 6, 5, 4, 3, 2, 1] := (lv_succ 3 6 3 2 2 _ _ (by decide) (by decide) lv3_6_3_0 lv3_6_3_2).trans (by decide +kernel)
theorem lv3_6_4_3 : lvl 3 6 4 3 = [0, 2, 4, 6, 8, 8, 9, 9, 10, 9, 8, 7, 6, 5, 4, 3, 2] := (lv_succ 3 6 3 3 3 _ _ (by decide) (by decide) lv3_6_3_0 lv3_6_3_3).trans (by decide +kernel)
theorem lv3_6_5_0 : lvl 3 6 5 0 = [0, 2, 4, 6, 8, 8, 10, 10, 12, 12, 13, 13, 14, 14, 15, 15, 16, 15, 14, 13, 12, 11, 10, 9, 8, 7, 6, 5, 4, 3, 2, 1, 0] := (lv_succ 3 6 4 0 2 _ _ (by decide) (by decide) lv3_6_4_0 lv3_6_4_2).trans (by decide +kernel)
theorem lv3_6_5_1 : lvl 3 6 5 1 = [0, 1, 5, 7, 9, 9, 11, 11, 13, 13, 14, 14, 15, 15, 16, 16, 17, 16, 15, 14, 13, 12, 11, 10, 9, 8, 7, 6, 5, 4, 3, 2, 1] := (lv_succ 3 6 4 1 1 _ _ (by decide) (by decide) lv3_6_4_0 lv3_6_4_1).trans (by decide +kernel)
theorem lv3_6_5_2 : lvl 3 6 5 2 = [0, 2, 5, 7, 9, 9, 11, 11, 13, 13, 14, 14, 15, 15, 16, 16, 17, 16, 15, 14, 13, 12, 11, 10, 9, 8, 7, 6, 5, 4, 3, 2, 1] := (lv_succ 3 6 4 2 2 _ _ (by decide) (by decide) lv3_6_4_0 lv3_6_4_2).trans (by decide +kernel)
theorem lv3_6_5_3 : lvl 3 6 5 3 = [0, 2, 6, 8, 10, 10, 12, 12, 14, 14, 15, 15, 16, 16, 17, 17, 18, 17, 16, 15, 14, 13, 12, 11, 10, 9, 8, 7, 6, 5, 4, 3, 2] := (lv_succ 3 6 4 3 3 _ _ (by decide) (by decide) lv3_6_4_0 lv3_6_4_3).trans (by decide +kernel)
theorem lv3_6_6_0 : lvl 3 6 6 0 = [0, 1, 5, 7, 9, 10, 12, 14, 16, 16, 18, 18, 20, 20, 22, 22, 24, 24, 25, 25, 26, 26, 27, 27, 28, 28, 29, 29, 30, 30, 31, 31, 32, 31, 30, 29, 28, 27, 26, 25, 24, 23, 22, 21, 20, 19, 18, 17, 16, 15, 14, 13, 12, 11, 10, 9, 8, 7, 6, 5, 4, 3, 2, 1, 0] := (lv_succ 3 6 5 0 1 _ _ (by decide) (by decide) lv3_6_5_0 lv3_6_5_1).trans (by decide +kernel)
theorem lv3_6_6_1 : lvl 3 6 6 1 = [0, 1, 5, 7, 9, 11, 13, 15, 17, 17, 19, 19, 21, 21, 23, 23, 25, 25, 26, 26, 27, 27, 28, 28, 29, 29, 30, 30, 31, 31, 32, 32, 33, 32, 31, 30, 29, 28, 27, 26, 25, 24, 23, 22, 21, 20, 19, 18, 17, 16, 15, 14, 13, 12, 11, 10, 9, 8, 7, 6, 5, 4, 3, 2, 1] := (lv_succ 3 6 5 1 1 _ _ (by decide) (by decide) lv3_6_5_0 lv3_6_5_1).trans (by decide +kernel)
theorem lv3_6_6_2 : lvl 3 6 6 2 = [0, 2, 6, 8, 10, 11, 13, 15, 17, 17, 19, 19, 21, 21, 23, 23, 25, 25, 26, 26, 27, 27, 28, 28, 29, 29, 30, 30, 31, 31, 32, 32, 33, 32, 31, 30, 29, 28, 27, 26, 25, 24, 23, 22, 21, 20, 19, 18, 17, 16, 15, 14, 13, 12, 11, 10, 9, 8, 7, 6, 5, 4, 3, 2, 1] := (lv_succ 3 6 5 2 3 _ _ (by decide) (by decide) lv3_6_5_0 lv3_6_5_3).trans (by decide +kernel)
theorem lv3_6_6_3 : lvl 3 6 6 3 = [0, 2, 6, 8, 10, 12, 14, 16, 18, 18, 20, 20, 22, 22, 24, 24, 26, 26, 27, 27, 28, 28, 29, 29, 30, 30, 31, 31, 32, 32, 33, 33, 34, 33, 32, 31, 30, 29, 28, 27, 26, 25, 24, 23, 22, 21, 20, 19, 18, 17, 16, 15, 14, 13, 12, 11, 10, 9, 8, 7, 6, 5, 4, 3, 2] := (lv_succ 3 6 5 3 3 _ _ (by decide) (by decide) lv3_6_5_0 lv3_6_5_3).trans (by decide +kernel)
end Go.YtoeophdffhmpmaaE
end

section
set_option linter.unusedVariables false
set_option linter.unusedSimpArgs false
set_option maxRecDepth 100000
set_option maxHeartbeats 1000000
namespace Go.YtoeophdffhmpmaaE
open Go Go.RowKit

theorem tree_pure (k : Nat) (d : Int) : Pure Go.Proofs.Try.prog 34 [.v (.int .u8 k), .v (.int .i64 d)] ⟨scheme k d 0 0 0 0, []⟩ := by
  refine pure_sz pf eqOk_none (env_ok [] rfl) fun _ => ⟨60, ?_⟩
  conv => whnf
  left
  conv => whnf
  try rfl
theorem small_pure : Pure Go.Proofs.Try.prog 37 [] ⟨needA 2 1 48 10 1 2 0 0 0, []⟩ := by
  refine pure_sz pf eqOk_none (env_ok [] rfl) fun _ => ⟨60, ?_⟩
  conv => whnf
  left
  conv => whnf
  try rfl
/-- The worst number out of the last row. -/
def wz (row : List Int) (r : Nat) : Int := (gr (fun k => if k = 0 then 1 else row.getD k 0) (r + 1) 0 0 0 true).1
theorem itZ_wz (kind d r : Nat) : itZ kind d r = wz (lvl kind d d 0) r := by
  unfold wz; rw [greatest_worst]; rfl
theorem worst_at (kind d r : Nat) (h1 : 1 ≤ kind) (h3 : kind ≤ 3) (hd : d ≤ 6) (hr : r ≤ 2 ^ d) :
    Pure Go.Proofs.Try.prog 14 [scheme kind d 0 0 0 0, .v (.int .i64 r)] ⟨.tup [.v (.int .i64 (itZ kind d r)), .v (.int .i64 0)], []⟩ := by
  have := Worst_pure kind d 0 0 0 0 r
  rw [wE_ok kind d r h1 h3 hd hr, wN_ok kind d r h1 h3 hd hr] at this
  exact this
theorem witness_at (kind d r : Nat) (h1 : 1 ≤ kind) (h3 : kind ≤ 3) (hd : d ≤ 6) (hr : r ≤ 2 ^ d) :
    Pure Go.Proofs.Try.prog 16 [scheme kind d 0 0 0 0, .v (.int .i64 r)] ⟨.tup [.ro (ints (wlZ kind d r)), .v (.int .i64 0)], []⟩ := by
  have := Witness_pure kind d 0 0 0 0 r
  rw [show wL kind d 0 0 0 0 r = wlZ kind d r from by unfold wL; rw [if_pos (wE_ok kind d r h1 h3 hd hr)]; rfl, wE_ok kind d r h1 h3 hd hr] at this
  exact this
theorem worsts_1 : Pure Go.Proofs.Try.prog 61 [scheme 1 2 0 0 0 0, .ro (ints [1, 2, 2, 2, 2])] ⟨.v (.bool true), []⟩ := by
  refine pure_sz pf eqOk_none (env_ok [14] rfl) fun _ => ⟨100, ?_⟩
  have h0 := worst_at 1 2 0 (by decide) (by decide) (by decide) (by decide)
  have h1 := worst_at 1 2 1 (by decide) (by decide) (by decide) (by decide)
  have h2 := worst_at 1 2 2 (by decide) (by decide) (by decide) (by decide)
  have h3 := worst_at 1 2 3 (by decide) (by decide) (by decide) (by decide)
  have h4 := worst_at 1 2 4 (by decide) (by decide) (by decide) (by decide)
  rw [show itZ 1 2 0 = 1 from by kernel_rfl] at h0
  rw [show itZ 1 2 1 = 2 from by kernel_rfl] at h1
  rw [show itZ 1 2 2 = 2 from by kernel_rfl] at h2
  rw [show itZ 1 2 3 = 2 from by kernel_rfl] at h3
  rw [show itZ 1 2 4 = 2 from by kernel_rfl] at h4
  conv => whnf
  repeat (first
    | (refine wk_none ?_; conv => whnf)
    | (refine ⟨_, h0, ?_⟩; conv => whnf)
    | (refine ⟨_, h1, ?_⟩; conv => whnf)
    | (refine ⟨_, h2, ?_⟩; conv => whnf)
    | (refine ⟨_, h3, ?_⟩; conv => whnf)
    | (refine ⟨_, h4, ?_⟩; conv => whnf)
    | (refine ⟨by decide, ?_⟩; conv => whnf))
  left
  conv => whnf
  try rfl
theorem worsts_2 : Pure Go.Proofs.Try.prog 61 [scheme 2 2 0 0 0 0, .ro (ints [1, 1, 2, 2, 2])] ⟨.v (.bool true), []⟩ := by
  refine pure_sz pf eqOk_none (env_ok [14] rfl) fun _ => ⟨100, ?_⟩
  have h0 := worst_at 2 2 0 (by decide) (by decide) (by decide) (by decide)
  have h1 := worst_at 2 2 1 (by decide) (by decide) (by decide) (by decide)
  have h2 := worst_at 2 2 2 (by decide) (by decide) (by decide) (by decide)
  have h3 := worst_at 2 2 3 (by decide) (by decide) (by decide) (by decide)
  have h4 := worst_at 2 2 4 (by decide) (by decide) (by decide) (by decide)
  rw [show itZ 2 2 0 = 1 from by kernel_rfl] at h0
  rw [show itZ 2 2 1 = 1 from by kernel_rfl] at h1
  rw [show itZ 2 2 2 = 2 from by kernel_rfl] at h2
  rw [show itZ 2 2 3 = 2 from by kernel_rfl] at h3
  rw [show itZ 2 2 4 = 2 from by kernel_rfl] at h4
  conv => whnf
  repeat (first
    | (refine wk_none ?_; conv => whnf)
    | (refine ⟨_, h0, ?_⟩; conv => whnf)
    | (refine ⟨_, h1, ?_⟩; conv => whnf)
    | (refine ⟨_, h2, ?_⟩; conv => whnf)
    | (refine ⟨_, h3, ?_⟩; conv => whnf)
    | (refine ⟨_, h4, ?_⟩; conv => whnf)
    | (refine ⟨by decide, ?_⟩; conv => whnf))
  left
  conv => whnf
  try rfl
end Go.YtoeophdffhmpmaaE
end

section
set_option linter.unusedVariables false
set_option linter.unusedSimpArgs false
set_option maxRecDepth 100000
set_option maxHeartbeats 1000000
namespace Go.YtoeophdffhmpmaaE
open Go Go.RowKit

def smallCh : Ch := ⟨1, true, 2, 0, 103, 48, 1414, [3]⟩
theorem alive_pure : Pure Go.Proofs.Try.prog 33 [] ⟨.v (.bool true), []⟩ := by
  refine pure_sz pf eqOk_none (env_ok [34, 37, 16, 25, 27, 18, 61, 31] rfl) fun _ => ⟨100, ?_⟩
  have t1 := tree_pure 1 2
  have t2 := tree_pure 2 2
  have w1 := witness_at 1 2 2 (by decide) (by decide) (by decide) (by decide)
  rw [show wlZ 1 2 2 = [3] from by kernel_rfl] at w1
  have w2 := witness_at 2 2 2 (by decide) (by decide) (by decide) (by decide)
  rw [show wlZ 2 2 2 = [1, 3] from by kernel_rfl] at w2
  have c1 := Choose_pure 2 1 48 10 1 2 0 0 0 1 (by decide) (by decide) (by decide)
  rw [show chF 2 1 48 10 1 2 0 0 0 1 = smallCh from by kernel_rfl, show chE 2 1 48 10 1 2 1 = 0 from by kernel_rfl] at c1
  have m1 := Make_pure 2 1 48 10 1 2 0 0 0 (by decide) (by decide) (by decide)
  rw [show mkB 2 1 48 10 1 2 0 0 0 = 1 from by kernel_rfl, show mkE 2 1 48 10 1 2 = 0 from by kernel_rfl] at m1
  have hl : (rowC (mkL 2 1 48 10 1 2 0 0 0)).length = 4 := by kernel_rfl
  generalize mkL 2 1 48 10 1 2 0 0 0 = L at *
  have s1 := sameInts_pure [3] [3]
  rw [decide_eq_true rfl] at s1
  have s2 := sameInts_pure [1, 3] [1, 3]
  rw [decide_eq_true rfl] at s2
  have sc := sameChoice_pure smallCh smallCh
  rw [chNum_refl, decide_eq_true rfl] at sc
  conv => whnf
  refine ⟨_, t1, ?_⟩
  conv => whnf
  refine ⟨_, w1, ?_⟩
  conv => whnf
  refine ⟨_, t2, ?_⟩
  conv => whnf
  refine ⟨_, w2, ?_⟩
  conv => whnf
  refine ⟨_, small_pure, ?_⟩
  conv => whnf
  refine ⟨_, c1, ?_⟩
  conv => whnf
  refine ⟨_, small_pure, ?_⟩
  conv => whnf
  refine ⟨_, m1, ?_⟩
  conv => whnf
  refine ⟨by decide, ?_⟩
  conv => whnf
  refine ⟨_, s1, ?_⟩
  conv => whnf
  refine ⟨by decide, ?_⟩
  conv => whnf
  refine ⟨_, s2, ?_⟩
  conv => whnf
  refine ⟨_, t1, ?_⟩
  conv => whnf
  refine ⟨by simp, ?_⟩
  conv => whnf
  refine ⟨_, worsts_1, ?_⟩
  conv => whnf
  refine ⟨_, t2, ?_⟩
  conv => whnf
  refine ⟨by simp, ?_⟩
  conv => whnf
  refine ⟨_, worsts_2, ?_⟩
  conv => whnf
  refine ⟨Nat.le_refl _, ?_⟩
  conv => whnf
  refine ⟨_, sc, ?_⟩
  conv => whnf
  rw [hl]
  conv => whnf
  left
  conv => whnf
  try rfl
end Go.YtoeophdffhmpmaaE
end

section
set_option linter.unusedVariables false
set_option linter.unusedSimpArgs false
set_option maxRecDepth 100000
namespace Go.YtoeophdffhmpmaaE
open Go Go.RowKit

theorem gr_keep (f : Nat → Int) : ∀ (n a : Nat) (m : Int) (b : Nat), m ≤ (gr f n a m b false).1 ∧ (gr f n a m b false).2.2 = false
  | 0, a, m, b => ⟨Int.le_refl _, rfl⟩
  | n + 1, a, m, b => by
    rw [gr]
    split
    · rename_i h
      have := gr_keep f n (a + 1) (f a) a
      have h2 : f a > m := h.elim (fun h => by cases h) id
      exact ⟨by omega, this.2⟩
    · exact gr_keep f n (a + 1) m b
theorem gr_ge (f : Nat → Int) : ∀ (n a : Nat) (m : Int) (b : Nat) (no : Bool) (j : Nat), j < n → f (a + j) ≤ (gr f n a m b no).1
  | 0, a, m, b, no, j, h => by omega
  | n + 1, a, m, b, no, j, h => by
    rw [gr]
    split
    · by_cases hj : j = 0
      · subst hj; exact (gr_keep f n (a + 1) (f a) a).1
      · have := gr_ge f n (a + 1) (f a) a false (j - 1) (by omega)
        rwa [show a + 1 + (j - 1) = a + j by omega] at this
    · rename_i hc
      have hno : no = false := by cases no; rfl; exact absurd (.inl rfl) hc
      subst hno
      by_cases hj : j = 0
      · subst hj
        have h1 : ¬ f a > m := fun h => hc (.inr h)
        have := (gr_keep f n (a + 1) m b).1
        show f a ≤ _
        omega
      · have := gr_ge f n (a + 1) m b false (j - 1) (by omega)
        rwa [show a + 1 + (j - 1) = a + j by omega] at this
theorem gr_snoc (f : Nat → Int) : ∀ (n a : Nat) (m : Int) (b : Nat) (no : Bool),
    gr f (n + 1) a m b no = if (gr f n a m b no).2.2 = true ∨ f (a + n) > (gr f n a m b no).1 then (f (a + n), a + n, false) else gr f n a m b no
  | 0, a, m, b, no => by
    show gr f 1 a m b no = if no = true ∨ f a > m then (f a, a, false) else (m, b, no)
    rw [gr]
    split <;> rfl
  | n + 1, a, m, b, no => by
    rw [gr]
    have e : gr f (n + 1) a m b no = if no = true ∨ f a > m then gr f n (a + 1) (f a) a false else gr f n (a + 1) m b no := by rw [gr]
    rw [e]
    split
    · rw [gr_snoc f n (a + 1) (f a) a false, show a + 1 + n = a + (n + 1) by omega]
    · rw [gr_snoc f n (a + 1) m b no, show a + 1 + n = a + (n + 1) by omega]
theorem gr_first (f : Nat → Int) (n a : Nat) (m : Int) (b : Nat) : (gr f (n + 1) a m b true).2.2 = false := by
  rw [gr, if_pos (.inl rfl)]; exact (gr_keep f n (a + 1) (f a) a).2
theorem itZ_succ (k d j : Nat) : itZ k d (j + 1) = if (lvl k d d 0).getD (j + 1) 0 > itZ k d j then (lvl k d d 0).getD (j + 1) 0 else itZ k d j := by
  rw [itZ_wz, itZ_wz]
  unfold wz
  rw [gr_snoc _ (j + 1) 0 0 0 true, gr_first]
  have e : (if 0 + (j + 1) = 0 then (1 : Int) else (lvl k d d 0).getD (0 + (j + 1)) 0) = (lvl k d d 0).getD (j + 1) 0 := by rw [if_neg (by omega), Nat.zero_add]
  simp only [Bool.false_eq_true, false_or]
  rw [e]
  split <;> rfl
theorem itZ_zero (k d : Nat) : itZ k d 0 = 1 := by rw [itZ_wz]; rfl
theorem lvl_at (k d g s x : Nat) (h1 : 1 ≤ x) (h2 : x ≤ 2 ^ (g + 1)) :
    (lvl k d (g + 1) s).getD x 0 = (bestZ k (lvl k d g 0) (lvl k d g (belowN k d s (g + 1))) (moreZ s) g x).1 := by
  obtain ⟨i, rfl⟩ : ∃ i, x = i + 1 := ⟨x - 1, by omega⟩
  show List.getD (_ :: _) (i + 1) 0 = _
  rw [List.getD_cons_succ, List.getD_eq_getElem?_getD, List.getElem?_map, List.getElem?_range (by omega)]
  rfl
theorem rule1 (k d g a b s : Nat) (ha : a ≤ 2 ^ g) (hb : b ≤ 2 ^ g) (h0 : k = 1 ∧ 0 < a + b ∨ (0 < a ∧ 0 < b)) :
    (lvl k d g 0).getD a 0 + (lvl k d g 0).getD b 0 + (if k = 1 then 0 else moreZ s) ≤ (lvl k d (g + 1) s).getD (a + b) 0 := by
  have hp : 2 ^ (g + 1) = 2 * 2 ^ g := by rw [Nat.pow_succ]; omega
  rw [lvl_at k d g s (a + b) (by omega) (by omega)]
  unfold bestZ
  have := gr_ge (valZ k (lvl k d g 0) (lvl k d g (belowN k d s (g + 1))) (moreZ s) (a + b)) (min (a + b) (2 ^ g) + 1 - (a + b - 2 ^ g)) (a + b - 2 ^ g) 0 0 true (a - (a + b - 2 ^ g)) (by omega)
  rw [show a + b - 2 ^ g + (a - (a + b - 2 ^ g)) = a by omega] at this
  refine Int.le_trans ?_ this
  unfold valZ
  rw [show a + b - a = b by omega]
  by_cases hk : k = 1
  · rw [if_pos hk, if_pos hk]; omega
  · rw [if_neg hk, if_neg hk, if_pos (by omega)]; exact Int.le_refl _
end Go.YtoeophdffhmpmaaE
end

section
set_option linter.unusedVariables false
set_option linter.unusedSimpArgs false
set_option maxRecDepth 100000
set_option maxHeartbeats 1000000
namespace Go.YtoeophdffhmpmaaE
open Go Go.RowKit

def ruEnv : List Nat := [33, 20, 23, 14]
theorem nest2_rows (k d s h : Nat) (hh : h ≤ d) : (nest2 (rowsZ k d s (d + 1)))[h]? = some [.ro (ints (lvl k d h s))] := by
  rw [nest2_get _ h (by rw [rowsZ_length]; omega)]
  simp [rowsZ]
theorem nest3_TZ (k d s : Nat) (hs : s < statesN k) : (nest3 (TZ k d))[s]? = some [.ro (nest2 (rowsZ k d s (d + 1)))] := by
  rw [nest3_get _ s (by simp [TZ]; exact hs)]
  simp [TZ]
theorem TZ_length (k d : Nat) : (TZ k d).length = statesN k := by simp [TZ]
theorem lvl_bdd (k d h s x : Nat) (hh : h ≤ 6) : 0 ≤ (lvl k d h s).getD x 0 ∧ (lvl k d h s).getD x 0 ≤ 1073741824 := by
  by_cases hx : x < (lvl k d h s).length
  · exact (lvl_small k d h s hh).get x hx
  · rw [List.getD_eq_getElem?_getD, List.getElem?_eq_none (by omega)]; simp
theorem inc64 (n : Nat) (h : n ≤ 1000000) : IntKind.i64.wrap ((n : Int) + 1) = ((n + 1 : Nat) : Int) := by rw [wrap64 (by omega) (by omega)]; omega
theorem dec64 (n : Nat) (h : n ≤ 1000000) : IntKind.i64.wrap (((n + 1 : Nat) : Int) - 1) = ((n : Nat) : Int) := by rw [wrap64 (by omega) (by omega)]; omega
theorem dlt {a b : Nat} (h : a < b) : decide ((a : Int) < (b : Int)) = true := by simp only [decide_eq_true_eq]; omega
theorem dnlt {a b : Nat} (h : ¬ a < b) : decide ((a : Int) < (b : Int)) = false := by simp only [decide_eq_false_iff_not]; omega
theorem dle {a b : Nat} (h : a ≤ b) : decide ((a : Int) ≤ (b : Int)) = true := by simp only [decide_eq_true_eq]; omega
theorem dnle {a b : Nat} (h : ¬ a ≤ b) : decide ((a : Int) ≤ (b : Int)) = false := by simp only [decide_eq_false_iff_not]; omega
theorem ru_in (E : EqT) (k d : Nat) (r : Int) (s : Nat) (hs : s < statesN k) (hd : d ≤ 6) (K : K) :
    ∀ (c h n : Nat), h + c = d + 1 → c + 60 ≤ n →
      (∀ j, K (.exit 2) (mkJ 248 [(1, .v (.int .i64 r)), (2, .pt 0 0 0 0 0), (5, .v (.bool true)), (6, .ro (nest3 (TZ k d))), (68, .ro (nest3 (TZ k d))), (69, .v (.int .i64 (statesN k : Nat))), (70, .v (.int .i64 (s : Nat)))] j) [schB k d] []) →
      loopF (run Go.Proofs.Try.prog E (envL Go.Proofs.Try.prog ruEnv) n) 0 0 (loopB Go.Proofs.Try.prog 8 1) (mkT 248 [(1, .v (.int .i64 r)), (2, .pt 0 0 0 0 0), (5, .v (.bool true)), (6, .ro (nest3 (TZ k d))), (9, .ro (nest2 (rowsZ k d s (d + 1)))), (68, .ro (nest3 (TZ k d))), (69, .v (.int .i64 (statesN k : Nat))), (70, .v (.int .i64 (s : Nat))), (81, .v (.int .i64 (d + 1 : Nat))), (82, .v (.int .i64 (h : Nat)))]) [schB k d] [] K := by
  intro c
  induction c with
  | zero =>
    intro h n hi hn hK
    obtain ⟨n, rfl⟩ : ∃ m, n = m + 60 := ⟨n - 60, by omega⟩
    obtain rfl : h = d + 1 := by omega
    conv => whnf
    rw [dnlt (by omega)]
    conv => whnf
    exact useJ hK rfl
  | succ c ih =>
    intro h n hi hn hK
    obtain ⟨n, rfl⟩ : ∃ m, n = m + 60 := ⟨n - 60, by omega⟩
    have hp := pow_le6 (h := h) (by omega)
    conv => whnf
    rw [dlt (a := h) (b := d + 1) (by omega)]
    conv => whnf
    refine Or.inl ⟨9, by kernel_rfl, ?_⟩
    conv => whnf
    refine ⟨⟨by omega, by rw [nest2_length, rowsZ_length]; omega⟩, optK_intro _ (nest2_rows k d s h (by omega)) ?_⟩
    conv => whnf
    refine ⟨by omega, ?_⟩
    conv => whnf
    rw [shl1 (h := h) (by omega), ints_length, lvl_length]
    rw [show IntKind.i64.wrap (1 + ((2 ^ h : Nat) : Int)) = ((2 ^ h + 1 : Nat) : Int) from by rw [wrap64 (by omega) (by omega)]; omega]
    rw [show (((2 ^ h + 1 : Nat) : Int) != ((2 ^ h + 1 : Nat) : Int)) = false by simp]
    conv => whnf
    rw [inc64 h (by omega)]
    refine wk_mask [false, true, true, false, false, true, true, false, false, true, false, false, false, false, false, false, false, false, false, false, false, false, false, false, false, false, false, false, false, false, false, false, false, false, false, false, false, false, false, false, false, false, false, false, false, false, false, false, false, false, false, false, false, false, false, false, false, false, false, false, false, false, false, false, false, false, false, false, true, true, true, false, false, false, false, false, false, false, false, false, false, true, true] _ rfl ?_
    exact ih (h + 1) (n + 59) (by omega) (by omega) hK
theorem ru_out (E : EqT) (k d : Nat) (r : Int) (hd : d ≤ 6) (K : K) :
    ∀ (c s n : Nat), s + c = statesN k → c + 90 ≤ n →
      (∀ j, K (.exit 0) (mkJ 248 [(1, .v (.int .i64 r)), (2, .pt 0 0 0 0 0), (5, .v (.bool true)), (6, .ro (nest3 (TZ k d)))] j) [schB k d] []) →
      loopF (run Go.Proofs.Try.prog E (envL Go.Proofs.Try.prog ruEnv) n) 0 0 (loopB Go.Proofs.Try.prog 8 0) (mkT 248 [(1, .v (.int .i64 r)), (2, .pt 0 0 0 0 0), (5, .v (.bool true)), (6, .ro (nest3 (TZ k d))), (68, .ro (nest3 (TZ k d))), (69, .v (.int .i64 (statesN k : Nat))), (70, .v (.int .i64 (s : Nat)))]) [schB k d] [] K := by
  intro c
  have h4 := statesN_le k
  induction c with
  | zero =>
    intro s n hi hn hK
    obtain ⟨n, rfl⟩ : ∃ m, n = m + 60 := ⟨n - 60, by omega⟩
    obtain rfl : s = statesN k := by omega
    conv => whnf
    rw [dnlt (by omega)]
    conv => whnf
    exact useJ hK rfl
  | succ c ih =>
    intro s n hi hn hK
    obtain ⟨n, rfl⟩ : ∃ m, n = m + 60 := ⟨n - 60, by omega⟩
    conv => whnf
    rw [dlt (a := s) (b := statesN k) (by omega)]
    conv => whnf
    refine ⟨⟨by omega, by rw [nest3_length, TZ_length]; omega⟩, optK_intro _ (nest3_TZ k d s (by omega)) ?_⟩
    conv => whnf
    rw [nest2_length, rowsZ_length, inc64 d (by omega)]
    rw [show (((d + 1 : Nat) : Int) != ((d + 1 : Nat) : Int)) = false by simp]
    conv => whnf
    rw [nest2_length, rowsZ_length]
    refine wk_mask [false, true, true, false, false, true, true, false, false, true, false, false, false, false, false, false, false, false, false, false, false, false, false, false, false, false, false, false, false, false, false, false, false, false, false, false, false, false, false, false, false, false, false, false, false, false, false, false, false, false, false, false, false, false, false, false, false, false, false, false, false, false, false, false, false, false, false, false, true, true, true, false, false, false, false, false, false, false, false, false, false, true, true] _ rfl ?_
    refine ru_in E k d r s (by omega) hd _ (d + 1) 0 (n + 51) (by omega) (by omega) fun j => ?_
    conv => whnf
    rw [inc64 s (by omega)]
    refine wk_mask [false, true, true, false, false, true, true, false, false, false, false, false, false, false, false, false, false, false, false, false, false, false, false, false, false, false, false, false, false, false, false, false, false, false, false, false, false, false, false, false, false, false, false, false, false, false, false, false, false, false, false, false, false, false, false, false, false, false, false, false, false, false, false, false, false, false, false, false, true, true, true] _ rfl ?_
    exact ih (s + 1) (n + 59) (by omega) (by omega) hK
theorem ru_b (E : EqT) (k d : Nat) (r : Int) (hk1 : 1 ≤ k) (hk3 : k ≤ 3) (g a : Nat) (hg : g + 1 ≤ d) (ha : a ≤ 2 ^ g) (hd : d ≤ 6) (K : K) :
    ∀ (c b n : Nat), b + c = 2 ^ g + 1 → c + 60 ≤ n →
      (∀ j, K (.exit 8) (mkJ 248 [(1, .v (.int .i64 r)), (2, .pt 0 0 0 0 0), (5, .v (.bool true)), (6, .ro (nest3 (TZ k d))), (11, .ro (nest2 (rowsZ k d 0 (d + 1)))), (12, .v (.int .i64 (g + 1 : Nat))), (13, .v (.int .i64 (a : Nat)))] j) [schB k d] []) →
      loopF (run Go.Proofs.Try.prog E (envL Go.Proofs.Try.prog ruEnv) n) 0 0 (loopB Go.Proofs.Try.prog 8 4) (mkT 248 [(1, .v (.int .i64 r)), (2, .pt 0 0 0 0 0), (5, .v (.bool true)), (6, .ro (nest3 (TZ k d))), (11, .ro (nest2 (rowsZ k d 0 (d + 1)))), (12, .v (.int .i64 (g + 1 : Nat))), (13, .v (.int .i64 (a : Nat))), (14, .v (.int .i64 (b : Nat)))]) [schB k d] [] K := by
  intro c
  induction c with
  | zero =>
    intro b n hi hn hK
    obtain ⟨n, rfl⟩ : ∃ m, n = m + 60 := ⟨n - 60, by omega⟩
    have hp := pow_le6 (h := g) (by omega)
    obtain rfl : b = 2 ^ g + 1 := by omega
    conv => whnf
    rw [dec64 g (by omega)]
    refine ⟨by omega, ?_⟩
    conv => whnf
    rw [shl1 (h := g) (by omega), dnle (by omega)]
    conv => whnf
    exact useJ hK rfl
  | succ c ih =>
    intro b n hi hn hK
    obtain ⟨n, rfl⟩ : ∃ m, n = m + 60 := ⟨n - 60, by omega⟩
    have hp := pow_le6 (h := g) (by omega)
    have hpw : 2 ^ (g + 1) = 2 * 2 ^ g := by rw [Nat.pow_succ]; omega
    have wab : IntKind.i64.wrap ((a : Int) + (b : Int)) = ((a + b : Nat) : Int) := by rw [wrap64 (by omega) (by omega)]; omega
    have l1 := lvl_bdd k d g 0 a (by omega)
    have l2 := lvl_bdd k d g 0 b (by omega)
    conv => whnf
    rw [dec64 g (by omega)]
    refine ⟨by omega, ?_⟩
    conv => whnf
    rw [shl1 (h := g) (by omega), dle (a := b) (b := 2 ^ g) (by omega)]
    conv => whnf
    by_cases hk : k = 1
    · by_cases hA : 0 < a
      · by_cases hB : 0 < b
        · have h0 := rule1 k d g a b 0 (by omega) (by omega) (.inl ⟨hk, by omega⟩)
          rw [show decide ((a : Int) > 0) = true by simp only [decide_eq_true_eq]; omega]
          conv => whnf
          rw [show decide ((b : Int) > 0) = true by simp only [decide_eq_true_eq]; omega]
          conv => whnf
          refine Or.inl ⟨41, by kernel_rfl, ?_⟩
          conv => whnf
          rw [show ((k : Int) == 1) = true from by rw [beq_iff_eq]; omega]
          conv => whnf
          rw [wab]
          rw [show decide (((a + b : Nat) : Int) > 0) = true by simp only [decide_eq_true_eq]; omega]
          conv => whnf
          refine ⟨⟨by omega, by rw [nest2_length, rowsZ_length]; omega⟩, optK_intro _ (nest2_rows k d 0 (g + 1) (by omega)) ?_⟩
          conv => whnf
          rw [wab]
          refine ⟨⟨by omega, by rw [ints_length, lvl_length]; omega⟩, optK_intro _ (ints_getD _ (a + b) (by rw [lvl_length]; omega)) ?_⟩
          conv => whnf
          rw [dec64 g (by omega)]
          refine ⟨⟨by omega, by rw [nest2_length, rowsZ_length]; omega⟩, optK_intro _ (nest2_rows k d 0 g (by omega)) ?_⟩
          conv => whnf
          refine ⟨⟨by omega, by rw [ints_length, lvl_length]; omega⟩, optK_intro _ (ints_getD _ a (by rw [lvl_length]; omega)) ?_⟩
          conv => whnf
          rw [dec64 g (by omega)]
          refine ⟨⟨by omega, by rw [nest2_length, rowsZ_length]; omega⟩, optK_intro _ (nest2_rows k d 0 g (by omega)) ?_⟩
          conv => whnf
          refine ⟨⟨by omega, by rw [ints_length, lvl_length]; omega⟩, optK_intro _ (ints_getD _ b (by rw [lvl_length]; omega)) ?_⟩
          conv => whnf
          rw [show IntKind.i64.wrap ((lvl k d g 0).getD a 0 + (lvl k d g 0).getD b 0) = (lvl k d g 0).getD a 0 + (lvl k d g 0).getD b 0 from wrap64 (by omega) (by omega)]
          rw [show decide ((lvl k d (g + 1) 0).getD (a + b) 0 < (lvl k d g 0).getD a 0 + (lvl k d g 0).getD b 0) = false by simp only [decide_eq_false_iff_not]; have := h0; rw [if_pos hk] at this; omega]
          conv => whnf
          refine Or.inl ⟨38, by kernel_rfl, ?_⟩
          conv => whnf
          rw [show decide ((k : Int) > 1) = false by simp only [decide_eq_false_iff_not]; omega]
          conv => whnf
          rw [inc64 b (by omega)]
          refine wk_mask [false, true, true, false, false, true, true, false, false, false, false, true, true, true, true] _ rfl ?_
          exact ih (b + 1) (n + 59) (by omega) (by omega) hK
        · have h0 := rule1 k d g a b 0 (by omega) (by omega) (.inl ⟨hk, by omega⟩)
          rw [show decide ((a : Int) > 0) = true by simp only [decide_eq_true_eq]; omega]
          conv => whnf
          rw [show decide ((b : Int) > 0) = false by simp only [decide_eq_false_iff_not]; omega]
          conv => whnf
          refine Or.inl ⟨41, by kernel_rfl, ?_⟩
          conv => whnf
          rw [show ((k : Int) == 1) = true from by rw [beq_iff_eq]; omega]
          conv => whnf
          rw [wab]
          rw [show decide (((a + b : Nat) : Int) > 0) = true by simp only [decide_eq_true_eq]; omega]
          conv => whnf
          refine ⟨⟨by omega, by rw [nest2_length, rowsZ_length]; omega⟩, optK_intro _ (nest2_rows k d 0 (g + 1) (by omega)) ?_⟩
          conv => whnf
          rw [wab]
          refine ⟨⟨by omega, by rw [ints_length, lvl_length]; omega⟩, optK_intro _ (ints_getD _ (a + b) (by rw [lvl_length]; omega)) ?_⟩
          conv => whnf
          rw [dec64 g (by omega)]
          refine ⟨⟨by omega, by rw [nest2_length, rowsZ_length]; omega⟩, optK_intro _ (nest2_rows k d 0 g (by omega)) ?_⟩
          conv => whnf
          refine ⟨⟨by omega, by rw [ints_length, lvl_length]; omega⟩, optK_intro _ (ints_getD _ a (by rw [lvl_length]; omega)) ?_⟩
          conv => whnf
          rw [dec64 g (by omega)]
          refine ⟨⟨by omega, by rw [nest2_length, rowsZ_length]; omega⟩, optK_intro _ (nest2_rows k d 0 g (by omega)) ?_⟩
          conv => whnf
          refine ⟨⟨by omega, by rw [ints_length, lvl_length]; omega⟩, optK_intro _ (ints_getD _ b (by rw [lvl_length]; omega)) ?_⟩
          conv => whnf
          rw [show IntKind.i64.wrap ((lvl k d g 0).getD a 0 + (lvl k d g 0).getD b 0) = (lvl k d g 0).getD a 0 + (lvl k d g 0).getD b 0 from wrap64 (by omega) (by omega)]
          rw [show decide ((lvl k d (g + 1) 0).getD (a + b) 0 < (lvl k d g 0).getD a 0 + (lvl k d g 0).getD b 0) = false by simp only [decide_eq_false_iff_not]; have := h0; rw [if_pos hk] at this; omega]
          conv => whnf
          refine Or.inl ⟨38, by kernel_rfl, ?_⟩
          conv => whnf
          rw [inc64 b (by omega)]
          refine wk_mask [false, true, true, false, false, true, true, false, false, false, false, true, true, true, true] _ rfl ?_
          exact ih (b + 1) (n + 59) (by omega) (by omega) hK
      · by_cases hB : 0 < b
        · have h0 := rule1 k d g a b 0 (by omega) (by omega) (.inl ⟨hk, by omega⟩)
          rw [show decide ((a : Int) > 0) = false by simp only [decide_eq_false_iff_not]; omega]
          conv => whnf
          refine Or.inl ⟨41, by kernel_rfl, ?_⟩
          conv => whnf
          rw [show ((k : Int) == 1) = true from by rw [beq_iff_eq]; omega]
          conv => whnf
          rw [wab]
          rw [show decide (((a + b : Nat) : Int) > 0) = true by simp only [decide_eq_true_eq]; omega]
          conv => whnf
          refine ⟨⟨by omega, by rw [nest2_length, rowsZ_length]; omega⟩, optK_intro _ (nest2_rows k d 0 (g + 1) (by omega)) ?_⟩
          conv => whnf
          rw [wab]
          refine ⟨⟨by omega, by rw [ints_length, lvl_length]; omega⟩, optK_intro _ (ints_getD _ (a + b) (by rw [lvl_length]; omega)) ?_⟩
          conv => whnf
          rw [dec64 g (by omega)]
          refine ⟨⟨by omega, by rw [nest2_length, rowsZ_length]; omega⟩, optK_intro _ (nest2_rows k d 0 g (by omega)) ?_⟩
          conv => whnf
          refine ⟨⟨by omega, by rw [ints_length, lvl_length]; omega⟩, optK_intro _ (ints_getD _ a (by rw [lvl_length]; omega)) ?_⟩
          conv => whnf
          rw [dec64 g (by omega)]
          refine ⟨⟨by omega, by rw [nest2_length, rowsZ_length]; omega⟩, optK_intro _ (nest2_rows k d 0 g (by omega)) ?_⟩
          conv => whnf
          refine ⟨⟨by omega, by rw [ints_length, lvl_length]; omega⟩, optK_intro _ (ints_getD _ b (by rw [lvl_length]; omega)) ?_⟩
          conv => whnf
          rw [show IntKind.i64.wrap ((lvl k d g 0).getD a 0 + (lvl k d g 0).getD b 0) = (lvl k d g 0).getD a 0 + (lvl k d g 0).getD b 0 from wrap64 (by omega) (by omega)]
          rw [show decide ((lvl k d (g + 1) 0).getD (a + b) 0 < (lvl k d g 0).getD a 0 + (lvl k d g 0).getD b 0) = false by simp only [decide_eq_false_iff_not]; have := h0; rw [if_pos hk] at this; omega]
          conv => whnf
          refine Or.inl ⟨38, by kernel_rfl, ?_⟩
          conv => whnf
          rw [inc64 b (by omega)]
          refine wk_mask [false, true, true, false, false, true, true, false, false, false, false, true, true, true, true] _ rfl ?_
          exact ih (b + 1) (n + 59) (by omega) (by omega) hK
        · skip
          rw [show decide ((a : Int) > 0) = false by simp only [decide_eq_false_iff_not]; omega]
          conv => whnf
          refine Or.inl ⟨41, by kernel_rfl, ?_⟩
          conv => whnf
          rw [show ((k : Int) == 1) = true from by rw [beq_iff_eq]; omega]
          conv => whnf
          rw [wab]
          rw [show decide (((a + b : Nat) : Int) > 0) = false by simp only [decide_eq_false_iff_not]; omega]
          conv => whnf
          refine Or.inl ⟨38, by kernel_rfl, ?_⟩
          conv => whnf
          rw [inc64 b (by omega)]
          refine wk_mask [false, true, true, false, false, true, true, false, false, false, false, true, true, true, true] _ rfl ?_
          exact ih (b + 1) (n + 59) (by omega) (by omega) hK
    · have hs2 : 2 ≤ statesN k := by
        have : k = 2 ∨ k = 3 := by omega
        rcases this with rfl | rfl <;> decide
      by_cases hA : 0 < a
      · by_cases hB : 0 < b
        · have h0 := rule1 k d g a b 0 (by omega) (by omega) (.inr ⟨hA, hB⟩)
          rw [show decide ((a : Int) > 0) = true by simp only [decide_eq_true_eq]; omega]
          conv => whnf
          rw [show decide ((b : Int) > 0) = true by simp only [decide_eq_true_eq]; omega]
          conv => whnf
          refine Or.inl ⟨41, by kernel_rfl, ?_⟩
          conv => whnf
          rw [show ((k : Int) == 1) = false from by rw [beq_eq_false_iff_ne]; omega]
          conv => whnf
          refine ⟨⟨by omega, by rw [nest2_length, rowsZ_length]; omega⟩, optK_intro _ (nest2_rows k d 0 (g + 1) (by omega)) ?_⟩
          conv => whnf
          rw [wab]
          refine ⟨⟨by omega, by rw [ints_length, lvl_length]; omega⟩, optK_intro _ (ints_getD _ (a + b) (by rw [lvl_length]; omega)) ?_⟩
          conv => whnf
          rw [dec64 g (by omega)]
          refine ⟨⟨by omega, by rw [nest2_length, rowsZ_length]; omega⟩, optK_intro _ (nest2_rows k d 0 g (by omega)) ?_⟩
          conv => whnf
          refine ⟨⟨by omega, by rw [ints_length, lvl_length]; omega⟩, optK_intro _ (ints_getD _ a (by rw [lvl_length]; omega)) ?_⟩
          conv => whnf
          rw [dec64 g (by omega)]
          refine ⟨⟨by omega, by rw [nest2_length, rowsZ_length]; omega⟩, optK_intro _ (nest2_rows k d 0 g (by omega)) ?_⟩
          conv => whnf
          refine ⟨⟨by omega, by rw [ints_length, lvl_length]; omega⟩, optK_intro _ (ints_getD _ b (by rw [lvl_length]; omega)) ?_⟩
          conv => whnf
          rw [show IntKind.i64.wrap ((lvl k d g 0).getD a 0 + (lvl k d g 0).getD b 0) = (lvl k d g 0).getD a 0 + (lvl k d g 0).getD b 0 from wrap64 (by omega) (by omega)]
          rw [show decide ((lvl k d (g + 1) 0).getD (a + b) 0 < (lvl k d g 0).getD a 0 + (lvl k d g 0).getD b 0) = false by simp only [decide_eq_false_iff_not]; have := h0; rw [if_neg hk, show moreZ 0 = 0 from rfl] at this; omega]
          conv => whnf
          refine Or.inl ⟨38, by kernel_rfl, ?_⟩
          conv => whnf
          rw [show decide ((k : Int) > 1) = true by simp only [decide_eq_true_eq]; omega]
          conv => whnf
          refine ⟨⟨by omega, by rw [nest3_length, TZ_length]; omega⟩, optK_intro _ (nest3_TZ k d 1 (by omega)) ?_⟩
          conv => whnf
          refine ⟨⟨by omega, by rw [nest2_length, rowsZ_length]; omega⟩, optK_intro _ (nest2_rows k d 1 (g + 1) (by omega)) ?_⟩
          conv => whnf
          rw [wab]
          refine ⟨⟨by omega, by rw [ints_length, lvl_length]; omega⟩, optK_intro _ (ints_getD _ (a + b) (by rw [lvl_length]; omega)) ?_⟩
          conv => whnf
          rw [dec64 g (by omega)]
          refine ⟨⟨by omega, by rw [nest2_length, rowsZ_length]; omega⟩, optK_intro _ (nest2_rows k d 0 g (by omega)) ?_⟩
          conv => whnf
          refine ⟨⟨by omega, by rw [ints_length, lvl_length]; omega⟩, optK_intro _ (ints_getD _ a (by rw [lvl_length]; omega)) ?_⟩
          conv => whnf
          rw [show IntKind.i64.wrap (1 + (lvl k d g 0).getD a 0) = 1 + (lvl k d g 0).getD a 0 from wrap64 (by omega) (by omega)]
          rw [dec64 g (by omega)]
          refine ⟨⟨by omega, by rw [nest2_length, rowsZ_length]; omega⟩, optK_intro _ (nest2_rows k d 0 g (by omega)) ?_⟩
          conv => whnf
          refine ⟨⟨by omega, by rw [ints_length, lvl_length]; omega⟩, optK_intro _ (ints_getD _ b (by rw [lvl_length]; omega)) ?_⟩
          conv => whnf
          rw [show IntKind.i64.wrap (1 + (lvl k d g 0).getD a 0 + (lvl k d g 0).getD b 0) = 1 + (lvl k d g 0).getD a 0 + (lvl k d g 0).getD b 0 from wrap64 (by omega) (by omega)]
          rw [show decide ((lvl k d (g + 1) 1).getD (a + b) 0 < 1 + (lvl k d g 0).getD a 0 + (lvl k d g 0).getD b 0) = false by simp only [decide_eq_false_iff_not]; have := rule1 k d g a b 1 (by omega) (by omega) (.inr ⟨by omega, by omega⟩); rw [if_neg hk, show moreZ 1 = 1 from rfl] at this; omega]
          conv => whnf
          rw [inc64 b (by omega)]
          refine wk_mask [false, true, true, false, false, true, true, false, false, false, false, true, true, true, true] _ rfl ?_
          exact ih (b + 1) (n + 59) (by omega) (by omega) hK
        · skip
          rw [show decide ((a : Int) > 0) = true by simp only [decide_eq_true_eq]; omega]
          conv => whnf
          rw [show decide ((b : Int) > 0) = false by simp only [decide_eq_false_iff_not]; omega]
          conv => whnf
          refine Or.inl ⟨41, by kernel_rfl, ?_⟩
          conv => whnf
          rw [show ((k : Int) == 1) = false from by rw [beq_eq_false_iff_ne]; omega]
          conv => whnf
          refine Or.inl ⟨38, by kernel_rfl, ?_⟩
          conv => whnf
          rw [inc64 b (by omega)]
          refine wk_mask [false, true, true, false, false, true, true, false, false, false, false, true, true, true, true] _ rfl ?_
          exact ih (b + 1) (n + 59) (by omega) (by omega) hK
      · skip
        rw [show decide ((a : Int) > 0) = false by simp only [decide_eq_false_iff_not]; omega]
        conv => whnf
        refine Or.inl ⟨41, by kernel_rfl, ?_⟩
        conv => whnf
        rw [show ((k : Int) == 1) = false from by rw [beq_eq_false_iff_ne]; omega]
        conv => whnf
        refine Or.inl ⟨38, by kernel_rfl, ?_⟩
        conv => whnf
        rw [inc64 b (by omega)]
        refine wk_mask [false, true, true, false, false, true, true, false, false, false, false, true, true, true, true] _ rfl ?_
        exact ih (b + 1) (n + 59) (by omega) (by omega) hK
theorem ru_a (E : EqT) (k d : Nat) (r : Int) (hk1 : 1 ≤ k) (hk3 : k ≤ 3) (g : Nat) (hg : g + 1 ≤ d) (hd : d ≤ 6) (K : K) :
    ∀ (c a n : Nat), a + c = 2 ^ g + 1 → c + 200 ≤ n →
      (∀ j, K (.exit 6) (mkJ 248 [(1, .v (.int .i64 r)), (2, .pt 0 0 0 0 0), (5, .v (.bool true)), (6, .ro (nest3 (TZ k d))), (11, .ro (nest2 (rowsZ k d 0 (d + 1)))), (12, .v (.int .i64 (g + 1 : Nat)))] j) [schB k d] []) →
      loopF (run Go.Proofs.Try.prog E (envL Go.Proofs.Try.prog ruEnv) n) 0 0 (loopB Go.Proofs.Try.prog 8 3) (mkT 248 [(1, .v (.int .i64 r)), (2, .pt 0 0 0 0 0), (5, .v (.bool true)), (6, .ro (nest3 (TZ k d))), (11, .ro (nest2 (rowsZ k d 0 (d + 1)))), (12, .v (.int .i64 (g + 1 : Nat))), (13, .v (.int .i64 (a : Nat)))]) [schB k d] [] K := by
  intro c
  induction c with
  | zero =>
    intro a n hi hn hK
    obtain ⟨n, rfl⟩ : ∃ m, n = m + 200 := ⟨n - 200, by omega⟩
    have hp := pow_le6 (h := g) (by omega)
    obtain rfl : a = 2 ^ g + 1 := by omega
    conv => whnf
    rw [dec64 g (by omega)]
    refine ⟨by omega, ?_⟩
    conv => whnf
    rw [shl1 (h := g) (by omega), dnle (by omega)]
    conv => whnf
    exact useJ hK rfl
  | succ c ih =>
    intro a n hi hn hK
    obtain ⟨n, rfl⟩ : ∃ m, n = m + 200 := ⟨n - 200, by omega⟩
    have hp := pow_le6 (h := g) (by omega)
    conv => whnf
    rw [dec64 g (by omega)]
    refine ⟨by omega, ?_⟩
    conv => whnf
    rw [shl1 (h := g) (by omega), dle (a := a) (b := 2 ^ g) (by omega)]
    conv => whnf
    refine wk_mask [false, true, true, false, false, true, true, false, false, false, false, true, true, true, true] _ rfl ?_
    refine ru_b E k d r hk1 hk3 g a hg (by omega) hd _ (2 ^ g + 1) 0 (n + 194) (by omega) (by omega) fun j => ?_
    conv => whnf
    rw [inc64 a (by omega)]
    refine wk_mask [false, true, true, false, false, true, true, false, false, false, false, true, true, true] _ rfl ?_
    exact ih (a + 1) (n + 199) (by omega) (by omega) hK
theorem ru_h (E : EqT) (k d : Nat) (r : Int) (hk1 : 1 ≤ k) (hk3 : k ≤ 3) (hd : d ≤ 6) (K : K) :
    ∀ (c h n : Nat), h + c = d + 1 → 1 ≤ h → c + 400 ≤ n →
      (∀ j, K (.exit 4) (mkJ 248 [(1, .v (.int .i64 r)), (2, .pt 0 0 0 0 0), (5, .v (.bool true)), (6, .ro (nest3 (TZ k d))), (11, .ro (nest2 (rowsZ k d 0 (d + 1))))] j) [schB k d] []) →
      loopF (run Go.Proofs.Try.prog E (envL Go.Proofs.Try.prog ruEnv) n) 0 0 (loopB Go.Proofs.Try.prog 8 2) (mkT 248 [(1, .v (.int .i64 r)), (2, .pt 0 0 0 0 0), (5, .v (.bool true)), (6, .ro (nest3 (TZ k d))), (11, .ro (nest2 (rowsZ k d 0 (d + 1)))), (12, .v (.int .i64 (h : Nat)))]) [schB k d] [] K := by
  intro c
  induction c with
  | zero =>
    intro h n hi h1 hn hK
    obtain ⟨n, rfl⟩ : ∃ m, n = m + 400 := ⟨n - 400, by omega⟩
    obtain rfl : h = d + 1 := by omega
    conv => whnf
    rw [dnle (by omega)]
    conv => whnf
    exact useJ hK rfl
  | succ c ih =>
    intro h n hi h1 hn hK
    obtain ⟨n, rfl⟩ : ∃ m, n = m + 400 := ⟨n - 400, by omega⟩
    obtain ⟨g, rfl⟩ : ∃ g, h = g + 1 := ⟨h - 1, by omega⟩
    have hp := pow_le6 (h := g) (by omega)
    conv => whnf
    rw [dle (a := g + 1) (b := d) (by omega)]
    conv => whnf
    refine wk_mask [false, true, true, false, false, true, true, false, false, false, false, true, true, true] _ rfl ?_
    refine ru_a E k d r hk1 hk3 g (by omega) hd _ (2 ^ g + 1) 0 (n + 394) (by omega) (by omega) fun j => ?_
    conv => whnf
    rw [inc64 (g + 1) (by omega)]
    refine wk_mask [false, true, true, false, false, true, true, false, false, false, false, true, true] _ rfl ?_
    exact ih (g + 1 + 1) (n + 399) (by omega) (by omega) (by omega) hK
end Go.YtoeophdffhmpmaaE
end

section
set_option linter.unusedVariables false
set_option linter.unusedSimpArgs false
set_option maxRecDepth 100000
set_option maxHeartbeats 1000000
namespace Go.YtoeophdffhmpmaaE
open Go Go.RowKit

theorem ru_m (E : EqT) (k d : Nat) (q : Nat) (hq : q ≤ 2 ^ d) (hd : d ≤ 6) (K : K) :
    ∀ (c i n : Nat), i + c = q → c + 60 ≤ n →
      (∀ j, K (.exit 10) (mkJ 248 [(5, .v (.bool true)), (16, .v (.int .i64 (itZ k d q))), (18, .v (.int .i64 (itZ k d q)))] j) [schB k d] []) →
      loopF (run Go.Proofs.Try.prog E (envL Go.Proofs.Try.prog ruEnv) n) 0 0 (loopB Go.Proofs.Try.prog 8 5) (mkT 248 [(1, .v (.int .i64 (q : Nat))), (2, .pt 0 0 0 0 0), (5, .v (.bool true)), (11, .ro (nest2 (rowsZ k d 0 (d + 1)))), (16, .v (.int .i64 (itZ k d q))), (18, .v (.int .i64 (itZ k d i))), (19, .v (.int .i64 (i + 1 : Nat)))]) [schB k d] [] K := by
  intro c
  induction c with
  | zero =>
    intro i n hi hn hK
    obtain ⟨n, rfl⟩ : ∃ m, n = m + 60 := ⟨n - 60, by omega⟩
    have hp := pow_le6 (h := d) hd
    obtain rfl : i = q := by omega
    conv => whnf
    rw [dnle (by omega)]
    conv => whnf
    exact useJ hK rfl
  | succ c ih =>
    intro i n hi hn hK
    obtain ⟨n, rfl⟩ : ∃ m, n = m + 60 := ⟨n - 60, by omega⟩
    have hp := pow_le6 (h := d) hd
    have hsucc := itZ_succ k d i
    have next := ih (i + 1) (n + 59) (by omega) (by omega) hK
    rw [hsucc] at next
    conv => whnf
    rw [dle (a := i + 1) (b := q) (by omega)]
    conv => whnf
    refine ⟨⟨by omega, by rw [nest2_length, rowsZ_length]; omega⟩, optK_intro _ (nest2_rows k d 0 d (Nat.le_refl _)) ?_⟩
    conv => whnf
    rw [ints_length, lvl_length, dlt (a := i + 1) (b := 2 ^ d + 1) (by omega)]
    conv => whnf
    refine ⟨⟨by omega, by rw [nest2_length, rowsZ_length]; omega⟩, optK_intro _ (nest2_rows k d 0 d (Nat.le_refl _)) ?_⟩
    conv => whnf
    refine ⟨⟨by omega, by rw [ints_length, lvl_length]; omega⟩, optK_intro _ (ints_getD _ (i + 1) (by rw [lvl_length]; omega)) ?_⟩
    conv => whnf
    rw [inc64 (i + 1) (by omega)]
    refine wk_mask [false, true, true, false, false, true, false, false, false, false, false, true, false, false, false, false, true, false, true, true] _ rfl ?_
    exact next
theorem rules_bad (kind : Nat) (depth degree p q g r : Int) (hv : validB kind depth degree p q g = false) :
    Pure Go.Proofs.Try.prog 8 [scheme kind depth degree p q g, .v (.int .i64 r)] ⟨.v (.bool true), []⟩ := by
  refine pure_sz pf eqOk_none (env_ok ruEnv rfl) fun _ => ⟨100, ?_⟩
  have ht := Tables_pure kind depth degree p q g
  rw [show tT kind depth degree p q g = [] from by unfold tT; rw [hv]; rfl, show tE kind depth degree p q g = 30 from by unfold tE; rw [hv]; rfl] at ht
  conv => whnf
  refine ⟨_, alive_pure, ?_⟩
  conv => whnf
  refine ⟨_, ht, ?_⟩
  conv => whnf
  left
  conv => whnf
  try rfl
theorem rules_ok (k d : Nat) (r : Int) (h1 : 1 ≤ k) (h3 : k ≤ 3) (hd : d ≤ 6) :
    Pure Go.Proofs.Try.prog 8 [scheme k d 0 0 0 0, .v (.int .i64 r)] ⟨.v (.bool true), []⟩ := by
  refine pure_sz pf eqOk_none (env_ok ruEnv rfl) fun _ => ⟨1000, ?_⟩
  have hv := validB_ok k d h1 h3 hd
  have hst := statesN_le k
  have hp := pow_le6 (h := d) hd
  have ht := Tables_pure k d 0 0 0 0
  rw [show tT k d 0 0 0 0 = TZ k d from by unfold tT; rw [if_pos hv, Int.toNat_natCast], show tE k d 0 0 0 0 = 0 from by unfold tE; rw [if_pos hv]] at ht
  have hc := CheckTables_pure k d 0 0 0 0 (TZ k d)
  rw [show cE k d 0 0 0 0 (TZ k d) = 0 from by unfold cE; rw [if_pos hv, Int.toNat_natCast, if_pos rfl]] at hc
  have hst2 : ([[A.v (.int .i64 0)], [.v (.int .i64 1)], [.v (.int .i64 2)], [.v (.int .i64 4)]] : List (List A))[k]? = some [.v (.int .i64 (statesN k : Nat))] := by
    have : k = 1 ∨ k = 2 ∨ k = 3 := by omega
    rcases this with rfl | rfl | rfl <;> rfl
  have hw := Worst_pure k d 0 0 0 0 r
  conv => whnf
  refine ⟨_, alive_pure, ?_⟩
  conv => whnf
  refine ⟨_, ht, ?_⟩
  conv => whnf
  rw [show decide ((k : Int) < 1) = false by simp only [decide_eq_false_iff_not]; omega]
  conv => whnf
  rw [show decide ((k : Int) > 3) = false by simp only [decide_eq_false_iff_not]; omega]
  conv => whnf
  rw [show decide ((d : Int) < 0) = false by simp only [decide_eq_false_iff_not]; omega]
  conv => whnf
  rw [show decide ((d : Int) > 6) = false by simp only [decide_eq_false_iff_not]; omega]
  conv => whnf
  refine ⟨⟨by omega, by show (k : Int) < 4; omega⟩, optK_intro _ (show ([[A.v (.int .i64 0)], [.v (.int .i64 1)], [.v (.int .i64 2)], [.v (.int .i64 4)]] : List (List A))[0 + ((k : Nat) : Int).toNat]? = _ from by rw [Nat.zero_add, Int.toNat_natCast]; exact hst2) ?_⟩
  conv => whnf
  rw [nest3_length, TZ_length]
  rw [show (((statesN k : Nat) : Int) != ((statesN k : Nat) : Int)) = false by simp]
  conv => whnf
  refine ⟨_, hc, ?_⟩
  conv => whnf
  rw [nest3_length, TZ_length]
  refine gc_step ⟨[false, true, true, false, false, true, true, false, false, false, false, false, false, false, false, false, false, false, false, false, false, false, false, false, false, false, false, false, false, false, false, false, false, false, false, false, false, false, false, false, false, false, false, false, false, false, false, false, false, false, false, false, false, false, false, false, false, false, false, false, false, false, false, false, false, false, false, false, true, true, true], [0], 0⟩ (mkT 248 [(1, .v (.int .i64 r)), (2, .pt 0 0 0 0 0), (5, .v (.bool true)), (6, .ro (nest3 (TZ k d))), (68, .ro (nest3 (TZ k d))), (69, .v (.int .i64 (statesN k : Nat))), (70, .v (.int .i64 (0 : Nat)))]) [schB k d] [] (fun k hk => hk) ?_
  refine ru_out _ k d r hd _ (statesN k) 0 991 (by omega) (by omega) fun j => ?_
  conv => whnf
  refine ⟨⟨by decide, by rw [nest3_length, TZ_length]; have := statesN_pos k; omega⟩, optK_intro _ (nest3_TZ k d 0 (statesN_pos k)) ?_⟩
  conv => whnf
  refine wk_mask [false, true, true, false, false, true, true, false, false, false, false, true, true] _ rfl ?_
  refine ru_h _ k d r h1 h3 hd _ d 1 989 (by omega) (by omega) (by omega) fun j => ?_
  conv => whnf
  refine ⟨_, hw, ?_⟩
  by_cases hE : wE k d 0 0 0 0 r = 0
  · have hr : ∃ q : Nat, r = q ∧ q ≤ 2 ^ d := by
      have := hE
      unfold wE at this
      rw [if_pos hv, Int.toNat_natCast] at this
      split at this
      · omega
      · exact ⟨r.toNat, by omega, by omega⟩
    obtain ⟨q, rfl, hq⟩ := hr
    rw [hE, show wN k d 0 0 0 0 q = itZ k d q from wN_ok k d q h1 h3 hd hq]
    conv => whnf
    refine wk_mask [false, true, true, false, false, true, false, false, false, false, false, true, false, false, false, false, true, false, true, true] _ (show _ = mkT 248 [(1, .v (.int .i64 (q : Nat))), (2, .pt 0 0 0 0 0), (5, .v (.bool true)), (11, .ro (nest2 (rowsZ k d 0 (d + 1)))), (16, .v (.int .i64 (itZ k d q))), (18, .v (.int .i64 (itZ k d 0))), (19, .v (.int .i64 (0 + 1 : Nat)))] from by rw [itZ_zero]; rfl) ?_
    refine ru_m _ k d q hq hd _ q 0 985 (by omega) (by omega) fun j => ?_
    conv => whnf
    rw [show (itZ k d q == itZ k d q) = true by simp]
    conv => whnf
    left
    conv => whnf
    try rfl
  · have e2 : wE k d 0 0 0 0 r = 2 := by
      unfold wE at hE ⊢
      rw [if_pos hv] at hE ⊢
      split
      · rfl
      · rename_i h; rw [if_neg h] at hE; exact absurd rfl hE
    rw [e2]
    generalize wN k d 0 0 0 0 r = x
    conv => whnf
    left
    conv => whnf
    try rfl
theorem PlanRules_pure (kind : Nat) (depth degree p q g r : Int) :
    Pure Go.Proofs.Try.prog 8 [scheme kind depth degree p q g, .v (.int .i64 r)] ⟨.v (.bool true), []⟩ := by
  cases hv : validB kind depth degree p q g with
  | false => exact rules_bad kind depth degree p q g r hv
  | true =>
    simp only [validB, decide_eq_true_eq] at hv
    obtain ⟨h1, h2, h3, h4, rfl, rfl, rfl, rfl⟩ := hv
    obtain ⟨d, rfl⟩ : ∃ d : Nat, depth = d := ⟨depth.toNat, by omega⟩
    exact rules_ok kind d r h1 h2 (by omega)
end Go.YtoeophdffhmpmaaE
end
