/- M2: Opening and shutting schemes; what lay stands. M3: Opening needs. T1: The tables of the 21 trees as literal lists. A1: headendlaw10.tree, small, worsts, alive. A2: headendlaw10.alive. A4: The best of choices; choices at other prices, with more storage. A5: PlanScales: the law's function. -/
import Derived.Test.YtoeophdffhmpmaaChecked
import Derived.WalkKit
import Derived.ProofKit
import Derived.OpenShut
import Derived.Test.YtoeophdffhmpmaaG8

section
set_option linter.unusedVariables false
set_option linter.unusedSimpArgs false
set_option maxRecDepth 100000
namespace Go.YtoeophdffhmpmaaE
open Go Go.RowKit Go.ChangeShapes Go.WideShapes Go.ChangeAt

section
variable {H : Type} {enc : TypeId × Value → H} {w : World} {base : Nat} {spare : Nat → Bool} {held : Bool}
theorem cc22 : Go.Proofs.Try.prog.cellsOf 22 = 1 := by kernel_rfl
theorem cc24 : Go.Proofs.Try.prog.cellsOf 24 = 3 := by kernel_rfl
theorem cc26 : Go.Proofs.Try.prog.cellsOf 26 = 6 := by kernel_rfl
theorem cc3 : Go.Proofs.Try.prog.cellsOf 3 = 1 := by kernel_rfl
theorem cc5 : Go.Proofs.Try.prog.cellsOf 5 = 1 := by kernel_rfl
/-- An integer field of a struct. -/
theorem field_int {P : Program} {t : TypeId} {k : IntKind} {fuel : Nat} {cs : List Value} {x : DataW H × List MemPlace} (ht : P.underlying t = some (.int k)) (h : DataW.trod enc P w base spare held fuel t cs = some x) :
    ∃ n, cs = [.int k n] ∧ x = (.lit (.int k n), []) ∧ (Lit.int k n).wf = true := by
  obtain ⟨n, h1, h2, h3⟩ := DataW.trod_int ht h
  exact ⟨n, h1, h2, h3⟩
def grpD (p q g : Int) : DataW H := .agg [.lit (.int .u64 p), .lit (.int .u64 q), .lit (.int .u64 g)]
def schD (k d e p q g : Int) : DataW H := .agg [.lit (.int .u8 k), .lit (.int .i64 d), .lit (.int .i64 e), grpD p q g]
def schV (k d e p q g : Int) : Value := .agg #[.int .u8 k, .int .i64 d, .int .i64 e, .int .u64 p, .int .u64 q, .int .u64 g]
theorem open_group {fuel : Nat} {c0 c1 c2 : Value} {x : DataW H × List MemPlace} (h : DataW.trod enc Go.Proofs.Try.prog w base spare held fuel 24 [c0, c1, c2] = some x) :
    ∃ p q g, c0 = .int .u64 p ∧ c1 = .int .u64 q ∧ c2 = .int .u64 g ∧ x = (grpD p q g, []) ∧ (Lit.int .u64 p).wf = true ∧ (Lit.int .u64 q).wf = true ∧ (Lit.int .u64 g).wf = true := by
  obtain ⟨xs, n, _, rfl, hl, hlen, hf⟩ := DataW.trod_struct Go.Proofs.Try.underlying24 h
  match xs, hlen with
  | [x0, x1, x2], _ =>
  have f0 : DataW.trod enc Go.Proofs.Try.prog w base spare held n 22 ([c0, c1, c2].take (Go.Proofs.Try.prog.cellsOf 22)) = some x0 := hf 0 _ rfl
  have f1 : DataW.trod enc Go.Proofs.Try.prog w base spare held n 22 ([c1, c2].take (Go.Proofs.Try.prog.cellsOf 22)) = some x1 := hf 1 _ rfl
  have f2 : DataW.trod enc Go.Proofs.Try.prog w base spare held n 22 ([c2].take (Go.Proofs.Try.prog.cellsOf 22)) = some x2 := hf 2 _ rfl
  rw [cc22] at f0 f1 f2
  obtain ⟨p, e0, rfl, w0⟩ := field_int Go.Proofs.Try.underlying22 f0
  obtain ⟨q, e1, rfl, w1⟩ := field_int Go.Proofs.Try.underlying22 f1
  obtain ⟨g, e2, rfl, w2⟩ := field_int Go.Proofs.Try.underlying22 f2
  simp at e0 e1 e2
  subst e0 e1 e2
  exact ⟨p, q, g, rfl, rfl, rfl, rfl, w0, w1, w2⟩
theorem shut_group {n : Nat} {p q g : Int} (w0 : (Lit.int .u64 p).wf = true) (w1 : (Lit.int .u64 q).wf = true) (w2 : (Lit.int .u64 g).wf = true) :
    DataW.trod enc Go.Proofs.Try.prog w base spare held (n + 2) 24 [.int .u64 p, .int .u64 q, .int .u64 g] = some (grpD p q g, []) := by
  simp [DataW.trod, Go.Proofs.Try.underlying24, Go.Proofs.Try.underlying22, cc24, cc22, w0, w1, w2, grpD]
theorem open_scheme {b0 : Nat} {v : Value} {d : DataW H} {ps : List MemPlace} (hval : Value.okWide Go.Proofs.Try.prog w .any b0 26 v) (hd : DataW.Trod enc Go.Proofs.Try.prog w base spare held 26 v d ps) :
    ∃ (k : Nat) (a e p q g : Int), v = schV k a e p q g ∧ d = schD k a e p q g ∧ ps = [] ∧ (Lit.int .u8 k).wf = true ∧ (Lit.int .i64 a).wf = true ∧ (Lit.int .i64 e).wf = true ∧ (Lit.int .u64 p).wf = true ∧ (Lit.int .u64 q).wf = true ∧ (Lit.int .u64 g).wf = true := by
  unfold Value.okWide at hval
  rw [Go.Proofs.Try.underlying26] at hval
  obtain ⟨cs, rfl, hsz, _⟩ := hval
  rw [cc26] at hsz
  obtain ⟨fuel, h⟩ := hd
  obtain ⟨xs, n, _, hx, hl, hlen, hf⟩ := DataW.trod_struct Go.Proofs.Try.underlying26 h
  obtain ⟨l⟩ := cs
  match xs, hlen, l, hsz with
  | [x0, x1, x2, x3], _, [c0, c1, c2, c3, c4, c5], _ =>
  have f0 : DataW.trod enc Go.Proofs.Try.prog w base spare held n 5 ([c0, c1, c2, c3, c4, c5].take (Go.Proofs.Try.prog.cellsOf 5)) = some x0 := hf 0 _ rfl
  have f1 : DataW.trod enc Go.Proofs.Try.prog w base spare held n 3 ([c1, c2, c3, c4, c5].take (Go.Proofs.Try.prog.cellsOf 3)) = some x1 := hf 1 _ rfl
  have f2 : DataW.trod enc Go.Proofs.Try.prog w base spare held n 3 ([c2, c3, c4, c5].take (Go.Proofs.Try.prog.cellsOf 3)) = some x2 := hf 2 _ rfl
  have f3 : DataW.trod enc Go.Proofs.Try.prog w base spare held n 24 ([c3, c4, c5].take (Go.Proofs.Try.prog.cellsOf 24)) = some x3 := hf 3 _ rfl
  rw [cc5] at f0
  rw [cc3] at f1 f2
  rw [cc24] at f3
  obtain ⟨k, e0, rfl, w0⟩ := field_int Go.Proofs.Try.underlying5 f0
  obtain ⟨a, e1, rfl, w1⟩ := field_int Go.Proofs.Try.underlying3 f1
  obtain ⟨e, e2, rfl, w2⟩ := field_int Go.Proofs.Try.underlying3 f2
  simp [Value.cells] at e0 e1 e2
  subst e0 e1 e2
  obtain ⟨p, q, g, rfl, rfl, rfl, rfl, w3, w4, w5⟩ := open_group (show DataW.trod enc Go.Proofs.Try.prog w base spare held n 24 [c3, c4, c5] = some x3 from f3)
  obtain ⟨hx1, hx2⟩ := Prod.mk.inj hx
  obtain ⟨m, rfl⟩ : ∃ m : Nat, k = m := ⟨k.toNat, by have := bounds_u8 w0; omega⟩
  exact ⟨m, a, e, p, q, g, rfl, hx1, by simpa using hx2, w0, w1, w2, w3, w4, w5⟩
theorem shut_scheme {k a e p q g : Int} (w0 : (Lit.int .u8 k).wf = true) (w1 : (Lit.int .i64 a).wf = true) (w2 : (Lit.int .i64 e).wf = true) (w3 : (Lit.int .u64 p).wf = true) (w4 : (Lit.int .u64 q).wf = true) (w5 : (Lit.int .u64 g).wf = true) :
    DataW.Trod enc Go.Proofs.Try.prog w base spare held 26 (schV k a e p q g) (schD k a e p q g) [] := by
  refine ⟨4, ?_⟩
  have hg : DataW.trod enc Go.Proofs.Try.prog w base spare held 3 24 [.int .u64 p, .int .u64 q, .int .u64 g] = some (grpD p q g, []) := shut_group (n := 1) w3 w4 w5
  have h0 : DataW.trod enc Go.Proofs.Try.prog w base spare held 3 5 [.int .u8 k] = some (.lit (.int .u8 k), []) := by simp [DataW.trod, Go.Proofs.Try.underlying5, w0]
  have h1 : ∀ a : Int, (Lit.int .i64 a).wf = true → DataW.trod enc Go.Proofs.Try.prog w base spare held 3 3 [.int .i64 a] = some (.lit (.int .i64 a), []) := fun a wa => by simp [DataW.trod, Go.Proofs.Try.underlying3, wa]
  have := trod_struct_mk (enc := enc) (w := w) (base := base) (spare := spare) (held := held) (n := 3) (cs := [.int .u8 k, .int .i64 a, .int .i64 e, .int .u64 p, .int .u64 q, .int .u64 g]) (xs := [(.lit (.int .u8 k), []), (.lit (.int .i64 a), []), (.lit (.int .i64 e), []), (grpD p q g, [])]) Go.Proofs.Try.underlying26 (by rw [cc26]; rfl) (by
    simp only [List.mapM_cons, List.mapM_nil, cc5, cc3, cc24, List.drop_zero, List.drop_succ_cons, List.take_succ_cons, List.take_zero]
    rw [h0, h1 a w1, h1 e w2, hg]
    rfl)
  exact this
end
theorem kept_below {w w' : World} (hb : Below w.heap.size w w') (may : MemPlace → Prop) : w.keptBut w' may := by
  refine ⟨hb.os, hb.output, fun i hi => ?_⟩
  rw [hb.block i hi]
  exact (World.keptBut_refl w may).2.2 i hi
end Go.YtoeophdffhmpmaaE
namespace Go.Proofs.Ytoeophdffhmpmaa
open Go Go.RowKit Go.ChangeShapes Go.WideShapes Go.ChangeAt Go.YtoeophdffhmpmaaE

theorem own : ownKnob Try.prog.godebug = none := by kernel_rfl
theorem kidsP : Kids Try.prog (· < Try.prog.types.size) := kids_rows (by kernel_rfl) (by kernel_rfl)
theorem fullP : ∀ t e, t < Try.prog.types.size → Try.prog.underlying t = some (.slice e) → 0 < Try.prog.cellsOf e := slices_full_of Try.prog (by kernel_rfl)
end Go.Proofs.Ytoeophdffhmpmaa
end

section
set_option linter.unusedVariables false
set_option linter.unusedSimpArgs false
set_option maxRecDepth 100000
namespace Go.YtoeophdffhmpmaaE
open Go Go.RowKit Go.ChangeShapes Go.WideShapes Go.ChangeAt

section
variable {H : Type} {enc : TypeId × Value → H} {w : World} {base : Nat} {spare : Nat → Bool} {held : Bool}
theorem cc50 : Go.Proofs.Try.prog.cellsOf 50 = 9 := by kernel_rfl
def needV (d r s h hp sp p q g : Int) : Value := .agg #[.int .i64 d, .int .i64 r, .int .i64 s, .int .i64 h, .int .i64 hp, .int .i64 sp, .int .u64 p, .int .u64 q, .int .u64 g]
theorem open_need {b0 : Nat} {v : Value} {d : DataW H} {ps : List MemPlace} (hval : Value.okWide Go.Proofs.Try.prog w .any b0 50 v) (hd : DataW.Trod enc Go.Proofs.Try.prog w base spare held 50 v d ps) :
    ∃ (a1 a2 a3 a4 a5 a6 : Int) (p q g : Nat), v = needV a1 a2 a3 a4 a5 a6 p q g ∧ p < 18446744073709551616 ∧ q < 18446744073709551616 ∧ g < 18446744073709551616 := by
  unfold Value.okWide at hval
  rw [Go.Proofs.Try.underlying50] at hval
  obtain ⟨cs, rfl, hsz, _⟩ := hval
  rw [cc50] at hsz
  obtain ⟨fuel, h⟩ := hd
  obtain ⟨xs, n, _, hx, hl, hlen, hf⟩ := DataW.trod_struct Go.Proofs.Try.underlying50 h
  obtain ⟨l⟩ := cs
  match xs, hlen, l, hsz with
  | [x0, x1, x2, x3, x4, x5, x6], _, [c0, c1, c2, c3, c4, c5, c6, c7, c8], _ =>
  have f0 : DataW.trod enc Go.Proofs.Try.prog w base spare held n 3 ([c0, c1, c2, c3, c4, c5, c6, c7, c8].take (Go.Proofs.Try.prog.cellsOf 3)) = some x0 := hf 0 _ rfl
  have f1 : DataW.trod enc Go.Proofs.Try.prog w base spare held n 3 ([c1, c2, c3, c4, c5, c6, c7, c8].take (Go.Proofs.Try.prog.cellsOf 3)) = some x1 := hf 1 _ rfl
  have f2 : DataW.trod enc Go.Proofs.Try.prog w base spare held n 3 ([c2, c3, c4, c5, c6, c7, c8].take (Go.Proofs.Try.prog.cellsOf 3)) = some x2 := hf 2 _ rfl
  have f3 : DataW.trod enc Go.Proofs.Try.prog w base spare held n 3 ([c3, c4, c5, c6, c7, c8].take (Go.Proofs.Try.prog.cellsOf 3)) = some x3 := hf 3 _ rfl
  have f4 : DataW.trod enc Go.Proofs.Try.prog w base spare held n 3 ([c4, c5, c6, c7, c8].take (Go.Proofs.Try.prog.cellsOf 3)) = some x4 := hf 4 _ rfl
  have f5 : DataW.trod enc Go.Proofs.Try.prog w base spare held n 3 ([c5, c6, c7, c8].take (Go.Proofs.Try.prog.cellsOf 3)) = some x5 := hf 5 _ rfl
  have f6 : DataW.trod enc Go.Proofs.Try.prog w base spare held n 24 ([c6, c7, c8].take (Go.Proofs.Try.prog.cellsOf 24)) = some x6 := hf 6 _ rfl
  rw [cc3] at f0 f1 f2 f3 f4 f5
  rw [cc24] at f6
  obtain ⟨a1, e0, rfl, w0⟩ := field_int Go.Proofs.Try.underlying3 f0
  obtain ⟨a2, e1, rfl, w1⟩ := field_int Go.Proofs.Try.underlying3 f1
  obtain ⟨a3, e2, rfl, w2⟩ := field_int Go.Proofs.Try.underlying3 f2
  obtain ⟨a4, e3, rfl, w3⟩ := field_int Go.Proofs.Try.underlying3 f3
  obtain ⟨a5, e4, rfl, w4⟩ := field_int Go.Proofs.Try.underlying3 f4
  obtain ⟨a6, e5, rfl, w5⟩ := field_int Go.Proofs.Try.underlying3 f5
  simp [Value.cells] at e0 e1 e2 e3 e4 e5
  subst e0 e1 e2 e3 e4 e5
  obtain ⟨p, q, g, rfl, rfl, rfl, rfl, w6, w7, w8⟩ := open_group (show DataW.trod enc Go.Proofs.Try.prog w base spare held n 24 [c6, c7, c8] = some x6 from f6)
  have b6 := bounds_u64 w6
  have b7 := bounds_u64 w7
  have b8 := bounds_u64 w8
  obtain ⟨p, rfl⟩ : ∃ m : Nat, p = m := ⟨p.toNat, by omega⟩
  obtain ⟨q, rfl⟩ : ∃ m : Nat, q = m := ⟨q.toNat, by omega⟩
  obtain ⟨g, rfl⟩ : ∃ m : Nat, g = m := ⟨g.toNat, by omega⟩
  exact ⟨a1, a2, a3, a4, a5, a6, p, q, g, rfl, by omega, by omega, by omega⟩
end
end Go.YtoeophdffhmpmaaE
end

section
set_option linter.unusedVariables false
set_option linter.unusedSimpArgs false
set_option maxRecDepth 100000
namespace Go.YtoeophdffhmpmaaE
open Go Go.RowKit

theorem lv_one (d g s : Nat) (F : List Int) (hF : lvl 1 d g 0 = F) : lvl 1 d (g + 1) s = 1 :: (List.range (2 ^ (g + 1))).map fun i => (bestZ 1 F [] 0 g (i + 1)).1 := by
  subst hF
  show (1 : Int) :: _ = _
  refine congrArg _ (List.map_congr_left fun i _ => ?_)
  unfold bestZ
  congr 1
theorem lv_succ (k d g s b : Nat) (F L : List Int) (hk : k ≠ 1) (hb : belowN k d s (g + 1) = b) (hF : lvl k d g 0 = F) (hL : lvl k d g b = L) :
    lvl k d (g + 1) s = 0 :: (List.range (2 ^ (g + 1))).map fun i => (bestZ k F L (moreZ s) g (i + 1)).1 := by
  subst hb hF hL
  show (if k = 1 then (1 : Int) else 0) :: _ = _
  rw [if_neg hk]
theorem lv1_0 (d : Nat) : lvl 1 d 0 0 = [1, 0] := rfl
theorem lv1_1 (d : Nat) : lvl 1 d 1 0 = [1, 1, 0] := (lv_one d 0 0 _ (lv1_0 d)).trans (by decide +kernel)
theorem lv1_2 (d : Nat) : lvl 1 d 2 0 = [1, 2, 2, 1, 0] := (lv_one d 1 0 _ (lv1_1 d)).trans (by decide +kernel)
theorem lv1_3 (d : Nat) : lvl 1 d 3 0 = [1, 3, 4, 4, 4, 3, 2, 1, 0] := (lv_one d 2 0 _ (lv1_2 d)).trans (by decide +kernel)
theorem lv1_4 (d : Nat) : lvl 1 d 4 0 = [1, 4, 6, 7, 8, 8, 8, 8, 8, 7, 6, 5, 4, 3, 2, 1, 0] := (lv_one d 3 0 _ (lv1_3 d)).trans (by decide +kernel)
theorem lv1_5 (d : Nat) : lvl 1 d 5 0 = [1, 5, 8, 10, 12, 13, 14, 15, 16, 16, 16, 16, 16, 16, 16, 16, 16, 15, 14, 13, 12, 11, 10, 9, 8, 7, 6, 5, 4, 3, 2, 1, 0] := (lv_one d 4 0 _ (lv1_4 d)).trans (by decide +kernel)
theorem lv1_6 (d : Nat) : lvl 1 d 6 0 = [1, 6, 10, 13, 16, 18, 20, 22, 24, 25, 26, 27, 28, 29, 30, 31, 32, 32, 32, 32, 32, 32, 32, 32, 32, 32, 32, 32, 32, 32, 32, 32, 32, 31, 30, 29, 28, 27, 26, 25, 24, 23, 22, 21, 20, 19, 18, 17, 16, 15, 14, 13, 12, 11, 10, 9, 8, 7, 6, 5, 4, 3, 2, 1, 0] := (lv_one d 5 0 _ (lv1_5 d)).trans (by decide +kernel)
theorem lv2_0_0 (d : Nat) : lvl 2 d 0 0 = [0, 0] := rfl
theorem lv2_0_1 (d : Nat) : lvl 2 d 0 1 = [0, 1] := rfl
theorem lv2_1_0 (d : Nat) : lvl 2 d 1 0 = [0, 1, 0] := (lv_succ 2 d 0 0 1 _ _ (by decide) rfl (lv2_0_0 d) (lv2_0_1 d)).trans (by decide +kernel)
theorem lv2_1_1 (d : Nat) : lvl 2 d 1 1 = [0, 1, 1] := (lv_succ 2 d 0 1 1 _ _ (by decide) rfl (lv2_0_0 d) (lv2_0_1 d)).trans (by decide +kernel)
theorem lv2_2_0 (d : Nat) : lvl 2 d 2 0 = [0, 1, 2, 1, 0] := (lv_succ 2 d 1 0 1 _ _ (by decide) rfl (lv2_1_0 d) (lv2_1_1 d)).trans (by decide +kernel)
theorem lv2_2_1 (d : Nat) : lvl 2 d 2 1 = [0, 1, 3, 2, 1] := (lv_succ 2 d 1 1 1 _ _ (by decide) rfl (lv2_1_0 d) (lv2_1_1 d)).trans (by decide +kernel)
theorem lv2_3_0 (d : Nat) : lvl 2 d 3 0 = [0, 1, 3, 3, 4, 3, 2, 1, 0] := (lv_succ 2 d 2 0 1 _ _ (by decide) rfl (lv2_2_0 d) (lv2_2_1 d)).trans (by decide +kernel)
theorem lv2_3_1 (d : Nat) : lvl 2 d 3 1 = [0, 1, 3, 4, 5, 4, 3, 2, 1] := (lv_succ 2 d 2 1 1 _ _ (by decide) rfl (lv2_2_0 d) (lv2_2_1 d)).trans (by decide +kernel)
theorem lv2_4_0 (d : Nat) : lvl 2 d 4 0 = [0, 1, 3, 4, 6, 6, 7, 7, 8, 7, 6, 5, 4, 3, 2, 1, 0] := (lv_succ 2 d 3 0 1 _ _ (by decide) rfl (lv2_3_0 d) (lv2_3_1 d)).trans (by decide +kernel)
theorem lv2_4_1 (d : Nat) : lvl 2 d 4 1 = [0, 1, 3, 5, 7, 7, 8, 8, 9, 8, 7, 6, 5, 4, 3, 2, 1] := (lv_succ 2 d 3 1 1 _ _ (by decide) rfl (lv2_3_0 d) (lv2_3_1 d)).trans (by decide +kernel)
theorem lv2_5_0 (d : Nat) : lvl 2 d 5 0 = [0, 1, 3, 5, 7, 7, 9, 10, 12, 12, 13, 13, 14, 14, 15, 15, 16, 15, 14, 13, 12, 11, 10, 9, 8, 7, 6, 5, 4, 3, 2, 1, 0] := (lv_succ 2 d 4 0 1 _ _ (by decide) rfl (lv2_4_0 d) (lv2_4_1 d)).trans (by decide +kernel)
theorem lv2_5_1 (d : Nat) : lvl 2 d 5 1 = [0, 1, 3, 5, 7, 8, 10, 11, 13, 13, 14, 14, 15, 15, 16, 16, 17, 16, 15, 14, 13, 12, 11, 10, 9, 8, 7, 6, 5, 4, 3, 2, 1] := (lv_succ 2 d 4 1 1 _ _ (by decide) rfl (lv2_4_0 d) (lv2_4_1 d)).trans (by decide +kernel)
theorem lv2_6_0 (d : Nat) : lvl 2 d 6 0 = [0, 1, 3, 5, 7, 8, 10, 12, 14, 14, 16, 17, 19, 19, 21, 22, 24, 24, 25, 25, 26, 26, 27, 27, 28, 28, 29, 29, 30, 30, 31, 31, 32, 31, 30, 29, 28, 27, 26, 25, 24, 23, 22, 21, 20, 19, 18, 17, 16, 15, 14, 13, 12, 11, 10, 9, 8, 7, 6, 5, 4, 3, 2, 1, 0] := (lv_succ 2 d 5 0 1 _ _ (by decide) rfl (lv2_5_0 d) (lv2_5_1 d)).trans (by decide +kernel)
theorem lv2_6_1 (d : Nat) : lvl 2 d 6 1 = [0, 1, 3, 5, 7, 9, 11, 13, 15, 15, 17, 18, 20, 20, 22, 23, 25, 25, 26, 26, 27, 27, 28, 28, 29, 29, 30, 30, 31, 31, 32, 32, 33, 32, 31, 30, 29, 28, 27, 26, 25, 24, 23, 22, 21, 20, 19, 18, 17, 16, 15, 14, 13, 12, 11, 10, 9, 8, 7, 6, 5, 4, 3, 2, 1] := (lv_succ 2 d 5 1 1 _ _ (by decide) rfl (lv2_5_0 d) (lv2_5_1 d)).trans (by decide +kernel)
theorem lv3_0_0_0 : lvl 3 0 0 0 = [0, 0] := rfl
theorem lv3_0_0_1 : lvl 3 0 0 1 = [0, 1] := rfl
theorem lv3_0_0_2 : lvl 3 0 0 2 = [0, 1] := rfl
theorem lv3_0_0_3 : lvl 3 0 0 3 = [0, 2] := rfl
theorem lv3_1_0_0 : lvl 3 1 0 0 = [0, 0] := rfl
theorem lv3_1_0_1 : lvl 3 1 0 1 = [0, 1] := rfl
theorem lv3_1_0_2 : lvl 3 1 0 2 = [0, 1] := rfl
theorem lv3_1_0_3 : lvl 3 1 0 3 = [0, 2] := rfl
theorem lv3_1_1_0 : lvl 3 1 1 0 = [0, 1, 0] := (lv_succ 3 1 0 0 1 _ _ (by decide) (by decide) lv3_1_0_0 lv3_1_0_1).trans (by decide +kernel)
theorem lv3_1_1_1 : lvl 3 1 1 1 = [0, 1, 1] := (lv_succ 3 1 0 1 1 _ _ (by decide) (by decide) lv3_1_0_0 lv3_1_0_1).trans (by decide +kernel)
theorem lv3_1_1_2 : lvl 3 1 1 2 = [0, 2, 1] := (lv_succ 3 1 0 2 3 _ _ (by decide) (by decide) lv3_1_0_0 lv3_1_0_3).trans (by decide +kernel)
theorem lv3_1_1_3 : lvl 3 1 1 3 = [0, 2, 2] := (lv_succ 3 1 0 3 3 _ _ (by decide) (by decide) lv3_1_0_0 lv3_1_0_3).trans (by decide +kernel)
theorem lv3_2_0_0 : lvl 3 2 0 0 = [0, 0] := rfl
theorem lv3_2_0_1 : lvl 3 2 0 1 = [0, 1] := rfl
theorem lv3_2_0_2 : lvl 3 2 0 2 = [0, 1] := rfl
theorem lv3_2_0_3 : lvl 3 2 0 3 = [0, 2] := rfl
theorem lv3_2_1_0 : lvl 3 2 1 0 = [0, 1, 0] := (lv_succ 3 2 0 0 2 _ _ (by decide) (by decide) lv3_2_0_0 lv3_2_0_2).trans (by decide +kernel)
theorem lv3_2_1_1 : lvl 3 2 1 1 = [0, 1, 1] := (lv_succ 3 2 0 1 1 _ _ (by decide) (by decide) lv3_2_0_0 lv3_2_0_1).trans (by decide +kernel)
theorem lv3_2_1_2 : lvl 3 2 1 2 = [0, 1, 1] := (lv_succ 3 2 0 2 2 _ _ (by decide) (by decide) lv3_2_0_0 lv3_2_0_2).trans (by decide +kernel)
theorem lv3_2_1_3 : lvl 3 2 1 3 = [0, 2, 2] := (lv_succ 3 2 0 3 3 _ _ (by decide) (by decide) lv3_2_0_0 lv3_2_0_3).trans (by decide +kernel)
theorem lv3_2_2_0 : lvl 3 2 2 0 = [0, 1, 2, 1, 0] := (lv_succ 3 2 1 0 1 _ _ (by decide) (by decide) lv3_2_1_0 lv3_2_1_1).trans (by decide +kernel)
theorem lv3_2_2_1 : lvl 3 2 2 1 = [0, 1, 3, 2, 1] := (lv_succ 3 2 1 1 1 _ _ (by decide) (by decide) lv3_2_1_0 lv3_2_1_1).trans (by decide +kernel)
theorem lv3_2_2_2 : lvl 3 2 2 2 = [0, 2, 3, 2, 1] := (lv_succ 3 2 1 2 3 _ _ (by decide) (by decide) lv3_2_1_0 lv3_2_1_3).trans (by decide +kernel)
theorem lv3_2_2_3 : lvl 3 2 2 3 = [0, 2, 4, 3, 2] := (lv_succ 3 2 1 3 3 _ _ (by decide) (by decide) lv3_2_1_0 lv3_2_1_3).trans (by decide +kernel)
theorem lv3_3_0_0 : lvl 3 3 0 0 = [0, 0] := rfl
theorem lv3_3_0_1 : lvl 3 3 0 1 = [0, 1] := rfl
theorem lv3_3_0_2 : lvl 3 3 0 2 = [0, 1] := rfl
theorem lv3_3_0_3 : lvl 3 3 0 3 = [0, 2] := rfl
theorem lv3_3_1_0 : lvl 3 3 1 0 = [0, 1, 0] := (lv_succ 3 3 0 0 1 _ _ (by decide) (by decide) lv3_3_0_0 lv3_3_0_1).trans (by decide +kernel)
theorem lv3_3_1_1 : lvl 3 3 1 1 = [0, 1, 1] := (lv_succ 3 3 0 1 1 _ _ (by decide) (by decide) lv3_3_0_0 lv3_3_0_1).trans (by decide +kernel)
theorem lv3_3_1_2 : lvl 3 3 1 2 = [0, 2, 1] := (lv_succ 3 3 0 2 3 _ _ (by decide) (by decide) lv3_3_0_0 lv3_3_0_3).trans (by decide +kernel)
theorem lv3_3_1_3 : lvl 3 3 1 3 = [0, 2, 2] := (lv_succ 3 3 0 3 3 _ _ (by decide) (by decide) lv3_3_0_0 lv3_3_0_3).trans (by decide +kernel)
theorem lv3_3_2_0 : lvl 3 3 2 0 = [0, 2, 2, 1, 0] := (lv_succ 3 3 1 0 2 _ _ (by decide) (by decide) lv3_3_1_0 lv3_3_1_2).trans (by decide +kernel)
theorem lv3_3_2_1 : lvl 3 3 2 1 = [0, 1, 3, 2, 1] := (lv_succ 3 3 1 1 1 _ _ (by decide) (by decide) lv3_3_1_0 lv3_3_1_1).trans (by decide +kernel)
theorem lv3_3_2_2 : lvl 3 3 2 2 = [0, 2, 3, 2, 1] := (lv_succ 3 3 1 2 2 _ _ (by decide) (by decide) lv3_3_1_0 lv3_3_1_2).trans (by decide +kernel)
theorem lv3_3_2_3 : lvl 3 3 2 3 = [0, 2, 4, 3, 2] := (lv_succ 3 3 1 3 3 _ _ (by decide) (by decide) lv3_3_1_0 lv3_3_1_3).trans (by decide +kernel)
theorem lv3_3_3_0 : lvl 3 3 3 0 = [0, 1, 4, 4, 4, 3, 2, 1, 0] := (lv_succ 3 3 2 0 1 _ _ (by decide) (by decide) lv3_3_2_0 lv3_3_2_1).trans (by decide +kernel)
theorem lv3_3_3_1 : lvl 3 3 3 1 = [0, 1, 5, 5, 5, 4, 3, 2, 1] := (lv_succ 3 3 2 1 1 _ _ (by decide) (by decide) lv3_3_2_0 lv3_3_2_1).trans (by decide +kernel)
theorem lv3_3_3_2 : lvl 3 3 3 2 = [0, 2, 5, 5, 5, 4, 3, 2, 1] := (lv_succ 3 3 2 2 3 _ _ (by decide) (by decide) lv3_3_2_0 lv3_3_2_3).trans (by decide +kernel)
theorem lv3_3_3_3 : lvl 3 3 3 3 = [0, 2, 6, 6, 6, 5, 4, 3, 2] := (lv_succ 3 3 2 3 3 _ _ (by decide) (by decide) lv3_3_2_0 lv3_3_2_3).trans (by decide +kernel)
theorem lv3_4_0_0 : lvl 3 4 0 0 = [0, 0] := rfl
theorem lv3_4_0_1 : lvl 3 4 0 1 = [0, 1] := rfl
theorem lv3_4_0_2 : lvl 3 4 0 2 = [0, 1] := rfl
theorem lv3_4_0_3 : lvl 3 4 0 3 = [0, 2] := rfl
theorem lv3_4_1_0 : lvl 3 4 1 0 = [0, 1, 0] := (lv_succ 3 4 0 0 2 _ _ (by decide) (by decide) lv3_4_0_0 lv3_4_0_2).trans (by decide +kernel)
theorem lv3_4_1_1 : lvl 3 4 1 1 = [0, 1, 1] := (lv_succ 3 4 0 1 1 _ _ (by decide) (by decide) lv3_4_0_0 lv3_4_0_1).trans (by decide +kernel)
theorem lv3_4_1_2 : lvl 3 4 1 2 = [0, 1, 1] := (lv_succ 3 4 0 2 2 _ _ (by decide) (by decide) lv3_4_0_0 lv3_4_0_2).trans (by decide +kernel)
theorem lv3_4_1_3 : lvl 3 4 1 3 = [0, 2, 2] := (lv_succ 3 4 0 3 3 _ _ (by decide) (by decide) lv3_4_0_0 lv3_4_0_3).trans (by decide +kernel)
theorem lv3_4_2_0 : lvl 3 4 2 0 = [0, 1, 2, 1, 0] := (lv_succ 3 4 1 0 1 _ _ (by decide) (by decide) lv3_4_1_0 lv3_4_1_1).trans (by decide +kernel)
theorem lv3_4_2_1 : lvl 3 4 2 1 = [0, 1, 3, 2, 1] := (lv_succ 3 4 1 1 1 _ _ (by decide) (by decide) lv3_4_1_0 lv3_4_1_1).trans (by decide +kernel)
theorem lv3_4_2_2 : lvl 3 4 2 2 = [0, 2, 3, 2, 1] := (lv_succ 3 4 1 2 3 _ _ (by decide) (by decide) lv3_4_1_0 lv3_4_1_3).trans (by decide +kernel)
theorem lv3_4_2_3 : lvl 3 4 2 3 = [0, 2, 4, 3, 2] := (lv_succ 3 4 1 3 3 _ _ (by decide) (by decide) lv3_4_1_0 lv3_4_1_3).trans (by decide +kernel)
theorem lv3_4_3_0 : lvl 3 4 3 0 = [0, 2, 3, 3, 4, 3, 2, 1, 0] := (lv_succ 3 4 2 0 2 _ _ (by decide) (by decide) lv3_4_2_0 lv3_4_2_2).trans (by decide +kernel)
theorem lv3_4_3_1 : lvl 3 4 3 1 = [0, 1, 3, 4, 5, 4, 3, 2, 1] := (lv_succ 3 4 2 1 1 _ _ (by decide) (by decide) lv3_4_2_0 lv3_4_2_1).trans (by decide +kernel)
theorem lv3_4_3_2 : lvl 3 4 3 2 = [0, 2, 3, 4, 5, 4, 3, 2, 1] := (lv_succ 3 4 2 2 2 _ _ (by decide) (by decide) lv3_4_2_0 lv3_4_2_2).trans (by decide +kernel)
theorem lv3_4_3_3 : lvl 3 4 3 3 = [0, 2, 4, 5, 6, 5, 4, 3, 2] := (lv_succ 3 4 2 3 3 _ _ (by decide) (by decide) lv3_4_2_0 lv3_4_2_3).trans (by decide +kernel)
theorem lv3_4_4_0 : lvl 3 4 4 0 = [0, 1, 4, 5, 6, 6, 7, 7, 8, 7, 6, 5, 4, 3, 2, 1, 0] := (lv_succ 3 4 3 0 1 _ _ (by decide) (by decide) lv3_4_3_0 lv3_4_3_1).trans (by decide +kernel)
theorem lv3_4_4_1 : lvl 3 4 4 1 = [0, 1, 5, 6, 7, 7, 8, 8, 9, 8, 7, 6, 5, 4, 3, 2, 1] := (lv_succ 3 4 3 1 1 _ _ (by decide) (by decide) lv3_4_3_0 lv3_4_3_1).trans (by decide +kernel)
theorem lv3_4_4_2 : lvl 3 4 4 2 = [0, 2, 5, 6, 7, 7, 8, 8, 9, 8, 7, 6, 5, 4, 3, 2, 1] := (lv_succ 3 4 3 2 3 _ _ (by decide) (by decide) lv3_4_3_0 lv3_4_3_3).trans (by decide +kernel)
theorem lv3_4_4_3 : lvl 3 4 4 3 = [0, 2, 6, 7, 8, 8, 9, 9, 10, 9, 8, 7, 6, 5, 4, 3, 2] := (lv_succ 3 4 3 3 3 _ _ (by decide) (by decide) lv3_4_3_0 lv3_4_3_3).trans (by decide +kernel)
theorem lv3_5_0_0 : lvl 3 5 0 0 = [0, 0] := rfl
theorem lv3_5_0_1 : lvl 3 5 0 1 = [0, 1] := rfl
theorem lv3_5_0_2 : lvl 3 5 0 2 = [0, 1] := rfl
theorem lv3_5_0_3 : lvl 3 5 0 3 = [0, 2] := rfl
theorem lv3_5_1_0 : lvl 3 5 1 0 = [0, 1, 0] := (lv_succ 3 5 0 0 2 _ _ (by decide) (by decide) lv3_5_0_0 lv3_5_0_2).trans (by decide +kernel)
theorem lv3_5_1_1 : lvl 3 5 1 1 = [0, 1, 1] := (lv_succ 3 5 0 1 1 _ _ (by decide) (by decide) lv3_5_0_0 lv3_5_0_1).trans (by decide +kernel)
theorem lv3_5_1_2 : lvl 3 5 1 2 = [0, 1, 1] := (lv_succ 3 5 0 2 2 _ _ (by decide) (by decide) lv3_5_0_0 lv3_5_0_2).trans (by decide +kernel)
theorem lv3_5_1_3 : lvl 3 5 1 3 = [0, 2, 2] := (lv_succ 3 5 0 3 3 _ _ (by decide) (by decide) lv3_5_0_0 lv3_5_0_3).trans (by decide +kernel)
theorem lv3_5_2_0 : lvl 3 5 2 0 = [0, 1, 2, 1, 0] := (lv_succ 3 5 1 0 1 _ _ (by decide) (by decide) lv3_5_1_0 lv3_5_1_1).trans (by decide +kernel)
theorem lv3_5_2_1 : lvl 3 5 2 1 = [0, 1, 3, 2, 1] := (lv_succ 3 5 1 1 1 _ _ (by decide) (by decide) lv3_5_1_0 lv3_5_1_1).trans (by decide +kernel)
theorem lv3_5_2_2 : lvl 3 5 2 2 = [0, 2, 3, 2, 1] := (lv_succ 3 5 1 2 3 _ _ (by decide) (by decide) lv3_5_1_0 lv3_5_1_3).trans (by decide +kernel)
theorem lv3_5_2_3 : lvl 3 5 2 3 = [0, 2, 4, 3, 2] := (lv_succ 3 5 1 3 3 _ _ (by decide) (by decide) lv3_5_1_0 lv3_5_1_3).trans (by decide +kernel)
theorem lv3_5_3_0 : lvl 3 5 3 0 = [0, 2, 3, 3, 4, 3, 2, 1, 0] := (lv_succ 3 5 2 0 2 _ _ (by decide) (by decide) lv3_5_2_0 lv3_5_2_2).trans (by decide +kernel)
theorem lv3_5_3_1 : lvl 3 5 3 1 = [0, 1, 3, 4, 5, 4, 3, 2, 1] := (lv_succ 3 5 2 1 1 _ _ (by decide) (by decide) lv3_5_2_0 lv3_5_2_1).trans (by decide +kernel)
theorem lv3_5_3_2 : lvl 3 5 3 2 = [0, 2, 3, 4, 5, 4, 3, 2, 1] := (lv_succ 3 5 2 2 2 _ _ (by decide) (by decide) lv3_5_2_0 lv3_5_2_2).trans (by decide +kernel)
theorem lv3_5_3_3 : lvl 3 5 3 3 = [0, 2, 4, 5, 6, 5, 4, 3, 2] := (lv_succ 3 5 2 3 3 _ _ (by decide) (by decide) lv3_5_2_0 lv3_5_2_3).trans (by decide +kernel)
theorem lv3_5_4_0 : lvl 3 5 4 0 = [0, 2, 4, 5, 6, 6, 7, 7, 8, 7, 6, 5, 4, 3, 2, 1, 0] := (lv_succ 3 5 3 0 2 _ _ (by decide) (by decide) lv3_5_3_0 lv3_5_3_2).trans (by decide +kernel)
theorem lv3_5_4_1 : lvl 3 5 4 1 = [0, 1, 5, 6, 7, 7, 8, 8, 9, 8, 7, 6, 5, 4, 3, 2, 1] := (lv_succ 3 5 3 1 1 _ _ (by decide) (by decide) lv3_5_3_0 lv3_5_3_1).trans (by decide +kernel)
theorem lv3_5_4_2 : lvl 3 5 4 2 = [0, 2, 5, 6, 7, 7, 8, 8, 9, 8, 7, 6, 5, 4, 3, 2, 1] := (lv_succ 3 5 3 2 2 _ _ (by decide) (by decide) lv3_5_3_0 lv3_5_3_2).trans (by decide +kernel)
theorem lv3_5_4_3 : lvl 3 5 4 3 = [0, 2, 6, 7, 8, 8, 9, 9, 10, 9, 8, 7, 6, 5, 4, 3, 2] := (lv_succ 3 5 3 3 3 _ _ (by decide) (by decide) lv3_5_3_0 lv3_5_3_3).trans (by decide +kernel)
theorem lv3_5_5_0 : lvl 3 5 5 0 = [0, 1, 5, 6, 8, 9, 10, 11, 12, 12, 13, 13, 14, 14, 15, 15, 16, 15, 14, 13, 12, 11, 10, 9, 8, 7, 6, 5, 4, 3, 2, 1, 0] := (lv_succ 3 5 4 0 1 _ _ (by decide) (by decide) lv3_5_4_0 lv3_5_4_1).trans (by decide +kernel)
theorem lv3_5_5_1 : lvl 3 5 5 1 = [0, 1, 5, 7, 9, 10, 11, 12, 13, 13, 14, 14, 15, 15, 16, 16, 17, 16, 15, 14, 13, 12, 11, 10, 9, 8, 7, 6, 5, 4, 3, 2, 1] := (lv_succ 3 5 4 1 1 _ _ (by decide) (by decide) lv3_5_4_0 lv3_5_4_1).trans (by decide +kernel)
theorem lv3_5_5_2 : lvl 3 5 5 2 = [0, 2, 6, 7, 9, 10, 11, 12, 13, 13, 14, 14, 15, 15, 16, 16, 17, 16, 15, 14, 13, 12, 11, 10, 9, 8, 7, 6, 5, 4, 3, 2, 1] := (lv_succ 3 5 4 2 3 _ _ (by decide) (by decide) lv3_5_4_0 lv3_5_4_3).trans (by decide +kernel)
theorem lv3_5_5_3 : lvl 3 5 5 3 = [0, 2, 6, 8, 10, 11, 12, 13, 14, 14, 15, 15, 16, 16, 17, 17, 18, 17, 16, 15, 14, 13, 12, 11, 10, 9, 8, 7, 6, 5, 4, 3, 2] := (lv_succ 3 5 4 3 3 _ _ (by decide) (by decide) lv3_5_4_0 lv3_5_4_3).trans (by decide +kernel)
theorem lv3_6_0_0 : lvl 3 6 0 0 = [0, 0] := rfl
theorem lv3_6_0_1 : lvl 3 6 0 1 = [0, 1] := rfl
theorem lv3_6_0_2 : lvl 3 6 0 2 = [0, 1] := rfl
theorem lv3_6_0_3 : lvl 3 6 0 3 = [0, 2] := rfl
theorem lv3_6_1_0 : lvl 3 6 1 0 = [0, 1, 0] := (lv_succ 3 6 0 0 2 _ _ (by decide) (by decide) lv3_6_0_0 lv3_6_0_2).trans (by decide +kernel)
theorem lv3_6_1_1 : lvl 3 6 1 1 = [0, 1, 1] := (lv_succ 3 6 0 1 1 _ _ (by decide) (by decide) lv3_6_0_0 lv3_6_0_1).trans (by decide +kernel)
theorem lv3_6_1_2 : lvl 3 6 1 2 = [0, 1, 1] := (lv_succ 3 6 0 2 2 _ _ (by decide) (by decide) lv3_6_0_0 lv3_6_0_2).trans (by decide +kernel)
theorem lv3_6_1_3 : lvl 3 6 1 3 = [0, 2, 2] := (lv_succ 3 6 0 3 3 _ _ (by decide) (by decide) lv3_6_0_0 lv3_6_0_3).trans (by decide +kernel)
theorem lv3_6_2_0 : lvl 3 6 2 0 = [0, 1, 2, 1, 0] := (lv_succ 3 6 1 0 2 _ _ (by decide) (by decide) lv3_6_1_0 lv3_6_1_2).trans (by decide +kernel)
theorem lv3_6_2_1 : lvl 3 6 2 1 = [0, 1, 3, 2, 1] := (lv_succ 3 6 1 1 1 _ _ (by decide) (by decide) lv3_6_1_0 lv3_6_1_1).trans (by decide +kernel)
theorem lv3_6_2_2 : lvl 3 6 2 2 = [0, 1, 3, 2, 1] := (lv_succ 3 6 1 2 2 _ _ (by decide) (by decide) lv3_6_1_0 lv3_6_1_2).trans (by decide +kernel)
theorem lv3_6_2_3 : lvl 3 6 2 3 = [0, 2, 4, 3, 2] := (lv_succ 3 6 1 3 3 _ _ (by decide) (by decide) lv3_6_1_0 lv3_6_1_3).trans (by decide +kernel)
theorem lv3_6_3_0 : lvl 3 6 3 0 = [0, 1, 3, 3, 4, 3, 2, 1, 0] := (lv_succ 3 6 2 0 1 _ _ (by decide) (by decide) lv3_6_2_0 lv3_6_2_1).trans (by decide +kernel)
theorem lv3_6_3_1 : lvl 3 6 3 1 = [0, 1, 3, 4, 5, 4, 3, 2, 1] := (lv_succ 3 6 2 1 1 _ _ (by decide) (by decide) lv3_6_2_0 lv3_6_2_1).trans (by decide +kernel)
theorem lv3_6_3_2 : lvl 3 6 3 2 = [0, 2, 4, 4, 5, 4, 3, 2, 1] := (lv_succ 3 6 2 2 3 _ _ (by decide) (by decide) lv3_6_2_0 lv3_6_2_3).trans (by decide +kernel)
theorem lv3_6_3_3 : lvl 3 6 3 3 = [0, 2, 4, 5, 6, 5, 4, 3, 2] := (lv_succ 3 6 2 3 3 _ _ (by decide) (by decide) lv3_6_2_0 lv3_6_2_3).trans (by decide +kernel)
theorem lv3_6_4_0 : lvl 3 6 4 0 = [0, 2, 4, 4, 6, 6, 7, 7, 8, 7, 6, 5, 4, 3, 2, 1, 0] := (lv_succ 3 6 3 0 2 _ _ (by decide) (by decide) lv3_6_3_0 lv3_6_3_2).trans (by decide +kernel)
theorem lv3_6_4_1 : lvl 3 6 4 1 = [0, 1, 3, 5, 7, 7, 8, 8, 9, 8, 7, 6, 5, 4, 3, 2, 1] := (lv_succ 3 6 3 1 1 _ _ (by decide) (by decide) lv3_6_3_0 lv3_6_3_1).trans (by decide +kernel)
theorem lv3_6_4_2 : lvl 3 6 4 2 = [0, 2, 4, 5, 7, 7, 8, 8, 9, 8, 7, 6, 5, 4, 3, 2, 1] := (lv_succ 3 6 3 2 2 _ _ (by decide) (by decide) lv3_6_3_0 lv3_6_3_2).trans (by decide +kernel)
theorem lv3_6_4_3 : lvl 3 6 4 3 = [0, 2, 4, 6, 8, 8, 9, 9, 10, 9, 8, 7, 6, 5, 4, 3, 2] := (lv_succ 3 6 3 3 3 _ _ (by decide) (by decide) lv3_6_3_0 lv3_6_3_3).trans (by decide +kernel)
theorem lv3_6_5_0 : lvl 3 6 5 0 = [0, 2, 4, 6, 8, 8, 10, 10, 12, 12, 13, 13, 14, 14, 15, 15, 16, 15, 14, 13, 12, 11, 10, 9, 8, 7, 6, 5, 4, 3, 2, 1, 0] := (lv_succ 3 6 4 0 2 _ _ (by decide) (by decide) lv3_6_4_0 lv3_6_4_2).trans (by decide +kernel)
theorem lv3_6_5_1 : lvl 3 6 5 1 = [0, 1, 5, 7, 9, 9, 11, 11, 13, 13, 14, 14, 15, 15, 16, 16, 17, 16, 15, 14, 13, 12, 11, 10, 9, 8, 7, 6, 5, 4, 3, 2, 1] := (lv_succ 3 6 4 1 1 _ _ (by decide) (by decide) lv3_6_4_0 lv3_6_4_1).trans (by decide +kernel)
theorem lv3_6_5_2 : lvl 3 6 5 2 = [0, 2, 5, 7, 9, 9, 11, 11, 13, 13, 14, 14, 15, 15, 16, 16, 17, 16, 15, 14, 13, 12, 11, 10, 9, 8, 7, 6, 5, 4, 3, 2, 1] := (lv_succ 3 6 4 2 2 _ _ (by decide) (by decide) lv3_6_4_0 lv3_6_4_2).trans (by decide +kernel)
theorem lv3_6_5_3 : lvl 3 6 5 3 = [0, 2, 6, 8, 10, 10, 12, 12, 14, 14, 15, 15, 16, 16, 17, 17, 18, 17, 16, 15, 14, 13, 12, 11, 10, 9, 8, 7, 6, 5, 4, 3, 2] := (lv_succ 3 6 4 3 3 _ _ (by decide) (by decide) lv3_6_4_0 lv3_6_4_3).trans (by decide +kernel)
theorem lv3_6_6_0 : lvl 3 6 6 0 = [0, 1, 5, 7, 9, 10, 12, 14, 16, 16, 18, 18, 20, 20, 22, 22, 24, 24, 25, 25, 26, 26, 27, 27, 28, 28, 29, 29, 30, 30, 31, 31, 32, 31, 30, 29, 28, 27, 26, 25, 24, 23, 22, 21, 20, 19, 18, 17, 16, 15, 14, 13, 12, 11, 10, 9, 8, 7, 6, 5, 4, 3, 2, 1, 0] := (lv_succ 3 6 5 0 1 _ _ (by decide) (by decide) lv3_6_5_0 lv3_6_5_1).trans (by decide +kernel)
theorem lv3_6_6_1 : lvl 3 6 6 1 = [0, 1, 5, 7, 9, 11, 13, 15, 17, 17, 19, 19, 21, 21, 23, 23, 25, 25, 26, 26, 27, 27, 28, 28, 29, 29, 30, 30, 31, 31, 32, 32, 33, 32, 31, 30, 29, 28, 27, 26, 25, 24, 23, 22, 21, 20, 19, 18, 17, 16, 15, 14, 13, 12, 11, 10, 9, 8, 7, 6, 5, 4, 3, 2, 1] := (lv_succ 3 6 5 1 1 _ _ (by decide) (by decide) lv3_6_5_0 lv3_6_5_1).trans (by decide +kernel)
theorem lv3_6_6_2 : lvl 3 6 6 2 = [0, 2, 6, 8, 10, 11, 13, 15, 17, 17, 19, 19, 21, 21, 23, 23, 25, 25, 26, 26, 27, 27, 28, 28, 29, 29, 30, 30, 31, 31, 32, 32, 33, 32, 31, 30, 29, 28, 27, 26, 25, 24, 23, 22, 21, 20, 19, 18, 17, 16, 15, 14, 13, 12, 11, 10, 9, 8, 7, 6, 5, 4, 3, 2, 1] := (lv_succ 3 6 5 2 3 _ _ (by decide) (by decide) lv3_6_5_0 lv3_6_5_3).trans (by decide +kernel)
theorem lv3_6_6_3 : lvl 3 6 6 3 = [0, 2, 6, 8, 10, 12, 14, 16, 18, 18, 20, 20, 22, 22, 24, 24, 26, 26, 27, 27, 28, 28, 29, 29, 30, 30, 31, 31, 32, 32, 33, 33, 34, 33, 32, 31, 30, 29, 28, 27, 26, 25, 24, 23, 22, 21, 20, 19, 18, 17, 16, 15, 14, 13, 12, 11, 10, 9, 8, 7, 6, 5, 4, 3, 2] := (lv_succ 3 6 5 3 3 _ _ (by decide) (by decide) lv3_6_5_0 lv3_6_5_3).trans (by decide +kernel)
end Go.YtoeophdffhmpmaaE
end

section
set_option linter.unusedVariables false
set_option linter.unusedSimpArgs false
set_option maxRecDepth 100000
set_option maxHeartbeats 1000000
namespace Go.YtoeophdffhmpmaaE
open Go Go.RowKit

theorem tree_pure (k : Nat) (d : Int) : Pure Go.Proofs.Try.prog 34 [.v (.int .u8 k), .v (.int .i64 d)] ⟨scheme k d 0 0 0 0, []⟩ := by
  refine pure_sz pf eqOk_none (env_ok [] rfl) fun _ => ⟨60, ?_⟩
  conv => whnf
  left
  conv => whnf
  try rfl
theorem small_pure : Pure Go.Proofs.Try.prog 37 [] ⟨needA 2 1 48 10 1 2 0 0 0, []⟩ := by
  refine pure_sz pf eqOk_none (env_ok [] rfl) fun _ => ⟨60, ?_⟩
  conv => whnf
  left
  conv => whnf
  try rfl
/-- The worst number out of the last row. -/
def wz (row : List Int) (r : Nat) : Int := (gr (fun k => if k = 0 then 1 else row.getD k 0) (r + 1) 0 0 0 true).1
theorem itZ_wz (kind d r : Nat) : itZ kind d r = wz (lvl kind d d 0) r := by
  unfold wz; rw [greatest_worst]; rfl
theorem worst_at (kind d r : Nat) (h1 : 1 ≤ kind) (h3 : kind ≤ 3) (hd : d ≤ 6) (hr : r ≤ 2 ^ d) :
    Pure Go.Proofs.Try.prog 14 [scheme kind d 0 0 0 0, .v (.int .i64 r)] ⟨.tup [.v (.int .i64 (itZ kind d r)), .v (.int .i64 0)], []⟩ := by
  have := Worst_pure kind d 0 0 0 0 r
  rw [wE_ok kind d r h1 h3 hd hr, wN_ok kind d r h1 h3 hd hr] at this
  exact this
theorem witness_at (kind d r : Nat) (h1 : 1 ≤ kind) (h3 : kind ≤ 3) (hd : d ≤ 6) (hr : r ≤ 2 ^ d) :
    Pure Go.Proofs.Try.prog 16 [scheme kind d 0 0 0 0, .v (.int .i64 r)] ⟨.tup [.ro (ints (wlZ kind d r)), .v (.int .i64 0)], []⟩ := by
  have := Witness_pure kind d 0 0 0 0 r
  rw [show wL kind d 0 0 0 0 r = wlZ kind d r from by unfold wL; rw [if_pos (wE_ok kind d r h1 h3 hd hr)]; rfl, wE_ok kind d r h1 h3 hd hr] at this
  exact this
theorem worsts_1 : Pure Go.Proofs.Try.prog 61 [scheme 1 2 0 0 0 0, .ro (ints [1, 2, 2, 2, 2])] ⟨.v (.bool true), []⟩ := by
  refine pure_sz pf eqOk_none (env_ok [14] rfl) fun _ => ⟨100, ?_⟩
  have h0 := worst_at 1 2 0 (by decide) (by decide) (by decide) (by decide)
  have h1 := worst_at 1 2 1 (by decide) (by decide) (by decide) (by decide)
  have h2 := worst_at 1 2 2 (by decide) (by decide) (by decide) (by decide)
  have h3 := worst_at 1 2 3 (by decide) (by decide) (by decide) (by decide)
  have h4 := worst_at 1 2 4 (by decide) (by decide) (by decide) (by decide)
  rw [show itZ 1 2 0 = 1 from by kernel_rfl] at h0
  rw [show itZ 1 2 1 = 2 from by kernel_rfl] at h1
  rw [show itZ 1 2 2 = 2 from by kernel_rfl] at h2
  rw [show itZ 1 2 3 = 2 from by kernel_rfl] at h3
  rw [show itZ 1 2 4 = 2 from by kernel_rfl] at h4
  conv => whnf
  repeat (first
    | (refine wk_none ?_; conv => whnf)
    | (refine ⟨_, h0, ?_⟩; conv => whnf)
    | (refine ⟨_, h1, ?_⟩; conv => whnf)
    | (refine ⟨_, h2, ?_⟩; conv => whnf)
    | (refine ⟨_, h3, ?_⟩; conv => whnf)
    | (refine ⟨_, h4, ?_⟩; conv => whnf)
    | (refine ⟨by decide, ?_⟩; conv => whnf))
  left
  conv => whnf
  try rfl
theorem worsts_2 : Pure Go.Proofs.Try.prog 61 [scheme 2 2 0 0 0 0, .ro (ints [1, 1, 2, 2, 2])] ⟨.v (.bool true), []⟩ := by
  refine pure_sz pf eqOk_none (env_ok [14] rfl) fun _ => ⟨100, ?_⟩
  have h0 := worst_at 2 2 0 (by decide) (by decide) (by decide) (by decide)
  have h1 := worst_at 2 2 1 (by decide) (by decide) (by decide) (by decide)
  have h2 := worst_at 2 2 2 (by decide) (by decide) (by decide) (by decide)
  have h3 := worst_at 2 2 3 (by decide) (by decide) (by decide) (by decide)
  have h4 := worst_at 2 2 4 (by decide) (by decide) (by decide) (by decide)
  rw [show itZ 2 2 0 = 1 from by kernel_rfl] at h0
  rw [show itZ 2 2 1 = 1 from by kernel_rfl] at h1
  rw [show itZ 2 2 2 = 2 from by kernel_rfl] at h2
  rw [show itZ 2 2 3 = 2 from by kernel_rfl] at h3
  rw [show itZ 2 2 4 = 2 from by kernel_rfl] at h4
  conv => whnf
  repeat (first
    | (refine wk_none ?_; conv => whnf)
    | (refine ⟨_, h0, ?_⟩; conv => whnf)
    | (refine ⟨_, h1, ?_⟩; conv => whnf)
    | (refine ⟨_, h2, ?_⟩; conv => whnf)
    | (refine ⟨_, h3, ?_⟩; conv => whnf)
    | (refine ⟨_, h4, ?_⟩; conv => whnf)
    | (refine ⟨by decide, ?_⟩; conv => whnf))
  left
  conv => whnf
  try rfl
end Go.YtoeophdffhmpmaaE
end

section
set_option linter.unusedVariables false
set_option linter.unusedSimpArgs false
set_option maxRecDepth 100000
set_option maxHeartbeats 1000000
namespace Go.YtoeophdffhmpmaaE
open Go Go.RowKit

def smallCh : Ch := ⟨1, true, 2, 0, 103, 48, 1414, [3]⟩
theorem alive_pure : Pure Go.Proofs.Try.prog 33 [] ⟨.v (.bool true), []⟩ := by
  refine pure_sz pf eqOk_none (env_ok [34, 37, 16, 25, 27, 18, 61, 31] rfl) fun _ => ⟨100, ?_⟩
  have t1 := tree_pure 1 2
  have t2 := tree_pure 2 2
  have w1 := witness_at 1 2 2 (by decide) (by decide) (by decide) (by decide)
  rw [show wlZ 1 2 2 = [3] from by kernel_rfl] at w1
  have w2 := witness_at 2 2 2 (by decide) (by decide) (by decide) (by decide)
  rw [show wlZ 2 2 2 = [1, 3] from by kernel_rfl] at w2
  have c1 := Choose_pure 2 1 48 10 1 2 0 0 0 1 (by decide) (by decide) (by decide)
  rw [show chF 2 1 48 10 1 2 0 0 0 1 = smallCh from by kernel_rfl, show chE 2 1 48 10 1 2 1 = 0 from by kernel_rfl] at c1
  have m1 := Make_pure 2 1 48 10 1 2 0 0 0 (by decide) (by decide) (by decide)
  rw [show mkB 2 1 48 10 1 2 0 0 0 = 1 from by kernel_rfl, show mkE 2 1 48 10 1 2 = 0 from by kernel_rfl] at m1
  have hl : (rowC (mkL 2 1 48 10 1 2 0 0 0)).length = 4 := by kernel_rfl
  generalize mkL 2 1 48 10 1 2 0 0 0 = L at *
  have s1 := sameInts_pure [3] [3]
  rw [decide_eq_true rfl] at s1
  have s2 := sameInts_pure [1, 3] [1, 3]
  rw [decide_eq_true rfl] at s2
  have sc := sameChoice_pure smallCh smallCh
  rw [chNum_refl, decide_eq_true rfl] at sc
  conv => whnf
  refine ⟨_, t1, ?_⟩
  conv => whnf
  refine ⟨_, w1, ?_⟩
  conv => whnf
  refine ⟨_, t2, ?_⟩
  conv => whnf
  refine ⟨_, w2, ?_⟩
  conv => whnf
  refine ⟨_, small_pure, ?_⟩
  conv => whnf
  refine ⟨_, c1, ?_⟩
  conv => whnf
  refine ⟨_, small_pure, ?_⟩
  conv => whnf
  refine ⟨_, m1, ?_⟩
  conv => whnf
  refine ⟨by decide, ?_⟩
  conv => whnf
  refine ⟨_, s1, ?_⟩
  conv => whnf
  refine ⟨by decide, ?_⟩
  conv => whnf
  refine ⟨_, s2, ?_⟩
  conv => whnf
  refine ⟨_, t1, ?_⟩
  conv => whnf
  refine ⟨by simp, ?_⟩
  conv => whnf
  refine ⟨_, worsts_1, ?_⟩
  conv => whnf
  refine ⟨_, t2, ?_⟩
  conv => whnf
  refine ⟨by simp, ?_⟩
  conv => whnf
  refine ⟨_, worsts_2, ?_⟩
  conv => whnf
  refine ⟨Nat.le_refl _, ?_⟩
  conv => whnf
  refine ⟨_, sc, ?_⟩
  conv => whnf
  rw [hl]
  conv => whnf
  left
  conv => whnf
  try rfl
end Go.YtoeophdffhmpmaaE
end

section
set_option linter.unusedVariables false
set_option linter.unusedSimpArgs false
set_option maxRecDepth 100000
namespace Go.YtoeophdffhmpmaaE
open Go Go.RowKit

theorem chL_get (f : Nat → Ch) (k i : Nat) (h : i < k) : (chL f k).getD i (ch0 0) = f (i + 1) := by
  simp [chL, h]
/-- The best fits, costs least, and has the least number. -/
theorem bst_spec (f : Nat → Ch) : ∀ k, (bstN f k = 0 ∧ ∀ i, 1 ≤ i → i ≤ k → (f i).fits = false) ∨
    (1 ≤ bstN f k ∧ bstN f k ≤ k ∧ (f (bstN f k)).fits = true ∧ (∀ i, 1 ≤ i → i ≤ k → (f i).fits = true → (f (bstN f k)).co ≤ (f i).co) ∧ ∀ i, 1 ≤ i → i < bstN f k → (f i).fits = true → (f (bstN f k)).co < (f i).co)
  | 0 => .inl ⟨rfl, fun i h1 h2 => by omega⟩
  | k + 1 => by
    have ih := bst_spec f k
    have hle := bstN_le f k
    have e : bstN f (k + 1) = if (f (k + 1)).fits = true ∧ (bstN f k = 0 ∨ (f (k + 1)).co < ((chL f k).getD (bstN f k - 1) (ch0 0)).co) then k + 1 else bstN f k := by
      show stepB (chL f k) (bstN f k) (f (k + 1)) = _
      unfold stepB; rw [chL_length]
    rcases ih with ⟨h0, hno⟩ | ⟨h1, h2, hf, hmin, hlt⟩
    · cases hfit : (f (k + 1)).fits with
      | false =>
        left
        rw [e, if_neg (fun h => by rw [hfit] at h; cases h.1)]
        refine ⟨h0, fun i hi1 hi2 => ?_⟩
        by_cases hk : i = k + 1
        · subst hk; exact hfit
        · exact hno i hi1 (by omega)
      | true =>
        right
        rw [e, if_pos ⟨hfit, .inl h0⟩]
        refine ⟨by omega, Nat.le_refl _, hfit, fun i hi1 hi2 hi3 => ?_, fun i hi1 hi2 hi3 => ?_⟩
        · by_cases hk : i = k + 1
          · subst hk; exact Int.le_refl _
          · have := hno i hi1 (by omega); rw [this] at hi3; cases hi3
        · have := hno i hi1 (by omega); rw [this] at hi3; cases hi3
    · have eg : (chL f k).getD (bstN f k - 1) (ch0 0) = f (bstN f k) := by
        rw [chL_get f k _ (by omega), show bstN f k - 1 + 1 = bstN f k by omega]
      rw [eg] at e
      right
      by_cases hc : (f (k + 1)).fits = true ∧ (bstN f k = 0 ∨ (f (k + 1)).co < (f (bstN f k)).co)
      · rw [e, if_pos hc]
        have hlt2 : (f (k + 1)).co < (f (bstN f k)).co := hc.2.elim (fun h => by omega) id
        refine ⟨by omega, Nat.le_refl _, hc.1, fun i hi1 hi2 hi3 => ?_, fun i hi1 hi2 hi3 => ?_⟩
        · by_cases hk : i = k + 1
          · subst hk; exact Int.le_refl _
          · have := hmin i hi1 (by omega) hi3; omega
        · have := hmin i hi1 (by omega) hi3; omega
      · rw [e, if_neg hc]
        refine ⟨h1, by omega, hf, fun i hi1 hi2 hi3 => ?_, hlt⟩
        by_cases hk : i = k + 1
        · subst hk
          have : ¬ (f (k + 1)).co < (f (bstN f k)).co := fun h => hc ⟨hi3, .inr h⟩
          omega
        · exact hmin i hi1 (by omega) hi3
theorem bst_congr {f g : Nat → Ch} (hf : ∀ i, (f i).fits = (g i).fits) (hc : ∀ i j, (f i).co < (f j).co ↔ (g i).co < (g j).co) : ∀ k, bstN f k = bstN g k
  | 0 => rfl
  | k + 1 => by
    have ih := bst_congr hf hc k
    have hle := bstN_le f k
    show stepB (chL f k) (bstN f k) (f (k + 1)) = stepB (chL g k) (bstN g k) (g (k + 1))
    unfold stepB
    rw [chL_length, chL_length, ← ih, hf]
    by_cases h0 : bstN f k = 0
    · simp [h0]
    · rw [chL_get f k _ (by omega), chL_get g k _ (by omega)]
      simp only [hc]
theorem coZ_scale (d : Nat) (h hp sp he st b : Int) : coZ d h (hp * b) (sp * b) he st = b * coZ d h hp sp he st := by
  unfold coZ
  rw [Int.mul_add]
  congr 1
  · rw [← Int.mul_assoc h hp b, Int.mul_comm (h * hp) b, Int.mul_assoc b (h * hp) he]
  · rw [← Int.mul_assoc _ sp b, Int.mul_comm _ b, Int.mul_assoc b]
/-- With both prices multiplied each cost is, and the header stays. -/
theorem ch_scale (d r : Nat) (s h hp sp b : Int) (p q g kind : Nat) :
    (chZ d r s h (hp * b) (sp * b) p q g kind).co = b * (chZ d r s h hp sp p q g kind).co ∧ (chZ d r s h (hp * b) (sp * b) p q g kind).he = (chZ d r s h hp sp p q g kind).he ∧
    (chZ d r s h (hp * b) (sp * b) p q g kind).fits = (chZ d r s h hp sp p q g kind).fits := by
  unfold chZ
  split
  · split
    · exact ⟨coZ_scale .., rfl, rfl⟩
    · exact ⟨by simp [ch0], rfl, rfl⟩
  · exact ⟨coZ_scale .., rfl, rfl⟩
theorem bst_scale (d r : Nat) (s h hp sp b : Int) (p q g : Nat) (hb : 1 ≤ b) (k : Nat) : bstN (chZ d r s h (hp * b) (sp * b) p q g) k = bstN (chZ d r s h hp sp p q g) k := by
  refine bst_congr (fun i => (ch_scale ..).2.2) (fun i j => ?_) k
  rw [(ch_scale ..).1, (ch_scale ..).1]
  exact ⟨fun h => Int.lt_of_mul_lt_mul_left h (by omega), fun h => Int.mul_lt_mul_of_pos_left h (by omega)⟩
/-- With more storage what fitted fits, at the same cost. -/
theorem ch_more (d r : Nat) (s s' h hp sp : Int) (hs : s ≤ s') (p q g kind : Nat) :
    (chZ d r s' h hp sp p q g kind).co = (chZ d r s h hp sp p q g kind).co ∧ ((chZ d r s h hp sp p q g kind).fits = true → (chZ d r s' h hp sp p q g kind).fits = true) := by
  unfold chZ
  split
  · split
    · refine ⟨rfl, fun h => ?_⟩
      simp only [decide_eq_true_eq] at h ⊢
      omega
    · exact ⟨rfl, fun h => h⟩
  · refine ⟨rfl, fun h => ?_⟩
    simp only [decide_eq_true_eq] at h ⊢
    omega
theorem bst_more (d r : Nat) (s s' h hp sp : Int) (hs : s ≤ s') (p q g : Nat) (hb : bstN (chZ d r s h hp sp p q g) 4 ≠ 0) :
    bstN (chZ d r s' h hp sp p q g) 4 ≠ 0 ∧ (chZ d r s' h hp sp p q g (bstN (chZ d r s' h hp sp p q g) 4)).co ≤ (chZ d r s h hp sp p q g (bstN (chZ d r s h hp sp p q g) 4)).co := by
  rcases bst_spec (chZ d r s h hp sp p q g) 4 with ⟨h0, _⟩ | ⟨h1, h2, hf, hmin, -⟩
  · exact absurd h0 hb
  · have hf' := (ch_more d r s s' h hp sp hs p q g _).2 hf
    rcases bst_spec (chZ d r s' h hp sp p q g) 4 with ⟨h0', hno⟩ | ⟨h1', h2', hf2, hmin', -⟩
    · have := hno _ h1 h2; rw [this] at hf'; cases hf'
    · refine ⟨by omega, ?_⟩
      have := hmin' _ h1 h2 hf'
      rw [(ch_more d r s s' h hp sp hs p q g (bstN (chZ d r s h hp sp p q g) 4)).1] at this
      exact this
end Go.YtoeophdffhmpmaaE
end

section
set_option linter.unusedVariables false
set_option linter.unusedSimpArgs false
set_option maxRecDepth 100000
set_option maxHeartbeats 1000000
namespace Go.YtoeophdffhmpmaaE
open Go Go.RowKit

theorem ch_co_bd (d r : Nat) (s h hp sp : Int) (p q g kind : Nat) (hn : needB d r s h hp sp = true) (h1 : 1 ≤ kind) (h4 : kind ≤ 4) :
    0 ≤ (chZ d r s h hp sp p q g kind).co ∧ (chZ d r s h hp sp p q g kind).co ≤ 50000000000000000 := by
  obtain ⟨b1, b2, b3, b4, b5, b6, b7, b8, b9, b10, b11, b12⟩ := needB_yes hn
  rw [Int.toNat_natCast] at b4
  have hd : d ≤ 6 := by omega
  have hp2 := pow_le6 hd
  have hdeg : 1 ≤ degZ r ∧ degZ r ≤ 64 := by unfold degZ; split <;> omega
  unfold chZ
  split
  · split
    · obtain ⟨x1, x2, x3, x4, x5⟩ := cost_bd d h hp sp (67 + 16 * degZ r) 8 hd b7 b8 b9 b10 b11 b12 (by omega) (by omega) (by omega) (by omega)
      simp only [coZ]; omega
    · simp [ch0]
  · have ib := itZ_bd kind d r hd
    have sb := stN_le kind d h1 (by omega) hd
    obtain ⟨x1, x2, x3, x4, x5⟩ := cost_bd d h hp sp (67 + 18 * itZ kind d r) (16 * (stN kind d : Int)) hd b7 b8 b9 b10 b11 b12 (by omega) (by omega) (by omega) (by omega)
    simp only [coZ]; omega
theorem make_at (d r : Nat) (s h hp sp : Int) (p q g : Nat) (hn : needB d r s h hp sp = true) (wp : p < 18446744073709551616) (wq : q < 18446744073709551616) (wg : g < 18446744073709551616) :
    Pure Go.Proofs.Try.prog 27 [needA d r s h hp sp p q g] ⟨.tup [plA (chL (chZ d r s h hp sp p q g) 4) (bstN (chZ d r s h hp sp p q g) 4), .v (.int .i64 0)], []⟩ := by
  have := Make_pure d r s h hp sp p q g wp wq wg
  unfold mkL mkB mkE at this
  rw [if_pos hn, if_pos hn, if_pos hn, Int.toNat_natCast, Int.toNat_natCast] at this
  exact this
theorem row_at (f : Nat → Ch) (i : Nat) (h : i < 4) : (rowC (chL f 4))[i]? = some (chC (f (i + 1))) := by
  rw [rowC_get _ _ (by rw [chL_length]; exact h), chL_get f 4 i h]
def scEnv : List Nat := [33, 27]
theorem PlanScales_pure (d r s h hp sp : Int) (p q g : Nat) (wp : p < 18446744073709551616) (wq : q < 18446744073709551616) (wg : g < 18446744073709551616) (b m : Int) :
    Pure Go.Proofs.Try.prog 7 [needA d r s h hp sp p q g, .v (.int .i64 b), .v (.int .i64 m)] ⟨.v (.bool true), []⟩ := by
  refine pure_sz pf eqOk_none (env_ok scEnv rfl) fun _ => ⟨100, ?_⟩
  by_cases hb : 1 ≤ b ∧ b ≤ 1000 ∧ 0 ≤ m ∧ m ≤ 10000
  rotate_left
  · conv => whnf
    refine ⟨_, alive_pure, ?_⟩
    conv => whnf
    refine cndK_intro (fun c1 => ?_) (fun c1 => ?_)
    · rw [c1]
      conv => whnf
      left
      conv => whnf
      try rfl
    rw [c1]
    conv => whnf
    refine cndK_intro (fun c2 => ?_) (fun c2 => ?_)
    · rw [c2]
      conv => whnf
      left
      conv => whnf
      try rfl
    rw [c2]
    conv => whnf
    refine cndK_intro (fun c3 => ?_) (fun c3 => ?_)
    · rw [c3]
      conv => whnf
      left
      conv => whnf
      try rfl
    rw [c3]
    conv => whnf
    rw [show decide (m > 10000) = true by simp only [decide_eq_false_iff_not] at c1 c2 c3; simp only [decide_eq_true_eq]; omega]
    conv => whnf
    left
    conv => whnf
    try rfl
  obtain ⟨hb1, hb2, hm1, hm2⟩ := hb
  have hm := Make_pure d r s h hp sp p q g wp wq wg
  have i1 : decide (b < 1) = false := by simp only [decide_eq_false_iff_not]; omega
  have i2 : decide (b > 1000) = false := by simp only [decide_eq_false_iff_not]; omega
  have i3 : decide (m < 0) = false := by simp only [decide_eq_false_iff_not]; omega
  have i4 : decide (m > 10000) = false := by simp only [decide_eq_false_iff_not]; omega
  cases hn : needB d r s h hp sp with
  | false =>
    rw [show mkE d r s h hp sp = 2 from by unfold mkE; rw [hn]; rfl] at hm
    generalize mkL d r s h hp sp p q g = L at hm
    generalize mkB d r s h hp sp p q g = b0 at hm
    conv => whnf
    refine ⟨_, alive_pure, ?_⟩
    conv => whnf
    rw [i1]
    conv => whnf
    rw [i2]
    conv => whnf
    rw [i3]
    conv => whnf
    rw [i4]
    conv => whnf
    refine ⟨_, hm, ?_⟩
    conv => whnf
    left
    conv => whnf
    try rfl
  | true =>
    have hy := needB_yes hn
    obtain ⟨d, rfl⟩ : ∃ k : Nat, d = k := ⟨d.toNat, by omega⟩
    obtain ⟨r, rfl⟩ : ∃ k : Nat, r = k := ⟨r.toNat, by omega⟩
    obtain ⟨b1, b2, b3, b4, b5, b6, b7, b8, b9, b10, b11, b12⟩ := hy
    clear hm
    have hm := make_at d r s h hp sp p q g hn wp wq wg
    have x1 := mul_bd b9 b10 (by omega : 0 ≤ b) hb2
    have x2 := mul_bd b11 b12 (by omega : 0 ≤ b) hb2
    have y1 : IntKind.i64.wrap (hp * b) = hp * b := wrap64 (by omega) (by omega)
    have y2 : IntKind.i64.wrap (sp * b) = sp * b := wrap64 (by omega) (by omega)
    have j1 : decide (hp < 0) = false := by simp only [decide_eq_false_iff_not]; omega
    have j2 : decide (sp < 0) = false := by simp only [decide_eq_false_iff_not]; omega
    have l1 : (rowC (chL (chZ d r s h hp sp p q g) 4)).length = 4 := by rw [rowC_length, chL_length]
    have n3 : needB d r (if 10000 < s + m then 10000 else s + m) h hp sp = true := by
      unfold needB; simp only [decide_eq_true_eq]; refine ⟨b1, b2, b3, b4, ?_, ?_, b7, b8, b9, b10, b11, b12⟩ <;> split <;> omega
    have hs3 : s ≤ (if 10000 < s + m then 10000 else s + m) := by split <;> omega
    have hm3 := make_at d r (if 10000 < s + m then 10000 else s + m) h hp sp p q g n3 wp wq wg
    have hmore := bst_more d r s (if 10000 < s + m then 10000 else s + m) h hp sp hs3 p q g
    have l3 : (rowC (chL (chZ d r (if 10000 < s + m then 10000 else s + m) h hp sp p q g) 4)).length = 4 := by rw [rowC_length, chL_length]
    have ymin : (if (10000 : Int) < IntKind.i64.wrap (s + m) then 10000 else IntKind.i64.wrap (s + m)) = (if 10000 < s + m then 10000 else s + m) := by rw [wrap64 (n := s + m) (by omega) (by omega)]
    have r1 := row_at (chZ d r s h hp sp p q g)
    have r3 := row_at (chZ d r (if 10000 < s + m then 10000 else s + m) h hp sp p q g)
    have le1 := bstN_le (chZ d r s h hp sp p q g) 4
    have le3 := bstN_le (chZ d r (if 10000 < s + m then 10000 else s + m) h hp sp p q g) 4
    have bd := fun i h1 h4 => ch_co_bd d r s h hp sp p q g i hn h1 h4
    by_cases hmx : hp * b ≤ 1000 ∧ sp * b ≤ 1000
    · have n2 : needB d r s h (hp * b) (sp * b) = true := by
        unfold needB; simp only [decide_eq_true_eq]; exact ⟨b1, b2, b3, b4, b5, b6, b7, b8, x1.1, hmx.1, x2.1, hmx.2⟩
      have hm2 := make_at d r s h (hp * b) (sp * b) p q g n2 wp wq wg
      rw [bst_scale d r s h hp sp b p q g hb1 4] at hm2
      have l2 : (rowC (chL (chZ d r s h (hp * b) (sp * b) p q g) 4)).length = 4 := by rw [rowC_length, chL_length]
      have r2 := row_at (chZ d r s h (hp * b) (sp * b) p q g)
      have bd2 := fun i h1 h4 => ch_co_bd d r s h (hp * b) (sp * b) p q g i n2 h1 h4
      have eco : ∀ i, (chZ d r s h (hp * b) (sp * b) p q g i).co = b * (chZ d r s h hp sp p q g i).co := fun i => (ch_scale ..).1
      have ehe : ∀ i, (chZ d r s h (hp * b) (sp * b) p q g i).he = (chZ d r s h hp sp p q g i).he := fun i => (ch_scale ..).2.1
      have wco : ∀ i, 1 ≤ i → i ≤ 4 → IntKind.i64.wrap (b * (chZ d r s h hp sp p q g i).co) = (chZ d r s h (hp * b) (sp * b) p q g i).co := fun i h1 h4 => by
        have := bd2 i h1 h4
        rw [← eco i]; exact wrap64 (by omega) (by omega)
      generalize chZ d r s h (hp * b) (sp * b) p q g = f2 at hm2 l2 r2 eco ehe wco
      generalize hf3 : chZ d r (if 10000 < s + m then 10000 else s + m) h hp sp p q g = f3 at hm3 l3 r3 hmore le3
      generalize chZ d r s h hp sp p q g = f1 at hm l1 r1 hm2 eco ehe wco hmore le1
      generalize bstN f1 4 = b0 at hm hm2 hmore le1
      generalize bstN f3 4 = b0' at hm3 hmore le3
      conv => whnf
      refine ⟨_, alive_pure, ?_⟩
      conv => whnf
      rw [i1]
      conv => whnf
      rw [i2]
      conv => whnf
      rw [i3]
      conv => whnf
      rw [i4]
      conv => whnf
      refine ⟨_, hm, ?_⟩
      conv => whnf
      rw [y1, y2]
      rw [j1]
      conv => whnf
      rw [j2]
      conv => whnf
      rw [show decide (hp * b > 1000) = false by simp only [decide_eq_false_iff_not]; omega]
      conv => whnf
      rw [show decide (sp * b > 1000) = false by simp only [decide_eq_false_iff_not]; omega]
      conv => whnf
      refine ⟨_, hm2, ?_⟩
      conv => whnf
      rw [show ((b0 : Int) != (b0 : Int)) = false by simp]
      conv => whnf
      rw [show decide ((b0 : Int) > 4) = false by simp only [decide_eq_false_iff_not]; omega]
      conv => whnf
      refine wk_none ?_
      conv => whnf
      refine Or.inl ⟨30, by kernel_rfl, ?_⟩
      conv => whnf
      refine ⟨by rw [l2]; decide, optK_intro (chC (f2 1)) (r2 0 (by decide)) ?_⟩
      conv => whnf
      refine ⟨by rw [l1]; decide, optK_intro (chC (f1 1)) (r1 0 (by decide)) ?_⟩
      conv => whnf
      rw [wco 1 (by decide) (by decide), show ((f2 1).co != (f2 1).co) = false by simp]
      conv => whnf
      refine ⟨by rw [l2]; decide, optK_intro (chC (f2 1)) (r2 0 (by decide)) ?_⟩
      conv => whnf
      refine ⟨by rw [l1]; decide, optK_intro (chC (f1 1)) (r1 0 (by decide)) ?_⟩
      conv => whnf
      rw [ehe 1, show ((f1 1).he != (f1 1).he) = false by simp]
      conv => whnf
      refine wk_none ?_
      conv => whnf
      refine Or.inl ⟨30, by kernel_rfl, ?_⟩
      conv => whnf
      refine ⟨by rw [l2]; decide, optK_intro (chC (f2 2)) (r2 1 (by decide)) ?_⟩
      conv => whnf
      refine ⟨by rw [l1]; decide, optK_intro (chC (f1 2)) (r1 1 (by decide)) ?_⟩
      conv => whnf
      rw [wco 2 (by decide) (by decide), show ((f2 2).co != (f2 2).co) = false by simp]
      conv => whnf
      refine ⟨by rw [l2]; decide, optK_intro (chC (f2 2)) (r2 1 (by decide)) ?_⟩
      conv => whnf
      refine ⟨by rw [l1]; decide, optK_intro (chC (f1 2)) (r1 1 (by decide)) ?_⟩
      conv => whnf
      rw [ehe 2, show ((f1 2).he != (f1 2).he) = false by simp]
      conv => whnf
      refine wk_none ?_
      conv => whnf
      refine Or.inl ⟨30, by kernel_rfl, ?_⟩
      conv => whnf
      refine ⟨by rw [l2]; decide, optK_intro (chC (f2 3)) (r2 2 (by decide)) ?_⟩
      conv => whnf
      refine ⟨by rw [l1]; decide, optK_intro (chC (f1 3)) (r1 2 (by decide)) ?_⟩
      conv => whnf
      rw [wco 3 (by decide) (by decide), show ((f2 3).co != (f2 3).co) = false by simp]
      conv => whnf
      refine ⟨by rw [l2]; decide, optK_intro (chC (f2 3)) (r2 2 (by decide)) ?_⟩
      conv => whnf
      refine ⟨by rw [l1]; decide, optK_intro (chC (f1 3)) (r1 2 (by decide)) ?_⟩
      conv => whnf
      rw [ehe 3, show ((f1 3).he != (f1 3).he) = false by simp]
      conv => whnf
      refine wk_none ?_
      conv => whnf
      refine Or.inl ⟨30, by kernel_rfl, ?_⟩
      conv => whnf
      refine ⟨by rw [l2]; decide, optK_intro (chC (f2 4)) (r2 3 (by decide)) ?_⟩
      conv => whnf
      refine ⟨by rw [l1]; decide, optK_intro (chC (f1 4)) (r1 3 (by decide)) ?_⟩
      conv => whnf
      rw [wco 4 (by decide) (by decide), show ((f2 4).co != (f2 4).co) = false by simp]
      conv => whnf
      refine ⟨by rw [l2]; decide, optK_intro (chC (f2 4)) (r2 3 (by decide)) ?_⟩
      conv => whnf
      refine ⟨by rw [l1]; decide, optK_intro (chC (f1 4)) (r1 3 (by decide)) ?_⟩
      conv => whnf
      rw [ehe 4, show ((f1 4).he != (f1 4).he) = false by simp]
      conv => whnf
      refine wk_none ?_
      conv => whnf
      rw [ymin]
      refine ⟨_, hm3, ?_⟩
      conv => whnf
      rw [show decide ((b0' : Int) > 4) = false by simp only [decide_eq_false_iff_not]; omega]
      conv => whnf
      refine Or.inl ⟨31, by kernel_rfl, ?_⟩
      conv => whnf
      refine cndK_intro (fun c5 => ?_) (fun c5 => ?_)
      · rw [c5]
        conv => whnf
        left
        conv => whnf
        try rfl
      · have hb0 : b0 ≠ 0 := fun e => by subst e; simp at c5
        obtain ⟨hne, hle⟩ := hmore hb0
        rw [c5]
        conv => whnf
        rw [show decide ((b0' : Int) > 0) = true by simp only [decide_eq_true_eq]; omega]
        conv => whnf
        rw [show IntKind.u8.wrap ((b0' : Int) - 1) = ((b0' - 1 : Nat) : Int) from by rw [show (b0' : Int) - 1 = ((b0' - 1 : Nat) : Int) by omega]; exact u8n (by omega)]
        refine ⟨⟨by omega, by rw [l3]; omega⟩, optK_intro (chC (f3 b0')) (show (rowC (chL f3 4))[((b0' - 1 : Nat) : Int).toNat]? = _ from by have := r3 (b0' - 1) (by omega); rw [show b0' - 1 + 1 = b0' by omega] at this; rw [Int.toNat_natCast]; exact this) ?_⟩
        conv => whnf
        rw [show IntKind.u8.wrap ((b0 : Int) - 1) = ((b0 - 1 : Nat) : Int) from by rw [show (b0 : Int) - 1 = ((b0 - 1 : Nat) : Int) by omega]; exact u8n (by omega)]
        refine ⟨⟨by omega, by rw [l1]; omega⟩, optK_intro (chC (f1 b0)) (show (rowC (chL f1 4))[((b0 - 1 : Nat) : Int).toNat]? = _ from by have := r1 (b0 - 1) (by omega); rw [show b0 - 1 + 1 = b0 by omega] at this; rw [Int.toNat_natCast]; exact this) ?_⟩
        conv => whnf
        rw [show decide ((f3 b0').co ≤ (f1 b0).co) = true by simp only [decide_eq_true_eq]; exact hle]
        conv => whnf
        left
        conv => whnf
        try rfl
    · generalize chL (chZ d r s h hp sp p q g) 4 = L1 at hm
      generalize bstN (chZ d r s h hp sp p q g) 4 = b0 at hm
      conv => whnf
      refine ⟨_, alive_pure, ?_⟩
      conv => whnf
      rw [i1]
      conv => whnf
      rw [i2]
      conv => whnf
      rw [i3]
      conv => whnf
      rw [i4]
      conv => whnf
      refine ⟨_, hm, ?_⟩
      conv => whnf
      rw [y1, y2]
      rw [j1]
      conv => whnf
      rw [j2]
      conv => whnf
      refine cndK_intro (fun c1 => ?_) (fun c1 => ?_)
      · rw [c1]
        conv => whnf
        left
        conv => whnf
        try rfl
      · rw [c1]
        conv => whnf
        rw [show decide (sp * b > 1000) = true by simp only [decide_eq_false_iff_not] at c1; simp only [decide_eq_true_eq]; omega]
        conv => whnf
        left
        conv => whnf
        try rfl
end Go.YtoeophdffhmpmaaE
end
