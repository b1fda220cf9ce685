/- The engine: what the operations come to that change nothing of the own heap. -/
import Derived.Test.YtoeophdffhmpmaaE3
set_option linter.unusedVariables false
set_option linter.unusedSimpArgs false
namespace Go.YtoeophdffhmpmaaE
open Go Go.RowKit

theorem VR.int_inv {g : Gh} {w : World} {h : Hp} {k : IntKind} {n : Int} {x : Value} (r : VR g w h (.v (.int k n)) x) : x = .int k n := by cases r; rfl
theorem VR.bool_inv {g : Gh} {w : World} {h : Hp} {b : Bool} {x : Value} (r : VR g w h (.v (.bool b)) x) : x = .bool b := by cases r; rfl
theorem VR.v_inv {g : Gh} {w : World} {h : Hp} {y : Value} {x : Value} (r : VR g w h (.v y) x) : x = y ∧ y.oneCell' = true := by cases r; exact ⟨rfl, by assumption⟩

theorem binI_sound {P : Program} {op : BinOp} {k1 : IntKind} {a b : Int} {t : Nat} {k : Value → Prop} (hs : isShift op = false) (hk : binI op k1 a b k) :
    ∃ z, k z ∧ z.oneCell' = true ∧ ∀ w : World, (binOp op t (.int k1 a) (.int k1 b)).run P w = .ok z w := by
  cases op <;> simp only [binI, isShift] at hk hs <;> first
    | exact hk.elim
    | exact ⟨_, hk, rfl, fun w => by simp [binOp, Op.intArith, Op.intCmp, Op.intBits]⟩
    | (obtain ⟨h0, hk⟩ := hk; exact ⟨_, hk, rfl, fun w => by simp [binOp, Op.intDiv, h0]⟩)
    | cases hs
theorem shiftN_sound {P : Program} {op : BinOp} {k1 k2 : IntKind} {a b : Int} {t : Nat} {k : Value → Prop} (hk : shiftN k1 op a b k) :
    ∃ z, k z ∧ z.oneCell' = true ∧ ∀ w : World, (binOp op t (.int k1 a) (.int k2 b)).run P w = .ok z w := by
  cases op <;> simp only [shiftN] at hk <;> first
    | exact hk.elim
    | (obtain ⟨h0, hk⟩ := hk; exact ⟨_, hk, rfl, fun w => by simp [binOp, Op.shift, show ¬ b < 0 from by omega]⟩)

theorem eqCells_sound {cks : List (Option IntKind)} {xs ys : List A} {k : Bool → Prop} (hk : eqCells cks xs ys k) :
    ∃ b vs us, k b ∧ xs = vs.map A.v ∧ ys = us.map A.v ∧ CkEq cks vs us b := by
  induction cks generalizing xs ys k with
  | nil =>
    cases xs with
    | nil => cases ys with
      | nil => exact ⟨true, [], [], hk, rfl, rfl, .nil⟩
      | cons y ys => exact hk.elim
    | cons x xs => exact hk.elim
  | cons ck cks ih =>
    cases xs with
    | nil => exact hk.elim
    | cons x xs => cases ys with
      | nil => exact hk.elim
      | cons y ys =>
        change eqC ck x y (fun b => eqCells cks xs ys fun c => k (b && c)) at hk
        cases ck with
        | some kk =>
          cases x <;> try exact hk.elim
          rename_i x
          cases x <;> try exact hk.elim
          rename_i k1 a
          cases y <;> try exact hk.elim
          rename_i y
          cases y <;> try exact hk.elim
          rename_i k2 b
          obtain ⟨h1, h2⟩ := chk_elim hk
          simp only [Bool.and_eq_true, decide_eq_true_eq] at h1
          obtain ⟨rfl, rfl⟩ := h1
          obtain ⟨c, vs, us, hc, rfl, rfl, he⟩ := ih h2
          exact ⟨_, .int _ a :: vs, .int _ b :: us, hc, rfl, rfl, .int he⟩
        | none =>
          cases x <;> try exact hk.elim
          rename_i x
          cases x <;> try exact hk.elim
          rename_i a
          cases y <;> try exact hk.elim
          rename_i y
          cases y <;> try exact hk.elim
          rename_i b
          obtain ⟨c, vs, us, hc, rfl, rfl, he⟩ := ih hk
          exact ⟨_, .bool a :: vs, .bool b :: us, hc, rfl, rfl, .bool he⟩
theorem VR.agg_v_inv {g : Gh} {w : World} {h : Hp} {vs : List Value} {x : Value} (r : VR g w h (.agg (vs.map A.v)) x) : x = .agg vs.toArray := by
  cases r with
  | agg _ us hl hv =>
    simp only [List.length_map] at hl hv
    congr 1
    apply Array.ext
    · simpa using hl.symm
    · intro i h1 h2
      have := hv i (by simpa using h2)
      rw [getD_map_v _ _ (by simpa using h2)] at this
      have := (VR.v_inv this).1
      simp only [Array.getD, h1, dif_pos] at this
      simp only [List.getD_eq_getElem?_getD] at this
      have h3 : i < vs.length := by simpa using h2
      simpa [h3] using this

theorem execOp_bin {P : Program} {op : BinOp} {t : Nat} {x y : Operand} {yt : Nat} {o : Oper} (ho : o.op = .binOp op t x y yt) {ρ : Operand → Value} {w : World} {z : Value}
    (hg : (eqGuard op t x y (ρ x) (ρ y)).run P w = .ok () w) (hr : (binOp op t (ρ x) (ρ y)).run P w = .ok z w) : (execOp ρ o).run P w = .ok (.value z) w := by
  unfold execOp
  simp [ho, hg, hr]
theorem eqGuard_int (P : Program) (op : BinOp) (t : Nat) (x y : Operand) (k k' : IntKind) (a b : Int) (w : World) : (eqGuard op t x y (.int k a) (.int k' b)).run P w = .ok () w := by
  unfold eqGuard; split <;> simp
theorem eqGuard_bool (P : Program) (op : BinOp) (t : Nat) (x y : Operand) (a b : Bool) (w : World) : (eqGuard op t x y (.bool a) (.bool b)).run P w = .ok () w := by
  unfold eqGuard; split <;> simp
theorem eqGuard_string (P : Program) (op : BinOp) (t : Nat) (x y : Operand) (a b : ByteArray) (w : World) : (eqGuard op t x y (.string a) (.string b)).run P w = .ok () w := by
  unfold eqGuard; split <;> simp
theorem eqGuard_agg (P : Program) (op : BinOp) (t : Nat) (x y : Operand) (a b : Array Value) (w : World) (h : P.eqGuardType P.depth t = false) : (eqGuard op t x y (.agg a) (.agg b)).run P w = .ok () w := by
  unfold eqGuard; split <;> simp [h]
theorem eqGuard_slice (P : Program) (op : BinOp) (t : Nat) (x y : Operand) (a b : Option Addr) (n c m d : Nat) (w : World) : (eqGuard op t x y (.slice a n c) (.slice b m d)).run P w = .ok () w := by
  unfold eqGuard; split <;> simp

theorem binK_sound {P : Program} {E : EqT} (hE : EqOk P E) {op : BinOp} {t : Nat} {x y : A} {k : A → Prop} (hk : binK P E op t x y k) :
    ∃ z, k z ∧ ∀ (g : Gh) (w : World) (h : Hp) (ox oy : Operand) (vx vy : Value), VR g w h x vx → VR g w h y vy →
      (eqGuard op t ox oy vx vy).run P w = .ok () w ∧ ∃ v, (binOp op t vx vy).run P w = .ok v w ∧ VR g w h z v := by
  unfold binK at hk
  split at hk
  · rename_i k1 a k2 b
    split at hk
    · obtain ⟨z, h1, h2, h3⟩ := shiftN_sound (P := P) (k2 := k2) (t := t) hk
      refine ⟨_, h1, fun g w h ox oy vx vy rx ry => ?_⟩
      rw [rx.int_inv, ry.int_inv]
      exact ⟨eqGuard_int .., z, h3 w, .v z h2⟩
    · rename_i hs
      obtain ⟨e, hk2⟩ := chk_elim hk
      obtain rfl : k1 = k2 := of_decide_eq_true e
      obtain ⟨z, h1, h2, h3⟩ := binI_sound (P := P) (t := t) hs hk2
      refine ⟨_, h1, fun g w h ox oy vx vy rx ry => ?_⟩
      rw [rx.int_inv, ry.int_inv]
      exact ⟨eqGuard_int .., z, h3 w, .v z h2⟩
  · rename_i a b
    split at hk
    · rename_i hu
      split at hk
      · refine ⟨_, hk, fun g w h ox oy vx vy rx ry => ?_⟩
        rw [rx.bool_inv, ry.bool_inv]
        exact ⟨eqGuard_bool .., _, run_eql_bool (P := P) w t a b hu, .v _ rfl⟩
      · refine ⟨_, hk, fun g w h ox oy vx vy rx ry => ?_⟩
        rw [rx.bool_inv, ry.bool_inv]
        exact ⟨eqGuard_bool .., _, run_neq_bool (P := P) w t a b hu, .v _ rfl⟩
      · exact hk.elim
    · exact hk.elim
  · rename_i a b
    split at hk
    · refine ⟨_, hk, fun g w h ox oy vx vy rx ry => ?_⟩
      rw [rx.v_inv.1, ry.v_inv.1]
      exact ⟨eqGuard_string .., _, by simp [binOp, Op.stringOp], .v _ rfl⟩
    · refine ⟨_, hk, fun g w h ox oy vx vy rx ry => ?_⟩
      rw [rx.v_inv.1, ry.v_inv.1]
      exact ⟨eqGuard_string .., _, by simp [binOp, Op.stringOp, bne], .v _ rfl⟩
    · exact hk.elim
  · rename_i xs ys
    obtain ⟨cks, hc, hk⟩ := optK_elim hk
    obtain ⟨hg, he⟩ := hE t cks hc
    split at hk
    · obtain ⟨b, vs, us, h1, rfl, rfl, h4⟩ := eqCells_sound hk
      refine ⟨_, h1, fun g w h ox oy vx vy rx ry => ?_⟩
      rw [rx.agg_v_inv, ry.agg_v_inv]
      exact ⟨eqGuard_agg _ _ _ _ _ _ _ _ hg, .bool b, by simp [binOp, he w vs us b h4], .v _ rfl⟩
    · obtain ⟨b, vs, us, h1, rfl, rfl, h4⟩ := eqCells_sound hk
      refine ⟨_, h1, fun g w h ox oy vx vy rx ry => ?_⟩
      rw [rx.agg_v_inv, ry.agg_v_inv]
      exact ⟨eqGuard_agg _ _ _ _ _ _ _ _ hg, .bool (!b), by simp [binOp, he w vs us b h4], .v _ rfl⟩
    · exact hk.elim
  · exact hk.elim

end Go.YtoeophdffhmpmaaE
