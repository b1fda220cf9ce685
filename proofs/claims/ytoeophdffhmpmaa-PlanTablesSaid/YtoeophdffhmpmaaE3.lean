/- The engine: the small steps told plainly; what a callee's contract says. -/
import Derived.Test.YtoeophdffhmpmaaE2
set_option linter.unusedVariables false
namespace Go.YtoeophdffhmpmaaE
open Go Go.RowKit

section
variable {α : Type}
theorem setK_eq (xs : List α) (n : Nat) (v : α) (k : List α → Prop) : setK xs n v k = k (xs.set n v) := by
  induction xs generalizing n k with
  | nil => rfl
  | cons x xs ih => cases n with
    | zero => rfl
    | succ n => exact ih n fun ys => k (x :: ys)
theorem dropK_eq (xs : List α) (n : Nat) (k : List α → Prop) : dropK xs n k = k (xs.drop n) := by
  induction n generalizing xs with
  | zero => rfl
  | succ n ih => cases xs with
    | nil => rfl
    | cons x xs => exact ih xs
theorem takeK_elim {n : Nat} {xs : List α} {k : List α → Prop} (hk : takeK n xs k) : n ≤ xs.length ∧ k (xs.take n) := by
  induction n generalizing xs k with
  | zero => exact ⟨Nat.zero_le _, hk⟩
  | succ n ih => cases xs with
    | nil => exact hk.elim
    | cons x xs => obtain ⟨h1, h2⟩ := ih (xs := xs) (k := fun ys => k (x :: ys)) hk; exact ⟨by simp; omega, h2⟩
theorem lenK_eq (xs : List α) (n : Nat) (k : Nat → Prop) : lenK xs n k = k (n + xs.length) := by
  induction xs generalizing n with
  | nil => rfl
  | cons x xs ih => exact (ih (n + 1)).trans (by simp only [List.length_cons]; congr 1; omega)
theorem snocK_eq (xs news : List α) (k : List α → Prop) : snocK xs news k = k (xs ++ news) := by
  cases news with
  | nil => show k xs = _; rw [List.append_nil]
  | cons y news =>
    induction xs generalizing k with
    | nil => rfl
    | cons x xs ih => exact ih fun ys => k (x :: ys)
theorem lenK_intro {xs : List α} {n : Nat} {k : Nat → Prop} (h : k (n + xs.length)) : lenK xs n k := by rw [lenK_eq]; exact h
theorem snocK_intro {xs news : List α} {k : List α → Prop} (h : k (xs ++ news)) : snocK xs news k := by rw [snocK_eq]; exact h
theorem setK_intro {xs : List α} {n : Nat} {v : α} {k : List α → Prop} (h : k (xs.set n v)) : setK xs n v k := by rw [setK_eq]; exact h
/-- A new element, behind what is there. -/
theorem snoc1_intro {xs : List α} {y : α} {k : List α → Prop} (h : k (xs ++ [y])) : (List.rec (motive := fun _ => (List α → Prop) → Prop) (fun k => k [y]) (fun x _ ih k => ih fun ys => k (x :: ys)) xs k : Prop) := (snocK_eq xs [y] k).mpr h
end
theorem evs_eq (ts : List A) (xs : List Operand) (k : List A → Prop) : evs ts xs k = k (xs.map (ev ts)) := by
  induction xs generalizing k with
  | nil => rfl
  | cons x xs ih => show force (ev ts x) (fun a => evs ts xs fun as => k (a :: as)) = _; rw [force_eq]; exact ih fun as => k (ev ts x :: as)
theorem mapK_eq (vs : List Value) (k : List A → Prop) : mapK vs k = k (vs.map ofVal) := by
  induction vs generalizing k with
  | nil => rfl
  | cons v vs ih => show force (ofVal v) (fun a => mapK vs fun as => k (a :: as)) = _; rw [force_eq]; exact ih fun as => k (ofVal v :: as)
theorem putK_eq (ts : List A) (dst : Option Nat) (a : A) (k : List A → Prop) : putK ts dst a k = k (match dst with | none => ts | some d => ts.set d a) := by
  cases dst with
  | none => rfl
  | some d => show force a (fun a => setK ts d a k) = _; rw [force_eq, setK_eq]
theorem allB_iff (p : A → Bool) (xs : List A) : allB p xs = true ↔ ∀ x ∈ xs, p x = true := by
  induction xs with
  | nil => exact ⟨fun _ x h => (by cases h), fun _ => rfl⟩
  | cons x xs ih =>
    show (p x && allB p xs) = true ↔ _
    rw [Bool.and_eq_true, ih]; simp
theorem allR_iff (p : A → Bool) (els : List (List A)) : allR p els = true ↔ ∀ c ∈ els, ∀ x ∈ c, p x = true := by
  induction els with
  | nil => exact ⟨fun _ x h => (by cases h), fun _ => rfl⟩
  | cons c els ih =>
    show (allB p c && allR p els) = true ↔ _
    rw [Bool.and_eq_true, ih, allB_iff]; simp
/-- What `setMany` leaves. -/
def ovl : List A → Nat → List A → List A
  | cells, _, [] => cells
  | cells, fo, a :: new => ovl (cells.set fo a) (fo + 1) new
theorem setMany_eq (cells : List A) (fo : Nat) (new : List A) (k : List A → Prop) : setMany cells fo new k = k (ovl cells fo new) := by
  induction new generalizing cells fo with
  | nil => rfl
  | cons a new ih => show setK cells fo a (fun cs => setMany cs (fo + 1) new k) = _; rw [setK_eq]; exact ih (cells.set fo a) (fo + 1)
theorem ovl_length (cells : List A) (fo : Nat) (new : List A) : (ovl cells fo new).length = cells.length := by
  induction new generalizing cells fo with
  | nil => rfl
  | cons a new ih => exact (ih (cells.set fo a) (fo + 1)).trans (by simp)
theorem ovl_get (cells : List A) (fo : Nat) (new : List A) (h : fo + new.length ≤ cells.length) (j : Nat) :
    (ovl cells fo new).getD j .un = if fo ≤ j ∧ j < fo + new.length then new.getD (j - fo) .un else cells.getD j .un := by
  induction new generalizing cells fo with
  | nil => simp [ovl]; omega
  | cons a new ih =>
    have h' : fo + 1 + new.length ≤ (cells.set fo a).length := by simp at h ⊢; omega
    have := ih (cells.set fo a) (fo + 1) h'
    show (ovl (cells.set fo a) (fo + 1) new).getD j .un = _
    rw [this]
    simp only [List.length_cons, List.getD_eq_getElem?_getD] at h ⊢
    by_cases h1 : fo + 1 ≤ j ∧ j < fo + 1 + new.length
    · rw [if_pos h1, if_pos (by omega)]
      obtain ⟨m, hm⟩ : ∃ m, j - fo = m + 1 := ⟨j - fo - 1, by omega⟩
      rw [hm, show j - (fo + 1) = m from by omega]; simp
    · rw [if_neg h1]
      by_cases h2 : j = fo
      · subst h2
        rw [if_pos (by omega)]
        simp only [Nat.sub_self, List.getElem?_cons_zero, Option.getD_some]
        rw [List.getElem?_set_self (by omega)]; rfl
      · rw [if_neg (by omega), List.getElem?_set_ne (by omega)]

theorem loadB_elim {agg : Bool} {size : Nat} {cells : List A} {fo : Nat} {k : A → Prop} (hk : loadB agg size cells fo k) :
    (agg = true ∧ fo ≤ cells.length + fo ∧ size ≤ (cells.drop fo).length ∧ k (.agg ((cells.drop fo).take size))) ∨ (agg = false ∧ ∃ a, cells[fo]? = some a ∧ k a) := by
  cases agg with
  | true =>
    left
    simp only [loadB, dropK_eq] at hk
    obtain ⟨h1, h2⟩ := takeK_elim hk
    exact ⟨rfl, by omega, h1, h2⟩
  | false => right; obtain ⟨a, h1, h2⟩ := optK_elim hk; exact ⟨rfl, a, h1, h2⟩
theorem tyK_elim {P : Program} {t : Nat} {k : TypeDesc → Nat → Prop} (hk : tyK P t k) : ∃ d i, P.underlying t = some d ∧ P.info? t = some i ∧ k d i.size := by
  obtain ⟨d, h1, h2⟩ := optK_elim hk
  obtain ⟨i, h3, h4⟩ := optK_elim h2
  exact ⟨d, i, h1, h3, by rwa [natK_eq] at h4⟩
theorem zeroK_elim {P : Program} {t : Nat} {k : List A → Prop} (hk : zeroK P t k) : ∃ i z, P.info? t = some i ∧ i.zero = some z ∧ k (z.cells.toList.map ofVal) := by
  obtain ⟨i, h1, h2⟩ := optK_elim hk
  obtain ⟨z, h3, h4⟩ := optK_elim h2
  exact ⟨i, z, h1, h3, by rwa [mapK_eq] at h4⟩

/-- A constant in a cell. -/
theorem VR.ofVal_one (g : Gh) (w : World) (h : Hp) (x : Value) (hx : x.oneCell' = true) : VR g w h (ofVal x) x := by
  cases x with
  | agg cs => simp [Value.oneCell'] at hx
  | tuple cs => simp [Value.oneCell'] at hx
  | _ => exact .v _ rfl
theorem getD_map_ofVal (l : List Value) (i : Nat) (hi : i < l.length) : (l.map ofVal).getD i .un = ofVal (l.getD i undef) := by
  simp [List.getD_eq_getElem?_getD, hi]
theorem getD_map_v (l : List Value) (i : Nat) (hi : i < l.length) : (l.map A.v).getD i .un = .v (l.getD i undef) := by
  simp [List.getD_eq_getElem?_getD, hi]
theorem VR.ofVal (g : Gh) (w : World) (h : Hp) (x : Value) : VR g w h (ofVal x) x := by
  cases x with
  | agg cs =>
    show VR g w h (match cs.toList.all Value.oneCell' with | true => .agg (cs.toList.map .v) | false => .un) _
    split
    · rename_i hx
      refine .agg _ _ (by simp) (fun i hi => ?_)
      simp only [List.length_map, Array.length_toList] at hi
      rw [getD_map_v _ _ (by simpa using hi)]
      have : cs.getD i undef = cs.toList.getD i undef := by simp [Array.getD, hi, List.getD_eq_getElem?_getD]
      rw [this]
      refine .v _ ?_
      simp only [List.all_eq_true] at hx
      exact hx _ (by simp [List.getD_eq_getElem?_getD, hi])
    · exact .un _
  | tuple cs => exact .un _
  | _ => exact VR.ofVal_one g w h _ rfl

/-- Arguments as a callee sees them: nothing of them is turned. -/
def gI (I : Nat → Prop) : Gh := ⟨fun _ => 0, fun _ => 0, I, []⟩
def ARel (I : Nat → Prop) (w : World) (as : List A) (vs : Array Value) : Prop :=
  as.length = vs.size ∧ ∀ i, i < as.length → VR (gI I) w (fun _ => .hole) (as.getD i .un) (vs.getD i undef)
/-- THE CONTRACT OF A FUNCTION: called with what stands for `as`, whatever the world, it returns what stands for r; nothing that lay has turned. -/
def Pure (P : Program) (f : Nat) (as : List A) (r : Res) : Prop :=
  ∀ (w : World) (I : Nat → Prop) (vs : Array Value), (∀ x, I x → x < w.heap.size) → ARel I w as vs →
    Calls P f vs w fun e w' => ∃ v g', e = .returned v ∧ SW w.heap.size ⟨w, I⟩ g' w' (hf r.hs) ∧ (∀ x, g'.I x → I x ∨ w.heap.size ≤ x) ∧ (∀ x, I x → g'.I x) ∧ VR g' w' (hf r.hs) r.v v
/-- What is asked of a program at sight. -/
structure PF (P : Program) : Prop where
  num : ∀ (f : Nat) (fn : Func), P.funcs[f]? = some fn → (fn.name == "runtime.NumGoroutine") = false
  mix : P.follows .mixedOrders = true
def Enters (P : Program) (f : Nat) : Prop := ∀ args w, (callFunc f args).run P w = .ok (.enter f args) w
theorem enters_pf {P : Program} (pf : PF P) {f : Nat} {fn : Func} {c : Code} (hf : P.funcs[f]? = some fn) (hb : fn.body = some c) : Enters P f := by
  intro args w
  have := pf.num f fn hf
  simp only [beq_eq_false_iff_ne, ne_eq] at this
  simp [callFunc, hf, hb, this]
structure EnvOk (P : Program) (env : Env) : Prop where
  ent : ∀ f T, env f = some T → Enters P f
  pure : ∀ f T, env f = some T → ∀ as r, T as r → Pure P f as r
/-- Two lists of cells that fit kinds, and whether they are equal. -/
inductive CkEq : List (Option IntKind) → List Value → List Value → Bool → Prop
  | nil : CkEq [] [] [] true
  | int {k cks a b xs ys c} (h : CkEq cks xs ys c) : CkEq (some k :: cks) (.int k a :: xs) (.int k b :: ys) ((a == b) && c)
  | bool {cks a b xs ys c} (h : CkEq cks xs ys c) : CkEq (none :: cks) (.bool a :: xs) (.bool b :: ys) ((a == b) && c)
def EqOk (P : Program) (E : EqT) : Prop :=
  ∀ t cks, E t = some cks → P.eqGuardType P.depth t = false ∧ ∀ w xs ys b, CkEq cks xs ys b → (Op.equal t (.agg xs.toArray) (.agg ys.toArray)).run P w = .ok b w

/-- The fences that are used: all is let in; in a round or in none. -/
def FW (r : Option Nat) : Fence := { fn := fun _ => True, depth := none, alive := false, round := r }
theorem callsIn_FW {r : Option Nat} {n : Nat} {P : Program} {f : FuncId} {args : Array Value} {w : World} {R : Ending → World → Prop} (h : Calls P f args w R) : CallsIn (FW r) n P f args w R :=
  (callsIn_wide (n := n)).2 h

/-- WHAT AN OPERATION COMES TO, WHEREVER IT STANDS: c: the own heap as the text's order has it; h: as it is. -/
def QS (P : Program) (B0 : Nat) (w0 : Wz) (c : Hp) (p : Nat) (o : Oper) (E : Operand → A) (a : A) (news : List Blk) : Prop :=
  ∀ (r : Option Nat) (g : Gh) (w : World) (h : Hp) (act : Act) (N : Nat) (next : Act → World → Prop) (Q : Exit → Act → World → Prop),
    SW B0 w0 g w h → (∀ b, Live h b → Live c b → h b = c b) → (∀ b, p ≤ b → b < p + news.length → ¬ Live h b) →
    (∀ x ∈ o.op.operands, VR g w h (E x) (act.eval x)) →
    (∀ v w' g', EB g w h g' w' (addH h p news) → SW B0 w0 g' w' (addH h p news) → VR g' w' (addH h p news) a v → next (act.put o.dst v) w') →
    o.wpIn (FW r) N P act w next Q

theorem QS.value {P : Program} {B0 : Nat} {w0 : Wz} {c : Hp} {p : Nat} {o : Oper} {E : Operand → A} {a : A} (hd : ∀ d, o.op ≠ .defer d)
    (hrun : ∀ (g : Gh) (w : World) (h : Hp) (act : Act), SW B0 w0 g w h → (∀ b, Live h b → Live c b → h b = c b) → (∀ x ∈ o.op.operands, VR g w h (E x) (act.eval x)) →
      ∃ v, (execOp act.eval o).run P w = .ok (.value v) w ∧ VR g w h a v) : QS P B0 w0 c p o E a [] := by
  intro r g w h act N next Q hs hc _ hop hnext
  obtain ⟨v, hr, hv⟩ := hrun g w h act hs hc hop
  refine ⟨fun f _ => trivial, ?_⟩
  rw [Oper.semAt_eq _ _ _ hd, hr]
  rw [addH_nil] at hnext
  exact hnext v w g (EB.refl g w h) hs hv

end Go.YtoeophdffhmpmaaE
