/- The engine: '==' of structs of numbers and bools. -/
import Derived.Test.YtoeophdffhmpmaaE28
set_option linter.unusedVariables false
set_option linter.unusedSimpArgs false
namespace Go.YtoeophdffhmpmaaE
open Go Go.RowKit

variable {P : Program}

/-- The kinds of a struct's cells, if it is flat. -/
def flatFs (P : Program) : List Field → Nat → Option (List (Option IntKind))
  | [], _ => some []
  | f :: fs, off => if f.name ≠ "_" ∧ f.offset = off then
      match P.underlying f.type with
      | some (.int k) => (flatFs P fs (off + 1)).map (some k :: ·)
      | some .bool => (flatFs P fs (off + 1)).map (none :: ·)
      | _ => none
    else none
theorem run_part_one {t : TypeId} {d : TypeDesc} (hu : P.underlying t = some d) (hd : isAggD d = false) (vs : Array Value) (off : Nat) (v : Value) (hv : vs[off]? = some v) (w : World) : (part t vs off).run P w = .ok v w := by
  have hag := run_isAgg hu
  have : (match d with | .struct _ | .array _ _ => true | _ => false) = false := by cases d <;> first | rfl | cases hd
  cases d <;> first
    | (cases hd; done)
    | simp [part, hag, hv, isAggD]
theorem eqFields_flat {n : Nat} {w : World} : ∀ (fs : List Field) (off : Nat) (cks : List (Option IntKind)) (vs us : List Value) (b : Bool) (xs ys : Array Value), flatFs P fs off = some cks → CkEq cks vs us b →
    (∀ i, i < vs.length → xs[off + i]? = vs[i]?) → (∀ i, i < us.length → ys[off + i]? = us[i]?) → (Op.eqFields (n + 1) xs ys fs).run P w = .ok b w := by
  intro fs
  induction fs with
  | nil =>
    intro off cks vs us b xs ys hf hc _ _
    simp only [flatFs, Option.some.injEq] at hf
    subst hf
    cases hc
    rfl
  | cons f fs ih =>
    intro off cks vs us b xs ys hf hc hx hy
    unfold flatFs at hf
    split at hf
    · rename_i hno
      obtain ⟨hn, ho⟩ := hno
      have step : ∀ (ck : Option IntKind) (d : TypeDesc) (cks' : List (Option IntKind)) (a b' : Value) (vs' us' : List Value) (e c : Bool), P.underlying f.type = some d → isAggD d = false → flatFs P fs (off + 1) = some cks' → CkEq cks' vs' us' c →
          vs = a :: vs' → us = b' :: us' → (Op.equalIn (n + 1) f.type a b').run P w = .ok e w → b = (e && c) → (Op.eqFields (n + 1) xs ys (f :: fs)).run P w = .ok b w := by
        intro ck d cks' a b' vs' us' e c hu hd hf' hc' hvs hus heq hb
        subst hvs hus hb
        have h1 := hx 0 (by simp)
        have h2 := hy 0 (by simp)
        simp only [Nat.add_zero, List.getElem?_cons_zero] at h1 h2
        have hrest := ih (off + 1) cks' vs' us' c xs ys hf' hc' (fun i hi => by have := hx (i + 1) (by simp; omega); rw [show off + 1 + i = off + (i + 1) by omega]; simpa using this) (fun i hi => by have := hy (i + 1) (by simp; omega); rw [show off + 1 + i = off + (i + 1) by omega]; simpa using this)
        simp only [Op.eqFields]
        rw [if_pos hn, ho]
        simp only [Sem.run_bind, run_part_one hu hd xs off a h1 w, run_part_one hu hd ys off b' h2 w, heq, Result.andThen_ok, Sem.run_ite]
        cases e
        · simp
        · simpa using hrest
      cases hu : P.underlying f.type with
      | none => rw [hu] at hf; cases hf
      | some d =>
        rw [hu] at hf
        cases d <;> try (cases hf; done)
        · simp only [Option.map_eq_some_iff] at hf
          obtain ⟨cks', h1, rfl⟩ := hf
          cases hc with
          | bool h => rename_i a' b' _ _ _; exact step none _ cks' _ _ _ _ _ _ hu rfl h1 h rfl rfl (run_equalIn_bool' w n f.type _ _ hu) rfl
        · rename_i k
          simp only [Option.map_eq_some_iff] at hf
          obtain ⟨cks', h1, rfl⟩ := hf
          cases hc with
          | int h => exact step (some k) _ cks' _ _ _ _ _ _ hu rfl h1 h rfl rfl (run_equalIn_int w n f.type k k _ _ hu) rfl
    · cases hf
/-- Flat structs, told by their types. -/
noncomputable def eqL (P : Program) (ts : List Nat) : EqT := fun t => match memB t ts with | true => flatFs P (P.fieldsOf t).toList 0 | false => none
theorem eqL_ok {ts : List Nat} (h : ∀ t ∈ ts, P.eqGuardType P.depth t = false ∧ P.underlying t = some (.struct (P.fieldsOf t)) ∧ P.stoodInHeld t = false) : EqOk P (eqL P ts) := by
  intro t cks ht
  unfold eqL at ht
  cases hm : memB t ts with
  | false => rw [hm] at ht; cases ht
  | true =>
    rw [hm] at ht
    have mem : ∀ L : List Nat, memB t L = true → t ∈ L := fun L => by
      induction L with
      | nil => intro h; cases h
      | cons g L ih =>
        intro h
        change (match Nat.beq t g with | true => true | false => memB t L) = true at h
        cases hb : Nat.beq t g with
        | true => rw [Nat.eq_of_beq_eq_true hb]; simp
        | false => rw [hb] at h; exact List.mem_cons_of_mem _ (ih h)
    obtain ⟨h1, h2, h3⟩ := h t (mem ts hm)
    refine ⟨h1, fun w xs ys b hc => ?_⟩
    show (Op.equalIn (9999 + 1) t (.agg xs.toArray) (.agg ys.toArray)).run P w = _
    rw [run_equalIn_struct w 9999 t _ _ h2 h3]
    exact eqFields_flat (n := 9998) (P.fieldsOf t).toList 0 cks xs ys b xs.toArray ys.toArray ht hc (fun i hi => by simp) (fun i hi => by simp)
end Go.YtoeophdffhmpmaaE
