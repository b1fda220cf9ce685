/- E30: The engine: '==' of structs and arrays of numbers and bools, nested. -/
import Derived.ChangeKeysEq
import Derived.Test.YtoeophdffhmpmaaG2

section
set_option linter.unusedVariables false
set_option linter.unusedSimpArgs false
namespace Go.YtoeophdffhmpmaaE
open Go Go.RowKit

variable {P : Program}

def flatF (P : Program) (g : Nat → Option (List (Option IntKind))) : List Field → Nat → Option (List (Option IntKind))
  | [], _ => some []
  | f :: fs, off => if f.name ≠ "_" ∧ f.offset = off then
      match g f.type with
      | some c => match P.info? f.type with
        | some i => if i.size = c.length then (flatF P g fs (off + c.length)).map (c ++ ·) else none
        | none => none
      | none => none
    else none
/-- The kinds of a type's cells. -/
def flatT (P : Program) : Nat → Nat → Option (List (Option IntKind))
  | 0, _ => none
  | d + 1, t => match P.underlying t with
    | some (.int k) => some [some k]
    | some .bool => some [none]
    | some (.struct _) => match P.stoodInHeld t with
      | false => flatF P (flatT P d) (P.fieldsOf t).toList 0
      | true => none
    | some (.array n e) => match flatT P d e with
      | some c => match P.info? e with
        | some i => if i.size = c.length then some (List.replicate n c).flatten else none
        | none => none
      | none => none
    | _ => none
theorem CkEq.length {cks : List (Option IntKind)} {vs us : List Value} {b : Bool} (h : CkEq cks vs us b) : vs.length = cks.length ∧ us.length = cks.length := by
  induction h with
  | nil => exact ⟨rfl, rfl⟩
  | int _ ih => simp [ih]
  | bool _ ih => simp [ih]
theorem CkEq.split {c cs : List (Option IntKind)} {vs us : List Value} {b : Bool} (h : CkEq (c ++ cs) vs us b) :
    ∃ b1 b2, CkEq c (vs.take c.length) (us.take c.length) b1 ∧ CkEq cs (vs.drop c.length) (us.drop c.length) b2 ∧ b = (b1 && b2) := by
  induction c generalizing vs us b with
  | nil => exact ⟨true, b, .nil, h, by simp⟩
  | cons ck c ih =>
    rw [List.cons_append] at h
    cases h with
    | int h =>
      obtain ⟨b1, b2, h1, h2, rfl⟩ := ih h
      exact ⟨_, b2, .int h1, h2, by rw [Bool.and_assoc]⟩
    | bool h =>
      obtain ⟨b1, b2, h1, h2, rfl⟩ := ih h
      exact ⟨_, b2, .bool h1, h2, by rw [Bool.and_assoc]⟩
/-- The value that has some cells. -/
def valOf (P : Program) (t : Nat) (vs : List Value) : Value := match P.underlying t with
  | some (.struct _) => .agg vs.toArray
  | some (.array _ _) => .agg vs.toArray
  | _ => vs.headD undef
theorem part_val {t : Nat} {i : TypeInfo} {d : TypeDesc} (hu : P.underlying t = some d) (hi : P.info? t = some i) {vs : List Value} (hl : vs.length = i.size) (h0 : isAggD d = false → i.size = 1) {X : Array Value} {off : Nat} (hX : ∀ j, j < vs.length → X[off + j]? = vs[j]?) (w : World) (hsz : off + i.size ≤ X.size) :
    (part t X off).run P w = .ok (valOf P t vs) w := by
  cases ha : isAggD d with
  | true =>
    have e : X.extract off (off + i.size) = vs.toArray := by
      apply Array.ext
      · simp; omega
      · intro j h1 h2
        have h2' : j < vs.length := by simpa using h2
        have := hX j h2'
        rw [List.getElem?_eq_getElem h2'] at this
        obtain ⟨h3, h4⟩ := Array.getElem?_eq_some_iff.1 this
        simp [h4]
    have hv : valOf P t vs = .agg vs.toArray := by unfold valOf; rw [hu]; cases d <;> simp [isAggD] at ha ⊢
    simp [part, run_isAgg hu, ha, sizeOf, typeInfo, hi, e, hv]
  | false =>
    have h1 := h0 ha
    obtain ⟨x, rfl⟩ : ∃ x, vs = [x] := by
      match vs, hl with
      | [x], _ => exact ⟨x, rfl⟩
      | [], h => simp at h; omega
      | _ :: _ :: _, h => simp at h; omega
    have := hX 0 (by simp)
    simp at this
    have hv : valOf P t [x] = x := by unfold valOf; rw [hu]; cases d <;> simp [isAggD] at ha ⊢
    simp [part, run_isAgg hu, ha, this, hv]
/-- What is shown of a type. -/
def FlatOk (P : Program) (t : Nat) (n : Nat) (cks : List (Option IntKind)) : Prop := ∀ vs us b w, CkEq cks vs us b → (Op.equalIn n t (valOf P t vs) (valOf P t us)).run P w = .ok b w
theorem flatF_sound {g : Nat → Option (List (Option IntKind))} {n : Nat} (hg : ∀ t c, g t = some c → FlatOk P t n c ∧ ∃ d, P.underlying t = some d ∧ (isAggD d = false → c.length = 1)) :
    ∀ (fs : List Field) (off : Nat) (cks : List (Option IntKind)), flatF P g fs off = some cks → ∀ (vs us : List Value) (b : Bool) (X Y : Array Value) (w : World), CkEq cks vs us b →
    (∀ j, j < vs.length → X[off + j]? = vs[j]?) → (∀ j, j < us.length → Y[off + j]? = us[j]?) → off + vs.length ≤ X.size → off + us.length ≤ Y.size → (Op.eqFields n X Y fs).run P w = .ok b w := by
  intro fs
  induction fs with
  | nil =>
    intro off cks h vs us b X Y w hc _ _ _ _
    simp only [flatF, Option.some.injEq] at h
    subst h
    cases hc
    rfl
  | cons f fs ih =>
    intro off cks h vs us b X Y w hc hx hy hsx hsy
    unfold flatF at h
    split at h
    · rename_i hno
      obtain ⟨hn, ho⟩ := hno
      cases hgt : g f.type with
      | none => rw [hgt] at h; cases h
      | some c =>
        rw [hgt] at h
        dsimp only at h
        cases hi : P.info? f.type with
        | none => rw [hi] at h; cases h
        | some i =>
          rw [hi] at h
          dsimp only at h
          split at h
          · rename_i hsz
            simp only [Option.map_eq_some_iff] at h
            obtain ⟨cks', h1, rfl⟩ := h
            obtain ⟨b1, b2, c1, c2, rfl⟩ := hc.split
            obtain ⟨hok, d, hu, h0⟩ := hg _ _ hgt
            have l1 := c1.length
            have l0 := hc.length
            simp only [List.length_append] at l0
            have p1 := part_val hu hi (vs := vs.take c.length) (by omega) (fun ha => by rw [hsz]; exact h0 ha) (X := X) (off := off) (fun j hj => by
              simp only [List.length_take] at hj
              rw [List.getElem?_take_of_lt (by omega)]; exact hx j (by omega)) w (by omega)
            have p2 := part_val hu hi (vs := us.take c.length) (by omega) (fun ha => by rw [hsz]; exact h0 ha) (X := Y) (off := off) (fun j hj => by
              simp only [List.length_take] at hj
              rw [List.getElem?_take_of_lt (by omega)]; exact hy j (by omega)) w (by omega)
            have hrest := ih (off + c.length) cks' h1 (vs.drop c.length) (us.drop c.length) b2 X Y w c2 (fun j hj => by
              simp only [List.length_drop] at hj
              rw [List.getElem?_drop, Nat.add_assoc]; exact hx _ (by omega)) (fun j hj => by
              simp only [List.length_drop] at hj
              rw [List.getElem?_drop, Nat.add_assoc]; exact hy _ (by omega)) (by simp only [List.length_drop]; omega) (by simp only [List.length_drop]; omega)
            simp only [Op.eqFields]
            rw [if_pos hn, ho]
            simp only [Sem.run_bind, p1, p2, hok _ _ _ w c1, Result.andThen_ok, Sem.run_ite]
            cases b1
            · simp
            · simpa using hrest
          · cases h
    · cases h
theorem flatI_sound {e : Nat} {i : TypeInfo} {d : TypeDesc} {n : Nat} {c : List (Option IntKind)} (hok : FlatOk P e n c) (hu : P.underlying e = some d) (hi : P.info? e = some i) (hsz : i.size = c.length) (h0 : isAggD d = false → c.length = 1) :
    ∀ (m k : Nat) (vs us : List Value) (b : Bool) (X Y : Array Value) (w : World), CkEq (List.replicate m c).flatten vs us b →
    (∀ j, j < vs.length → X[k * c.length + j]? = vs[j]?) → (∀ j, j < us.length → Y[k * c.length + j]? = us[j]?) → k * c.length + vs.length ≤ X.size → k * c.length + us.length ≤ Y.size →
      (Op.eqItems n e (P.cellsOf e) X Y (List.range' k m)).run P w = .ok b w := by
  have hco : P.cellsOf e = c.length := by simp [Program.cellsOf, hi, hsz]
  rw [hco]
  intro m
  induction m with
  | zero =>
    intro k vs us b X Y w hc _ _ _ _
    simp at hc
    cases hc
    rfl
  | succ m ih =>
    intro k vs us b X Y w hc hx hy hsx hsy
    rw [List.replicate_succ, List.flatten_cons] at hc
    obtain ⟨b1, b2, c1, c2, rfl⟩ := hc.split
    have l1 := c1.length
    have l0 := hc.length
    simp only [List.length_append] at l0
    have p1 := part_val hu hi (vs := vs.take c.length) (by omega) (fun ha => by rw [hsz]; exact h0 ha) (X := X) (off := k * c.length) (fun j hj => by
      simp only [List.length_take] at hj
      rw [List.getElem?_take_of_lt (by omega)]; exact hx j (by omega)) w (by omega)
    have p2 := part_val hu hi (vs := us.take c.length) (by omega) (fun ha => by rw [hsz]; exact h0 ha) (X := Y) (off := k * c.length) (fun j hj => by
      simp only [List.length_take] at hj
      rw [List.getElem?_take_of_lt (by omega)]; exact hy j (by omega)) w (by omega)
    have ek : (k + 1) * c.length = k * c.length + c.length := by rw [Nat.add_mul, Nat.one_mul]
    have hrest := ih (k + 1) (vs.drop c.length) (us.drop c.length) b2 X Y w c2 (fun j hj => by
      simp only [List.length_drop] at hj
      rw [List.getElem?_drop, ek, Nat.add_assoc]; exact hx _ (by omega)) (fun j hj => by
      simp only [List.length_drop] at hj
      rw [List.getElem?_drop, ek, Nat.add_assoc]; exact hy _ (by omega)) (by simp only [List.length_drop]; omega) (by simp only [List.length_drop]; omega)
    rw [List.range'_succ]
    simp only [Op.eqItems, Sem.run_bind, p1, p2, hok _ _ _ w c1, Result.andThen_ok, Sem.run_ite]
    cases b1
    · simp
    · simpa using hrest
theorem flatT_sound : ∀ (d t : Nat) (cks : List (Option IntKind)), flatT P d t = some cks → (∀ n, d ≤ n → FlatOk P t n cks) ∧ ∃ ds, P.underlying t = some ds ∧ (isAggD ds = false → cks.length = 1) := by
  intro d
  induction d with
  | zero => intro t cks h; cases h
  | succ d ih =>
    intro t cks h
    unfold flatT at h
    cases hu : P.underlying t with
    | none => rw [hu] at h; cases h
    | some ds =>
      rw [hu] at h
      cases ds <;> try (cases h; done)
      · simp only [Option.some.injEq] at h
        subst h
        refine ⟨fun n hn vs us b w hc => ?_, _, rfl, fun _ => rfl⟩
        obtain ⟨n, rfl⟩ : ∃ m, n = m + 1 := ⟨n - 1, by omega⟩
        cases hc with
        | bool hc => cases hc; simp only [valOf, hu]; simpa using run_equalIn_bool' w n t _ _ hu
      · rename_i k
        simp only [Option.some.injEq] at h
        subst h
        refine ⟨fun n hn vs us b w hc => ?_, _, rfl, fun _ => rfl⟩
        obtain ⟨n, rfl⟩ : ∃ m, n = m + 1 := ⟨n - 1, by omega⟩
        cases hc with
        | int hc => cases hc; simp only [valOf, hu]; simpa using run_equalIn_int w n t k k _ _ hu
      · rename_i m e
        dsimp only at h
        cases hc : flatT P d e with
        | none => rw [hc] at h; cases h
        | some c =>
          rw [hc] at h
          dsimp only at h
          cases hi : P.info? e with
          | none => rw [hi] at h; cases h
          | some i =>
            rw [hi] at h
            dsimp only at h
            split at h
            · rename_i hsz
              simp only [Option.some.injEq] at h
              subst h
              refine ⟨fun n hn vs us b w hck => ?_, _, rfl, fun ha => by simp [isAggD] at ha⟩
              obtain ⟨n, rfl⟩ : ∃ m, n = m + 1 := ⟨n - 1, by omega⟩
              obtain ⟨h1, de, h2, h3⟩ := ih e c hc
              simp only [valOf, hu]
              rw [run_equalIn_array w n vs.toArray us.toArray hu hi, List.range_eq_range']
              exact flatI_sound (h1 n (by omega)) h2 hi hsz h3 m 0 vs us b vs.toArray us.toArray w hck (fun j hj => by simp) (fun j hj => by simp) (by simp) (by simp)
            · cases h
      · rename_i fs
        dsimp only at h
        cases hst : P.stoodInHeld t with
        | true => rw [hst] at h; cases h
        | false =>
          rw [hst] at h
          refine ⟨fun n hn vs us b w hck => ?_, _, rfl, fun ha => by simp [isAggD] at ha⟩
          obtain ⟨n, rfl⟩ : ∃ m, n = m + 1 := ⟨n - 1, by omega⟩
          simp only [valOf, hu]
          rw [run_equalIn_struct w n t _ _ (by rw [hu]; simp [Program.fieldsOf, hu]) hst]
          exact flatF_sound (fun t c hc => ⟨(ih t c hc).1 n (by omega), (ih t c hc).2⟩) _ 0 cks h vs us b _ _ w hck (fun j hj => by simp) (fun j hj => by simp) (by simp) (by simp)
/-- Structs and arrays, told by their types. -/
noncomputable def eqN (P : Program) (ts : List Nat) : EqT := fun t => match memB t ts with | true => flatT P 10 t | false => none
def aggT (P : Program) (t : Nat) : Bool := match P.underlying t with | some (.struct _) => true | some (.array _ _) => true | _ => false
theorem eqN_ok {ts : List Nat} (h : (ts.all fun t => !P.eqGuardType P.depth t && aggT P t) = true) : EqOk P (eqN P ts) := by
  intro t cks ht
  unfold eqN at ht
  cases hm : memB t ts with
  | false => rw [hm] at ht; cases ht
  | true =>
    rw [hm] at ht
    have mem : ∀ L : List Nat, memB t L = true → t ∈ L := fun L => by
      induction L with
      | nil => intro h; cases h
      | cons g L ih =>
        intro h
        change (match Nat.beq t g with | true => true | false => memB t L) = true at h
        cases hb : Nat.beq t g with
        | true => rw [Nat.eq_of_beq_eq_true hb]; simp
        | false => rw [hb] at h; exact List.mem_cons_of_mem _ (ih h)
    have h1 := List.all_eq_true.1 h t (mem ts hm)
    simp only [Bool.and_eq_true, Bool.not_eq_true'] at h1
    refine ⟨h1.1, fun w xs ys b hc => ?_⟩
    have := (flatT_sound 10 t cks ht).1 10000 (by decide) xs ys b w hc
    have hv : ∀ vs, valOf P t vs = .agg vs.toArray := fun vs => by
      have h2 := h1.2
      unfold aggT at h2
      unfold valOf
      cases hu : P.underlying t with
      | none => rw [hu] at h2; cases h2
      | some d => rw [hu] at h2; cases d <;> first | rfl | (simp at h2; done)
    rw [hv, hv] at this
    exact this
end Go.YtoeophdffhmpmaaE
end
