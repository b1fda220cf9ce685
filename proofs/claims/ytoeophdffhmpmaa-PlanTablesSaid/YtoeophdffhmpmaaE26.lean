/- The engine: regions that draw: the orders, and what they come to. -/
import Derived.Test.YtoeophdffhmpmaaE25
set_option linter.unusedVariables false
set_option linter.unusedSimpArgs false
namespace Go.YtoeophdffhmpmaaE
open Go Go.RowKit

variable {P : Program} {B0 : Nat} {w0 : Wz} {c : Hp} {p : Nat} {o : Oper} {ts : List A} {hp : List Blk}

theorem upto_spec {n : Nat} {p : Nat → Bool} (h : upto n p = true) {i : Nat} (hi : i < n) : p i = true := by
  unfold upto at h
  rw [List.all_eq_true] at h
  exact h i (List.mem_range.2 hi)
/-- A set of operations that has what binds its members. -/
def Closed (all : List Oper) (L : Nat → Prop) : Prop := ∀ (j : Nat) (o : Oper), all[j]? = some o → L j → ∀ e ∈ o.after, Region.binds .any e = true → L e.on
theorem maskOf_spec {acc : List Nat} {es : List Edge} {i : Nat} (h : (maskOf acc es).testBit i = true) : ∃ e ∈ es, Region.binds .any e = true ∧ (e.on = i ∨ (acc.getD e.on 0).testBit i = true) := by
  induction es with
  | nil => simp [maskOf] at h
  | cons e es ih =>
    simp only [maskOf] at h
    cases hb : Region.binds .any e with
    | false =>
      rw [hb] at h
      obtain ⟨e', h1, h2⟩ := ih h
      exact ⟨e', List.mem_cons_of_mem _ h1, h2⟩
    | true =>
      rw [hb] at h
      simp only [Nat.testBit_or, Bool.or_eq_true] at h
      rcases h with (h | h) | h
      · refine ⟨e, by simp, hb, .inl ?_⟩
        rw [Nat.testBit_two_pow] at h
        simpa using h
      · exact ⟨e, by simp, hb, .inr h⟩
      · obtain ⟨e', h1, h2⟩ := ih h
        exact ⟨e', List.mem_cons_of_mem _ h1, h2⟩
/-- What the bits say. -/
def MSpec (all : List Oper) (ms : List Nat) : Prop :=
  ∀ (j i : Nat) (o : Oper), all[j]? = some o → (ms.getD j 0).testBit i = true → ∀ L : Nat → Prop, Closed all L → (∀ e ∈ o.after, Region.binds .any e = true → L e.on) → L i
theorem masks_spec (all : List Oper) : ∀ (os pre : List Oper) (acc : List Nat), all = pre ++ os → pre.length = acc.length → MSpec all acc → MSpec all (masks os acc) := by
  intro os
  induction os with
  | nil => exact fun pre acc _ _ h => h
  | cons o os ih =>
    intro pre acc ha hl hm
    refine ih (pre ++ [o]) _ (by rw [ha]; simp) (by simp [hl]) ?_
    intro j i o' ho' ht L hL hd
    by_cases hj : j < acc.length
    · rw [List.getD_eq_getElem?_getD, List.getElem?_append_left hj, ← List.getD_eq_getElem?_getD] at ht
      exact hm j i o' ho' ht L hL hd
    · by_cases hj2 : j = acc.length
      · subst hj2
        have ho : o' = o := by
          rw [ha, ← hl, List.getElem?_append_right (Nat.le_refl _)] at ho'
          simpa using ho'.symm
        subst ho
        rw [List.getD_eq_getElem?_getD, List.getElem?_append_right (Nat.le_refl _)] at ht
        simp only [Nat.sub_self, List.getElem?_cons_zero, Option.getD_some] at ht
        obtain ⟨e, h1, h2, h3⟩ := maskOf_spec ht
        have hLe := hd e (by simpa using h1) h2
        rcases h3 with h3 | h3
        · rw [← h3]; exact hLe
        · obtain ⟨oe, hoe⟩ : ∃ oe, all[e.on]? = some oe := by
            have : e.on < acc.length := by
              rcases Nat.lt_or_ge e.on acc.length with h | h
              · exact h
              · rw [List.getD_eq_getElem?_getD, List.getElem?_eq_none h] at h3; simp at h3
            have h5 : e.on < all.length := by rw [ha]; simp; omega
            exact ⟨all[e.on], List.getElem?_eq_getElem h5⟩
          exact hm e.on i oe hoe h3 L hL (hL e.on oe hoe hLe)
      · rw [List.getD_eq_getElem?_getD, List.getElem?_eq_none (by simp; omega)] at ht
        simp at ht
theorem masks_ok (all : List Oper) : MSpec all (masks all []) :=
  masks_spec all all [] [] rfl rfl (fun j i o _ h => by simp at h)

/-! ### How many are listed -/
def cnt (p : Nat → Bool) : Nat → Nat
  | 0 => 0
  | k + 1 => cnt p k + (if p k = true then 1 else 0)
theorem cnt_le (p : Nat → Bool) (k : Nat) : cnt p k ≤ k := by
  induction k with
  | zero => exact Nat.le_refl _
  | succ k ih => rw [cnt]; split <;> omega
theorem cnt_full {p : Nat → Bool} : ∀ {k : Nat}, cnt p k = k → ∀ j, j < k → p j = true := by
  intro k
  induction k with
  | zero => intro _ j hj; omega
  | succ k ih =>
    intro h j hj
    rw [cnt] at h
    have := cnt_le p k
    split at h
    · by_cases hjk : j = k
      · subst hjk; assumption
      · exact ih (by omega) j (by omega)
    · omega
theorem cnt_congr {p q : Nat → Bool} : ∀ {k : Nat}, (∀ j, j < k → p j = q j) → cnt p k = cnt q k := by
  intro k
  induction k with
  | zero => intro _; rfl
  | succ k ih => intro h; rw [cnt, cnt, ih (fun j hj => h j (by omega)), h k (by omega)]
theorem cnt_set {p q : Nat → Bool} {i : Nat} (hp : p i = false) (hq : q i = true) (hne : ∀ j, j ≠ i → q j = p j) : ∀ {k : Nat}, i < k → cnt q k = cnt p k + 1 := by
  intro k
  induction k with
  | zero => intro h; omega
  | succ k ih =>
    intro h
    rw [cnt, cnt]
    by_cases hik : i = k
    · subst hik
      rw [cnt_congr (fun j hj => hne j (by omega)), if_pos hq, if_neg (by rw [hp]; simp)]
    · rw [ih (by omega), hne k (fun e => hik e.symm)]
      omega

section
variable {F : Fence} {N : Nat} {ops : Array Oper} {Q : Exit → Act → World → Prop}
theorem getD_set (listed : Array Bool) (i j : Nat) (d : Bool) (hi : i < listed.size) : (listed.setIfInBounds i true).getD j d = if j = i then true else listed.getD j d := by
  simp only [Array.getD_eq_getD_getElem?]
  by_cases h : j = i
  · subst h; rw [if_pos rfl, Array.getElem?_setIfInBounds_self_of_lt hi]; rfl
  · rw [if_neg h, Array.getElem?_setIfInBounds_ne (fun e => h e.symm)]
theorem getD_any (listed : Array Bool) (j : Nat) (d d' : Bool) (hj : j < listed.size) : listed.getD j d = listed.getD j d' := by
  simp [Array.getD, hj]
theorem closed_listed (listed : Array Bool) (hcl : ∀ (j : Nat) (o : Oper), ops[j]? = some o → listed.getD j false = true → ∀ e ∈ o.after, Region.binds .any e = true → listed.getD e.on false = true) : Closed ops.toList (fun j => listed.getD j false = true) :=
  fun j o ho hj e he hb => hcl j o (by simpa using ho) hj e he hb
theorem take_of_step {r : Option Nat} {i : Nat} {o : Oper} (hi : ops[i]? = some o) (hw : worldless o = true) {K : Act → World → Prop} {a : Act} {w : World} (h : wpOpIn (FW r) N P ops Q i K a w) : ∃ v, Yields P ops o v a ∧ K (a.put o.dst v) w := by
  unfold wpOpIn at h
  rw [hi] at h
  dsimp only at h
  by_cases hwt : Region.wanted o (yielded ops a.tmps) = true
  · rw [if_pos hwt] at h
    have h := h.2
    rw [Oper.semAt_eq _ _ _ (by intro d hd; rw [worldless, hd] at hw; cases hw)] at h
    unfold worldless at hw
    cases ho : o.op <;> rw [ho] at hw <;> try cases hw
    · rename_i x
      have hr : ∀ w, (execOp a.eval o).run P w = .ok (.value (a.eval x)) w := fun w => by simp [execOp, ho]
      rw [hr w] at h
      exact ⟨_, .inl ⟨hwt, hr⟩, h⟩
    · rename_i x j
      have hr : ∀ w, (execOp a.eval o).run P w = ((Instr.extract (a.eval x) j).run P w).andThen fun v w => .ok (.value v) w := fun w => by simp [execOp, ho]
      have hc : (∃ v, ∀ w, (Instr.extract (a.eval x) j).run P w = .ok v w) ∨ ∃ s, (∀ v, s ≠ .panic v) ∧ ∀ w, (Instr.extract (a.eval x) j).run P w = .halt s w := by
        unfold Instr.extract
        split
        · split
          · exact .inl ⟨_, fun w => rfl⟩
          · exact .inr ⟨_, fun _ h => (by cases h), fun w => rfl⟩
        · exact .inr ⟨_, fun _ h => (by cases h), fun w => rfl⟩
      rcases hc with ⟨v, hv⟩ | ⟨s, hsp, hs⟩
      · have hr2 : ∀ w, (execOp a.eval o).run P w = .ok (.value v) w := fun w => by rw [hr, hv]; rfl
        rw [hr2 w] at h
        exact ⟨_, .inl ⟨hwt, hr2⟩, h⟩
      · rw [hr, hs] at h
        cases s <;> first
          | exact h.elim
          | exact absurd rfl (hsp _)
  · rw [if_neg hwt] at h
    exact ⟨undef, .inr ⟨by simpa using hwt, rfl⟩, h.2⟩
theorem wpOpIn_putW {r : Option Nat} {j : Nat} {oi oj : Oper} {v : Value} (hj : ops[j]? = some oj) (hap : oi.apart ops oj = true) (hci : calmOp oi = true) (hcj : calmOp oj = true)
    (hQ : ∀ c a w, ¬ Q (.panic c) a w) {K : Act → World → Prop} {a : Act} {w : World}
    (hy : Yields P ops oi v a) (h : wpOpIn (FW r) N P ops Q j K (a.put oi.dst v) w) :
    wpOpIn (FW r) N P ops Q j (fun a' w' => Yields P ops oi v a' ∧ K (a'.put oi.dst v) w') a w := by
  obtain ⟨h1, h2, h3⟩ := Oper.apart_spec hap
  have hsi : ∀ cs b, oi.op ≠ .select cs b := fun cs b e => by rw [calmOp, e] at hci; cases hci
  have hsj : ∀ cs b, oj.op ≠ .select cs b := fun cs b e => by rw [calmOp, e] at hcj; cases hcj
  have hdj : ∀ d, oj.op ≠ .defer d := fun d e => by rw [calmOp, e] at hcj; cases hcj
  have keep : ∀ (a : Act), Yields P ops oi v a → ∀ u, Yields P ops oi v (a.put oj.dst u) := fun a hy u =>
    hy.of_same (execOp_put oi hsi a oj.dst u h3) (wanted_put oi a oj.dst u h3)
  have keepD : ∀ d, Yields P ops oi v { a with defers := d :: a.defers } := fun d => hy.of_same rfl rfl
  unfold wpOpIn at *
  simp only [hj] at *
  rw [wanted_put oj a oi.dst v h1] at h
  split
  · rename_i hw
    simp only [hw, if_true] at h
    refine ⟨fun _ _ => trivial, ?_⟩
    have h := h.2
    rw [Oper.semAt_eq _ _ _ hdj, execOp_put oj hsj a oi.dst v h1] at h
    rw [Oper.semAt_eq _ _ _ hdj]
    generalize (execOp a.eval oj).run P w = r at *
    cases r with
    | ok x w' =>
      cases x <;> simp only [Oper.uponIn] at h ⊢
      case value u => exact ⟨keep a hy u, by rw [← Act.put_comm a v u h2]; exact h⟩
      case skip => exact ⟨keep a hy _, by rw [← Act.put_comm a v undef h2]; exact h⟩
      case defer d =>
        refine ⟨keep _ (keepD d) _, ?_⟩
        rw [← Act.put_comm _ v undef h2, ← Act.put_defers]
        exact h
      case enter f args =>
        refine ⟨h.1, CallsIn.mono h.2 fun e w'' he => ?_⟩
        cases e with
        | returned u => exact ⟨keep a hy u, by rw [← Act.put_comm a v u h2]; exact he⟩
        | panicked c => exact absurd he (hQ _ _ _)
        | outgrown => exact he
      case row row args => exact ⟨h.1, RowsIn.mono h.2 fun u w'' he => ⟨keep a hy u, by rw [← Act.put_comm a v u h2]; exact he⟩⟩
      case round l f tmps assign body =>
        refine ⟨h.1, RoundIn.mono h.2 fun e w'' he => ?_⟩
        cases e with
        | returned u => exact ⟨keep a hy u, by rw [← Act.put_comm a v u h2]; exact he⟩
        | panicked c => exact absurd he (hQ _ _ _)
        | outgrown => exact he
    | halt x w' =>
      cases x <;> simp only [Oper.uponIn] at h ⊢
      case panic u => exact absurd h (hQ _ _ _)
  · rename_i hw
    simp only [hw] at h
    exact ⟨fun _ _ => trivial, keep a hy _, by rw [← Act.put_comm a v undef h2]; exact h.2⟩
theorem YieldsW.wpOpIn {r : Option Nat} {i : Nat} {o : Oper} {v : Value} {a : Act} (hc : calmOp o = true) (hi : ops[i]? = some o) (hy : Yields P ops o v a)
    {K : Act → World → Prop} {w : World} (h : K (a.put o.dst v) w) : wpOpIn (FW r) N P ops Q i K a w := by
  have hd : ∀ d, o.op ≠ .defer d := fun d e => by rw [calmOp, e] at hc; cases hc
  unfold Go.wpOpIn
  simp only [hi]
  rcases hy with ⟨hw, hv⟩ | ⟨hw, rfl⟩
  · rw [if_pos hw]
    refine ⟨fun _ _ => trivial, ?_⟩
    rw [Oper.semAt_eq _ _ _ hd, hv w]
    exact h
  · rw [if_neg (by rw [hw]; simp)]
    exact ⟨fun _ _ => trivial, h⟩
/-- WHAT IS READY, LOOKS AT NO WORLD AND IS APART FROM ALL THAT IS NOT BEHIND IT, MAY BE TAKEN FIRST. -/
theorem wpAnyIn_firstW {r : Option Nat} {i : Nat} {oi : Oper} {v : Value} (hi : ops[i]? = some oi) (hcalm : ∀ (j : Nat) (o : Oper), ops[j]? = some o → calmOp o = true)
    (hQ : ∀ c a w, ¬ Q (.panic c) a w) :
    ∀ (fuel : Nat) (listed : Array Bool) (a : Act) (w : World),
      (∀ j oj, ops[j]? = some oj → j ≠ i → listed.getD j true = false → (∀ e ∈ oj.after, Region.binds .any e = true → e.on ≠ i) → oi.apart ops oj = true) →
      i ∈ Region.ready .any ops listed → Yields P ops oi v a →
      wpAnyIn (FW r) N P .any ops Q fuel (listed.setIfInBounds i true) (a.put oi.dst v) w → wpAnyIn (FW r) N P .any ops Q (fuel + 1) listed a w := by
  intro fuel
  induction fuel with
  | zero =>
    intro listed a w _ hr hy H
    refine ⟨fun h => (by rw [h] at hr; cases hr), fun j hj => ?_⟩
    by_cases hji : j = i
    · subst hji; exact YieldsW.wpOpIn (hcalm _ _ hi) hi hy H
    · have := ready_mono hj hji
      rw [H.1] at this
      cases this
  | succ fuel ih =>
    intro listed a w hfree hr hy H
    refine ⟨fun h => (by rw [h] at hr; cases hr), fun j hj => ?_⟩
    by_cases hji : j = i
    · subst hji; exact YieldsW.wpOpIn (hcalm _ _ hi) hi hy H
    · have h1 := H.2 j (ready_mono hj hji)
      obtain ⟨hjun, oj, hoj, hall⟩ := mem_ready.1 hj
      have hnot : ∀ e ∈ oj.after, Region.binds .any e = true → e.on ≠ i := fun e he hb heq => by
        have h1 := hall e he hb
        have h0 := (mem_ready.1 hr).1
        rw [heq] at h1
        rcases Nat.lt_or_ge i listed.size with h' | h'
        · simp [h'] at h0 h1; rw [h0] at h1; cases h1
        · simp [Array.getElem?_eq_none h'] at h1
      have h2 := wpOpIn_putW hoj (hfree j oj hoj hji hjun hnot) (hcalm _ _ hi) (hcalm _ _ hoj) hQ hy h1
      have hfree' : ∀ k ok, ops[k]? = some ok → k ≠ i → (listed.setIfInBounds j true).getD k true = false →
          (∀ e ∈ ok.after, Region.binds .any e = true → e.on ≠ i) → oi.apart ops ok = true := fun k ok hk hki hun hno => by
        refine hfree k ok hk hki ?_ hno
        by_cases hjk : j = k
        · subst hjk; exact hjun
        · rw [getD_set_ne true hjk] at hun; exact hun
      refine wpOpIn_mono (fun a' w' h3 => ih (listed.setIfInBounds j true) a' w' hfree' (ready_mono hr (Ne.symm hji)) h3.1 ?_) h2
      rw [Array.setIfInBounds_comm _ _ hji]
      exact h3.2
/-- WHERE THE ORDER IS FORCED: the text's. -/
theorem forced (m : Nat) (hd : okD ops.toList m = true) : ∀ (fuel q : Nat) (listed : Array Bool) (a : Act) (w : World), m ≤ q → q ≤ ops.size → listed.size = ops.size → (∀ j, j < ops.size → (listed.getD j false = true ↔ j < q)) → ops.size ≤ fuel + q →
    wpListIn F N P ops Q (ops.toList.drop q) a w → wpAnyIn F N P .any ops Q fuel listed a w := by
  have hms := masks_ok ops.toList
  unfold okD at hd
  simp only [Bool.and_eq_true] at hd
  obtain ⟨⟨⟨d1, d2⟩, d3⟩, d4, d5⟩ := hd
  intro fuel
  induction fuel with
  | zero =>
    intro q listed a w hmq hq hsz hl hf h
    have hqe : q = ops.size := by omega
    subst hqe
    refine ⟨?_, ?_⟩
    · rw [List.eq_nil_iff_forall_not_mem]
      intro j hj
      obtain ⟨h1, o, h2, _⟩ := mem_ready.1 hj
      have hjl := (Array.getElem?_eq_some_iff.1 h2).1
      have := (hl j hjl).2 hjl
      rw [getD_any listed j true false (by omega), this] at h1
      cases h1
    · rw [List.drop_eq_nil_of_le (by simp)] at h; exact h
  | succ fuel ih =>
    intro q listed a w hmq hq hsz hl hf h
    have hready : ∀ j ∈ Region.ready .any ops listed, j = q := by
      intro j hj
      obtain ⟨h1, o, h2, h3⟩ := mem_ready.1 hj
      have hjl := (Array.getElem?_eq_some_iff.1 h2).1
      have hjq : ¬ j < q := fun hlt => by
        have := (hl j hjl).2 hlt
        rw [getD_any listed j true false (by omega), this] at h1
        cases h1
      rcases Nat.lt_trichotomy j q with hlt | he | hgt
      · exact absurd hlt hjq
      · exact he
      · exfalso
        have hb := upto_spec d3 (show j < ops.toList.length by simpa using hjl)
        simp only [Bool.or_eq_true] at hb
        rcases hb with hb | hb
        · have : j < m := Nat.le_of_ble_eq_true hb
          omega
        · have hb2 := upto_spec hb hgt
          simp only [Bool.or_eq_true, Bool.and_eq_true] at hb2
          replace hb2 := hb2.resolve_right (fun h => absurd (Nat.le_of_ble_eq_true h.1) (by omega))
          have hcl : Closed ops.toList (fun j => listed.getD j false = true) := by
            refine closed_listed listed (fun j' o' ho' hj' e he hbd => ?_)
            have hj'l := (Array.getElem?_eq_some_iff.1 ho').1
            have hj'q := (hl j' hj'l).1 hj'
            have hon := upto_spec d1 (show j' < ops.toList.length by simpa using hj'l)
            rw [Array.getElem?_toList, ho'] at hon
            simp only [Option.all_some, List.all_eq_true] at hon
            have hon := hon e (by simpa using he)
            rw [hbd] at hon
            have hlt : e.on < j' := by simpa using hon
            exact (hl e.on (by omega)).2 (by omega)
          have := hms j q o (by simpa using h2) hb2 _ hcl h3
          exact absurd ((hl q (by omega)).1 this) (Nat.lt_irrefl _)
    refine ⟨fun hnil => ?_, fun j hj => ?_⟩
    · by_cases hqe : q = ops.size
      · subst hqe
        rw [List.drop_eq_nil_of_le (by simp)] at h; exact h
      · exfalso
        have hq2 : q < ops.size := by omega
        have : q ∈ Region.ready .any ops listed := by
          refine mem_ready.2 ⟨?_, ops[q], Array.getElem?_eq_getElem hq2, fun e he hbd => ?_⟩
          · rw [getD_any listed q true false (by omega)]
            cases hv : listed.getD q false with
            | false => rfl
            | true => exact absurd ((hl q hq2).1 hv) (Nat.lt_irrefl _)
          · have hon := upto_spec d1 (show q < ops.toList.length by simpa using hq2)
            rw [Array.getElem?_toList, Array.getElem?_eq_getElem hq2] at hon
            simp only [Option.all_some, List.all_eq_true] at hon
            have hon := hon e (by simpa using he)
            rw [hbd] at hon
            have hlt : e.on < q := by simpa using hon
            exact (hl e.on (by omega)).2 hlt
        rw [hnil] at this; cases this
    · have := hready j hj
      subst this
      obtain ⟨h1, o, h2, h3⟩ := mem_ready.1 hj
      have hjl := (Array.getElem?_eq_some_iff.1 h2).1
      have hdrop : ops.toList.drop j = o :: ops.toList.drop (j + 1) := by
        have e1 : ops.toList[j]? = some o := by simpa using h2
        rw [List.drop_eq_getElem_cons (by simpa using hjl)]
        congr 1
        obtain ⟨_, e2⟩ := List.getElem?_eq_some_iff.1 e1
        exact e2
      rw [hdrop] at h
      unfold wpOpIn
      rw [h2]
      unfold wpListIn at h
      have nextok : ∀ a w, wpListIn F N P ops Q (ops.toList.drop (j + 1)) a w → wpAnyIn F N P .any ops Q fuel (listed.setIfInBounds j true) a w := fun a w hh => by
        refine ih (j + 1) _ a w (by omega) (by omega) (by simpa using hsz) (fun i hi => ?_) (by omega) hh
        rw [getD_set listed j i false (by omega)]
        by_cases hij : i = j
        · subst hij; simp
        · rw [if_neg hij, hl i hi]; omega
      dsimp only
      split
      · rename_i hw; rw [if_pos hw] at h; exact Oper.wpIn_mono nextok h
      · rename_i hw; rw [if_neg hw] at h; exact ⟨h.1, nextok _ _ h.2⟩
end
end Go.YtoeophdffhmpmaaE
