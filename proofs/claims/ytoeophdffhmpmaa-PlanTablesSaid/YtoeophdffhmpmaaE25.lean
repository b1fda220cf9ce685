/- The engine: regions that draw: whatever order is drawn, it comes to the text's. First: what the quiet operations come to; the order's bits. -/
import Derived.Test.YtoeophdffhmpmaaE24
set_option linter.unusedVariables false
set_option linter.unusedSimpArgs false
namespace Go.YtoeophdffhmpmaaE
open Go Go.RowKit

variable {P : Program} {B0 : Nat} {w0 : Wz} {c : Hp} {p : Nat} {o : Oper} {ts : List A} {hp : List Blk}

def stp (d : Option Nat) (a : A) (ts : List A) : List A := match d with | none => ts | some d => ts.set d a
def tsC (dF : Nat → Option Nat) (aF : Nat → A) (S : Nat → Bool) (ts : List A) : Nat → List A
  | 0 => ts
  | k + 1 => if S k = true then stp (dF k) (aF k) (tsC dF aF S ts k) else tsC dF aF S ts k
def hpC (nF : Nat → List Blk) (hp : List Blk) : Nat → List Blk
  | 0 => hp
  | k + 1 => hpC nF hp k ++ nF k
theorem tsC_shift (dF : Nat → Option Nat) (aF : Nat → A) (S : Nat → Bool) (ts : List A) (k : Nat) :
    tsC dF aF S ts (k + 1) = tsC (fun j => dF (j + 1)) (fun j => aF (j + 1)) (fun j => S (j + 1)) (if S 0 = true then stp (dF 0) (aF 0) ts else ts) k := by
  induction k with
  | zero => rfl
  | succ k ih => rw [tsC, ih]; rfl
theorem hpC_shift (nF : Nat → List Blk) (hp : List Blk) (k : Nat) : hpC nF hp (k + 1) = hpC (fun j => nF (j + 1)) (hp ++ nF 0) k := by
  induction k with
  | zero => rfl
  | succ k ih => rw [hpC, ih]; rfl
theorem stp_length (d : Option Nat) (a : A) (ts : List A) : (stp d a ts).length = ts.length := by cases d <;> simp [stp]
theorem tsC_length (dF : Nat → Option Nat) (aF : Nat → A) (S : Nat → Bool) (ts : List A) (k : Nat) : (tsC dF aF S ts k).length = ts.length := by
  induction k with
  | zero => rfl
  | succ k ih => rw [tsC]; split <;> simp [stp_length, ih]
theorem stp_ne {d : Option Nat} {a : A} {ts : List A} {t : Nat} (h : d ≠ some t) : (stp d a ts).getD t .un = ts.getD t .un := by
  cases d with
  | none => rfl
  | some d => simp only [stp, List.getD_eq_getElem?_getD]; rw [List.getElem?_set_ne (fun e => h (by rw [e]))]
theorem stp_eq {a : A} {ts ts' : List A} {t : Nat} (h : ts.length = ts'.length) : (stp (some t) a ts).getD t .un = (stp (some t) a ts').getD t .un := by
  simp only [stp, List.getD_eq_getElem?_getD]
  by_cases hl : t < ts.length
  · rw [List.getElem?_set_self hl, List.getElem?_set_self (by omega)]
  · rw [List.getElem?_eq_none (by simpa using hl), List.getElem?_eq_none (by simp; omega)]
theorem tsC_agree {dF : Nat → Option Nat} {aF : Nat → A} {S S' : Nat → Bool} {ts : List A} {t : Nat} : ∀ k, (∀ i, i < k → dF i = some t → S i = S' i) → (tsC dF aF S ts k).getD t .un = (tsC dF aF S' ts k).getD t .un := by
  intro k
  induction k with
  | zero => exact fun _ => rfl
  | succ k ih =>
    intro h
    have ih := ih (fun i hi => h i (by omega))
    rw [tsC, tsC]
    by_cases hd : dF k = some t
    · rw [h k (by omega) hd]
      split
      · rw [hd]; exact stp_eq (by rw [tsC_length, tsC_length])
      · exact ih
    · split <;> split <;> first | exact ih | (rw [stp_ne hd, stp_ne hd]; exact ih) | (rw [stp_ne hd]; exact ih)
theorem tsC_cut {dF : Nat → Option Nat} {aF : Nat → A} {ts : List A} {j : Nat} : ∀ k, j ≤ k → tsC dF aF (fun i => decide (i < j)) ts k = tsC dF aF (fun _ => true) ts j := by
  intro k
  induction k with
  | zero => intro h; cases Nat.le_zero.1 h; rfl
  | succ k ih =>
    intro h
    by_cases hj : j = k + 1
    · subst hj
      have : ∀ k', k' ≤ k + 1 → tsC dF aF (fun i => decide (i < k + 1)) ts k' = tsC dF aF (fun _ => true) ts k' := by
        intro k'
        induction k' with
        | zero => exact fun _ => rfl
        | succ k' ih' =>
          intro hk'
          rw [tsC, tsC, ih' (by omega), if_pos (by simp; omega), if_pos rfl]
      exact this (k + 1) (Nat.le_refl _)
    · rw [tsC, if_neg (by simp; omega)]
      exact ih (by omega)
/-- An operation taken. -/
theorem tsC_put {dF : Nat → Option Nat} {aF : Nat → A} {S S' : Nat → Bool} {ts : List A} {j m : Nat} (hj : j < m) (hS' : S' j = true) (hne : ∀ i, i ≠ j → S' i = S i) (hlater : ∀ i, j < i → i < m → ∀ t, dF j = some t → dF i = some t → S i = false) (t : Nat) :
    (tsC dF aF S' ts m).getD t .un = (stp (dF j) (aF j) (tsC dF aF S ts m)).getD t .un := by
  by_cases hd : dF j = some t
  · have key : ∀ k, j < k → k ≤ m → (tsC dF aF S' ts k).getD t .un = (stp (some t) (aF j) ts).getD t .un := by
      intro k
      induction k with
      | zero => intro h; omega
      | succ k ih =>
        intro h1 h2
        rw [tsC]
        by_cases hk : k = j
        · subst hk
          rw [if_pos hS', hd]
          exact stp_eq (tsC_length ..)
        · have ih := ih (by omega) (by omega)
          by_cases hdk : dF k = some t
          · rw [if_neg (by rw [hne k hk, hlater k (by omega) (by omega) t hd hdk]; simp)]; exact ih
          · split
            · rw [stp_ne hdk]; exact ih
            · exact ih
    rw [key m hj (Nat.le_refl _), hd]
    exact stp_eq (tsC_length ..).symm
  · rw [stp_ne hd]
    exact tsC_agree m (fun i hi hdi => hne i (fun e => hd (by rw [← e]; exact hdi)))
theorem hpC_le (nF : Nat → List Blk) (hp : List Blk) {i j : Nat} (h : i ≤ j) : (hpC nF hp i).length ≤ (hpC nF hp j).length := by
  induction j with
  | zero => cases Nat.le_zero.1 h; exact Nat.le_refl _
  | succ j ih =>
    by_cases hi : i = j + 1
    · subst hi; exact Nat.le_refl _
    · have := ih (by omega); rw [hpC, List.length_append]; omega
theorem hpC_pre (nF : Nat → List Blk) (hp : List Blk) {i j : Nat} (h : i ≤ j) {b : Nat} (hb : b < (hpC nF hp i).length) : hf (hpC nF hp j) b = hf (hpC nF hp i) b := by
  induction j with
  | zero => cases Nat.le_zero.1 h; rfl
  | succ j ih =>
    by_cases hi : i = j + 1
    · subst hi; rfl
    · have := ih (by omega)
      have := hpC_le nF hp (show i ≤ j by omega)
      rw [hpC, hf_append_lt _ _ (by omega)]; assumption

/-- WHAT A QUIET OPERATION OF A REGION COMES TO, WHEREVER IT STANDS, its guard taken in. -/
def SP (P : Program) (B0 : Nat) (w0 : Wz) (all : Array Oper) (c : List Blk) (o : Oper) (tsj : List A) (a : A) (news : List Blk) : Prop :=
  ∀ (r : Option Nat) (g : Gh) (w : World) (h : Hp) (act : Act) (N : Nat) (next : Act → World → Prop) (Q : Exit → Act → World → Prop),
    SW B0 w0 g w h → (∀ b, Live h b → Live (hf c) b → h b = hf c b) → (∀ b, c.length ≤ b → b < c.length + news.length → ¬ Live h b) →
    (∀ t ∈ o.looksAt all, VR g w h (tsj.getD t .un) (act.tmps.getD t undef)) →
    (∀ v w' g', EB g w h g' w' (addH h c.length news) → SW B0 w0 g' w' (addH h c.length news) → VR g' w' (addH h c.length news) a v → next (act.put o.dst v) w') →
    if Region.wanted o (yielded all act.tmps) then o.wpIn (FW r) N P act w next Q else (∀ f, o.about P w act.eval = some f → (FW r).fn f) ∧ next (act.put o.dst undef) w

theorem ops_rel {g : Gh} {w : World} {h : Hp} {act : Act} {all : Array Oper} {tsj : List A} (ht : ∀ t ∈ o.looksAt all, VR g w h (tsj.getD t .un) (act.tmps.getD t undef)) : ∀ x ∈ o.op.operands, VR g w h (ev tsj x) (act.eval x) := by
  intro x hx
  cases x with
  | tmp n =>
    exact ht n (List.mem_append_left _ (List.mem_filterMap.2 ⟨.tmp n, by simpa using hx, rfl⟩))
  | const v => exact VR.ofVal ..
  | global n => exact .un _
  | func f => exact .fn f [] [] #[] #[] rfl rfl (fun i hi => by simp at hi) (fun i hi => by simp at hi)
def dstF (os : List Oper) (j : Nat) : Option Nat := (os[j]?).bind (·.dst)

theorem opsQ_elim {E : EqT} {env : Env} (hE : EqOk P E) (henv : EnvOk P env) {all : List Oper} : ∀ (os : List Oper) (ts : List A) (hp : List Blk) (k : List A → List Blk → Prop), opsQ P E env all os ts hp k →
    ∃ (aF : Nat → A) (nF : Nat → List Blk), k (tsC (dstF os) aF (fun _ => true) ts os.length) (hpC nF hp os.length) ∧
      ∀ j o, os[j]? = some o → SP P B0 w0 all.toArray (hpC nF hp j) o (tsC (dstF os) aF (fun _ => true) ts j) (aF j) (nF j) := by
  intro os
  induction os with
  | nil => exact fun ts hp k hk => ⟨fun _ => .un, fun _ => [], hk, fun j o h => by simp at h⟩
  | cons o os ih =>
    intro ts hp k hk
    have head : ∃ a news, opsQ P E env all os (stp o.dst a ts) (hp ++ news) k ∧ SP P B0 w0 all.toArray hp o ts a news := by
      have one : opQ P E env hp ts o.op (fun a news => snocK hp news fun hp => putK ts o.dst a fun ts => opsQ P E env all os ts hp k) →
          ∃ a news, opsQ P E env all os (stp o.dst a ts) (hp ++ news) k ∧ QS P B0 w0 (hf hp) hp.length o (ev ts) a news := fun h => by
        obtain ⟨a, news, h1, h2⟩ := opQ_sound (B0 := B0) (w0 := w0) hE henv h
        rw [snocK_eq, putK_eq] at h1
        exact ⟨a, news, h1, h2⟩
      have skip : putK ts o.dst (.tup []) (fun ts => opsQ P E env all os ts hp k) → opsQ P E env all os (stp o.dst (.tup []) ts) (hp ++ []) k := fun h => by
        rw [putK_eq] at h
        rw [List.append_nil]; exact h
      have spskip : (∀ (g : Gh) (w : World) (h : Hp) (act : Act), (∀ t ∈ o.looksAt all.toArray, VR g w h (ts.getD t .un) (act.tmps.getD t undef)) → Region.wanted o (yielded all.toArray act.tmps) = false) → SP P B0 w0 all.toArray hp o ts (.tup []) [] := by
        intro hw r g w h act N next Q hs hc hf' ht hn
        rw [if_neg (by rw [hw g w h act ht]; simp)]
        rw [addH_nil] at hn
        exact ⟨fun _ _ => trivial, hn undef w g (EB.refl _ _ _) hs (.tup [] #[] rfl (fun i hi => by simp at hi))⟩
      have spone : ∀ a news, QS P B0 w0 (hf hp) hp.length o (ev ts) a news → (∀ (g : Gh) (w : World) (h : Hp) (act : Act), (∀ t ∈ o.looksAt all.toArray, VR g w h (ts.getD t .un) (act.tmps.getD t undef)) → Region.wanted o (yielded all.toArray act.tmps) = true) → SP P B0 w0 all.toArray hp o ts a news := by
        intro a news hq hw r g w h act N next Q hs hc hf' ht hn
        rw [if_pos (hw g w h act ht)]
        exact hq r g w h act N next Q hs hc hf' (ops_rel ht) hn
      change (match o.guard with
        | none => opQ P E env hp ts o.op fun a news => snocK hp news fun hp => putK ts o.dst a fun ts => opsQ P E env all os ts hp k
        | some g => optK ((all[g.1]?).bind (·.dst)) fun d => match ts.getD d .un with
          | .v (.bool b) => match g.2 with
            | true => cndK b (opQ P E env hp ts o.op fun a news => snocK hp news fun hp => putK ts o.dst a fun ts => opsQ P E env all os ts hp k) (putK ts o.dst (.tup []) fun ts => opsQ P E env all os ts hp k)
            | false => cndK b (putK ts o.dst (.tup []) fun ts => opsQ P E env all os ts hp k) (opQ P E env hp ts o.op fun a news => snocK hp news fun hp => putK ts o.dst a fun ts => opsQ P E env all os ts hp k)
          | .tup _ => putK ts o.dst (.tup []) fun ts => opsQ P E env all os ts hp k
          | _ => False) at hk
      cases hg : o.guard with
      | none =>
        rw [hg] at hk
        obtain ⟨a, news, h1, h2⟩ := one hk
        exact ⟨a, news, h1, spone a news h2 (fun g w h act _ => by simp [Region.wanted, hg])⟩
      | some q =>
        obtain ⟨j, want⟩ := q
        rw [hg] at hk
        obtain ⟨d, hd, hk2⟩ := optK_elim hk
        have hdl : d ∈ o.looksAt all.toArray := by
          unfold Oper.looksAt
          rw [hg]
          refine List.mem_append_right _ ?_
          have hd' : (all.toArray[j]?).bind (·.dst) = some d := by simpa using hd
          simp only [hd']; simp
        have hy : ∀ act : Act, yielded all.toArray act.tmps j = match act.tmps[d]? with | some (.bool b) => some b | _ => none := fun act => by
          have hd' : (all.toArray[j]?).bind (·.dst) = some d := by simpa using hd
          simp only [yielded, hd', Option.bind_some]
          rfl
        cases ht : ts.getD d .un <;> rw [ht] at hk2 <;> try exact hk2.elim
        · rename_i x
          cases x <;> try exact hk2.elim
          rename_i b
          have hb : ∀ (g : Gh) (w : World) (h : Hp) (act : Act), (∀ t ∈ o.looksAt all.toArray, VR g w h (ts.getD t .un) (act.tmps.getD t undef)) → act.tmps[d]? = some (.bool b) := fun g w h act hv => by
            have hv := hv d hdl
            rw [ht, Array.getD_eq_getD_getElem?] at hv
            have hb := hv.bool_inv
            cases h : act.tmps[d]? with
            | none => rw [h] at hb; simp [undef] at hb
            | some y => rw [h] at hb; simpa using hb
          cases want <;> cases b <;> first
            | (obtain ⟨a, news, h1, h2⟩ := one hk2
               exact ⟨a, news, h1, spone a news h2 (fun g w h act hv => by simp only [Region.wanted, hg, hy, hb g w h act hv]; rfl)⟩)
            | exact ⟨_, _, skip hk2, spskip (fun g w h act hv => by simp only [Region.wanted, hg, hy, hb g w h act hv]; rfl)⟩
        · refine ⟨_, _, skip hk2, spskip (fun g w h act hv => ?_)⟩
          have hv := hv d hdl
          rw [ht, Array.getD_eq_getD_getElem?] at hv
          have hn : (match act.tmps[d]? with | some (.bool b) => some b | _ => none) = none := by
            cases h : act.tmps[d]? with
            | none => rfl
            | some y =>
              rw [h] at hv
              simp only [Option.getD_some] at hv
              cases hv
              rfl
          simp only [Region.wanted, hg, hy, hn]
          rfl
    obtain ⟨a, news, h1, h2⟩ := head
    obtain ⟨aF, nF, h3, h4⟩ := ih _ _ _ h1
    refine ⟨fun j => match j with | 0 => a | j + 1 => aF j, fun j => match j with | 0 => news | j + 1 => nF j, ?_, fun j o' hj => ?_⟩
    · rw [List.length_cons, tsC_shift, hpC_shift, if_pos rfl]; exact h3
    · cases j with
      | zero =>
        simp only [List.getElem?_cons_zero, Option.some.injEq] at hj
        subst hj
        exact h2
      | succ j =>
        rw [tsC_shift, hpC_shift, if_pos rfl]
        exact h4 j o' (by simpa using hj)

end Go.YtoeophdffhmpmaaE
