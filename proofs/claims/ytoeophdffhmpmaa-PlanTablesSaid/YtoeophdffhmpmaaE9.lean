/- The engine: what callees see, and calls by contract whose results are numbers. -/
import Derived.Test.YtoeophdffhmpmaaE8
set_option linter.unusedVariables false
set_option linter.unusedSimpArgs false
namespace Go.YtoeophdffhmpmaaE
open Go Go.RowKit

variable {P : Program} {B0 : Nat} {w0 : Wz} {c : Hp} {p : Nat} {o : Oper} {ts : List A} {hp : List Blk}

theorem getD_mem {α : Type} (l : List α) (i : Nat) (d : α) (h : i < l.length) : l.getD i d ∈ l := by
  rw [List.getD_eq_getElem?_getD, List.getElem?_eq_getElem h]; exact List.getElem_mem _
theorem VR.plain_to {g g2 : Gh} {w : World} {h h2 : Hp} (hI : ∀ x, g.I x → g2.I x) {a : A} {v : Value} (r : VR g w h a v) (hp : plainA a = true) : VR g2 w h2 a v := by
  induction r with
  | v x h1 => exact .v x h1
  | ro els a cap es blk off vals h0 hes hc _ hn hcap ih =>
    refine .ro els a cap es blk off vals (fun hne => ⟨(h0 hne).1, hI _ (h0 hne).2⟩) hes hc (fun i j hi hj => ih i j hi hj ?_) hn hcap
    have hm : els.getD i [] ∈ els := getD_mem _ _ _ hi
    exact hn _ hm _ (getD_mem _ _ _ (by rw [hes _ hm]; exact hj))
  | rp cells blk off vals hI' hc _ hn ih =>
    refine .rp cells blk off vals (hI _ hI') hc (fun j hj => ih j hj ?_) hn
    exact hn _ (getD_mem _ _ _ hj)
  | _ => simp [plainA] at hp

theorem rw_facts {g : Gh} {w : World} {h : Hp} (s : SW B0 w0 g w h) {b : Nat} {fz nx : Bool} {ver es : Nat} {els : List (List A)} (hh : h b = .rw fz nx ver es els) :
    ∃ arr E, w.heap[g.m b]? = some (.cells arr E (0, 0)) ∧ 0 < es ∧ arr.size = g.cp b * es ∧ els.length ≤ g.cp b ∧ g.cp b ≤ maxLen ∧
      (∀ c ∈ els, c.length = es ∧ (nx = false → ∀ x ∈ c, plainA x = true)) ∧ ∀ i j, i < els.length → j < es → VR g w h ((els.getD i []).getD j .un) (arr.getD (i * es + j) undef) := by
  have := s.sh.blk b
  rw [hh] at this
  exact this
theorem idx_lt {i n es j : Nat} (hi : i < n) (hj : j < es) : i * es + j < n * es := by
  calc i * es + j < i * es + es := by omega
    _ = (i + 1) * es := by rw [Nat.add_mul, Nat.one_mul]
    _ ≤ _ := Nat.mul_le_mul_right _ (by omega)

/-- A slice of the own heap, as one that is only read. -/
theorem sl_as_ro {g : Gh} {w : World} {h : Hp} (s : SW B0 w0 g w h) {b ver es i len : Nat} {fz : Bool} {els : List (List A)} {v : Value} (r : VR g w h (.sl b ver es i len) v)
    (hh : h b = .rw fz false ver es els) (hl : i + len ≤ els.length) {g2 : Gh} {h2 : Hp} (hI : ∀ x, g.I x → g2.I x) (hb : g2.I (g.m b)) : VR g2 w h2 (.ro ((els.drop i).take len)) v := by
  obtain ⟨arr, E, h1, h2', h3, h4, h5, h6, h7⟩ := rw_facts s hh
  obtain ⟨_, _, _, _, hx⟩ := r.sl_inv
  obtain ⟨a, cap, rfl, q1, q2, q3⟩ := hx (by rw [hh]; rfl)
  have hlen : ((els.drop i).take len).length = len := by simp; omega
  have idx : ∀ i', i' < len → ((els.drop i).take len).getD i' [] = els.getD (i + i') [] := fun i' hi' => by
    simp [List.getD_eq_getElem?_getD, List.getElem?_take, hi', List.getElem?_drop]
  have mem : ∀ c, c ∈ (els.drop i).take len → c ∈ els := fun c hc => List.mem_of_mem_drop (List.mem_of_mem_take hc)
  refine (show ∀ n, n = ((els.drop i).take len).length → VR g2 w h2 (.ro ((els.drop i).take len)) (.slice a n cap) from ?_) _ hlen.symm
  rintro n rfl
  refine .ro _ a cap es (g.m b) (i * es) (fun i' j => arr.getD ((i + i') * es + j) undef) (fun hne => ?_) (fun c hc => (h6 c (mem c hc)).1) (fun i' j hi' hj => ?_) (fun i' j hi' hj => ?_) (fun c hc => (h6 c (mem c hc)).2 rfl) (by rw [hlen]; exact ⟨q1, by omega⟩)
  · have : 0 < len := by rw [← hlen]; exact List.length_pos_iff.2 hne
    exact ⟨q3 (by omega), hb⟩
  · rw [hlen] at hi'
    have hlt : (i + i') * es + j < arr.size := by rw [h3]; exact idx_lt (by omega) hj
    have e : i * es + i' * es + j = (i + i') * es + j := by rw [Nat.add_mul]
    rw [e]
    simp [World.cell?, h1, Array.getD, hlt]
  · rw [hlen] at hi'
    rw [idx i' hi']
    have hm : els.getD (i + i') [] ∈ els := getD_mem _ _ _ (by omega)
    exact VR.plain_to hI (h7 (i + i') j (by omega) hj) ((h6 _ hm).2 rfl _ (getD_mem _ _ _ (by rw [(h6 _ hm).1]; exact hj)))

theorem conv1_sound {a : A} {k : A → Prop} (hk : conv1 hp a k) :
    ∃ a', k a' ∧ plainA a' = true ∧ ∀ (g : Gh) (w : World) (h : Hp) (v : Value), SW B0 w0 g w h → (∀ b, Live h b → Live (hf hp) b → h b = hf hp b) → VR g w h a v →
      ∀ (g2 : Gh) (h2 : Hp), (∀ x, g.I x → g2.I x) → (∀ b ∈ blocks1 a, Live h b → g2.I (g.m b)) → VR g2 w h2 a' v := by
  have hnil : ∀ (g : Gh) (w : World) (h : Hp) (a : Option Addr) (cap : Nat), VR g w h (.ro []) (.slice a 0 cap) := fun g w h a cap =>
    .ro [] a cap 0 0 0 (fun _ _ => undef) (fun h => absurd rfl h) (by simp) (by simp) (by simp) (by simp) (by simp)
  cases a <;> try exact hk.elim
  · rename_i x
    by_cases hx : x = .slice none 0 0
    · subst hx
      exact ⟨_, hk, rfl, fun g w h v hs hc r g2 h2 hI _ => by rw [r.v_inv.1]; exact hnil ..⟩
    · have hk2 : k (.v x) := by
        unfold conv1 at hk
        split at hk
        · exact absurd (by rename_i h; cases h; rfl) hx
        · rename_i h; cases h; exact hk
        all_goals first | exact hk.elim | (rename_i h; cases h)
      exact ⟨_, hk2, rfl, fun g w h v hs hc r g2 h2 hI _ => r.plain_to hI rfl⟩
  · rename_i b ver es i len
    simp only [conv1] at hk
    cases hb : hp.getD b .hole <;> rw [hb] at hk <;> try exact hk.elim
    rename_i fz nx ver' es' els
    cases nx with
    | true => exact hk.elim
    | false =>
    obtain ⟨hv, hk2⟩ := chk_elim hk
    simp only [Bool.and_eq_true, beq_iff_eq] at hv
    obtain ⟨rfl, rfl⟩ := hv
    obtain ⟨hl, hk3⟩ := hk2
    refine ⟨_, hk3, rfl, fun g w h v hs hc r g2 h2 hI hbs => ?_⟩
    obtain ⟨_, hlive, _, _, _⟩ := r.sl_inv
    have hh : h b = .rw fz false ver es els := by rw [hc b hlive (by unfold Live hf; rw [hb]; exact Blk.noConfusion)]; exact hb
    exact sl_as_ro hs r hh hl hI (hbs b (by simp [blocks1]) hlive)
  · rename_i els
    exact ⟨_, hk, rfl, fun g w h v hs hc r g2 h2 hI _ => r.plain_to hI rfl⟩
  · rename_i cells
    exact ⟨_, hk, rfl, fun g w h v hs hc r g2 h2 hI _ => r.plain_to hI rfl⟩
  · refine ⟨_, hk, rfl, fun g w h v hs hc r g2 h2 hI _ => ?_⟩
    cases r with
    | cz a => exact hnil ..
/-! ### Rows of references -/
theorem cellsK_eq {f : A → (A → Prop) → Prop} (f' : A → A) (h : ∀ a k, f a k = k (f' a)) (xs : List A) (k : List A → Prop) : cellsK f xs k = k (xs.map f') := by
  induction xs generalizing k with
  | nil => rfl
  | cons x xs ih => show f x (fun a => cellsK f xs fun as => k (a :: as)) = _; rw [h]; exact ih fun as => k (f' x :: as)
theorem rowsK_eq {f : A → (A → Prop) → Prop} (f' : A → A) (k : List (List A) → Prop) (h : ∀ a k, f a k = k (f' a)) (els : List (List A)) : rowsK f els k = k (els.map fun c => c.map f') := by
  induction els generalizing k with
  | nil => rfl
  | cons c els ih => show cellsK f c (fun c => rowsK f els fun cs => k (c :: cs)) = _; rw [cellsK_eq f' h]; exact ih fun cs => k (c.map f' :: cs)
/-- What a conversion keeps. -/
def ConvOk (B0 : Nat) (w0 : Wz) (hp : List Blk) (a a' : A) (bs : List Nat) : Prop :=
  plainA a' = true ∧ ∀ (g : Gh) (w : World) (h : Hp) (v : Value), SW B0 w0 g w h → (∀ b, Live h b → Live (hf hp) b → h b = hf hp b) → VR g w h a v →
      ∀ (g2 : Gh) (h2 : Hp), (∀ x, g.I x → g2.I x) → (∀ b ∈ bs, Live h b → g2.I (g.m b)) → VR g2 w h2 a' v
theorem cellsK_sound {f : A → (A → Prop) → Prop} {fb : A → List Nat} (hf : ∀ a k, f a k → ∃ a', k a' ∧ ConvOk B0 w0 hp a a' (fb a)) {xs : List A} {k : List A → Prop} (hk : cellsK f xs k) :
    ∃ ys, k ys ∧ ys.length = xs.length ∧ ∀ j, j < xs.length → ConvOk B0 w0 hp (xs.getD j .un) (ys.getD j .un) (blocksC fb xs) := by
  induction xs generalizing k with
  | nil => exact ⟨[], hk, rfl, fun j hj => by simp at hj⟩
  | cons x xs ih =>
    change f x (fun a => cellsK f xs fun as => k (a :: as)) at hk
    obtain ⟨a, h1, h2⟩ := hf _ _ hk
    obtain ⟨ys, k1, k2, k3⟩ := ih h1
    refine ⟨a :: ys, k1, by simp [k2], fun j hj => ?_⟩
    cases j with
    | zero => exact ⟨h2.1, fun g w h v hs hc r g2 h2' hI hb => h2.2 g w h v hs hc r g2 h2' hI (fun b hm => hb b (List.mem_append_left _ hm))⟩
    | succ j =>
      have := k3 j (by simpa using hj)
      exact ⟨this.1, fun g w h v hs hc r g2 h2' hI hb => this.2 g w h v hs hc r g2 h2' hI (fun b hm => hb b (List.mem_append_right _ hm))⟩
theorem rowsK_sound {f : A → (A → Prop) → Prop} {fb : A → List Nat} (hf : ∀ a k, f a k → ∃ a', k a' ∧ ConvOk B0 w0 hp a a' (fb a)) {els : List (List A)} {k : List (List A) → Prop} (hk : rowsK f els k) :
    ∃ rows, k rows ∧ rows.length = els.length ∧ ∀ i, i < els.length → (rows.getD i []).length = (els.getD i []).length ∧ ∀ j, j < (els.getD i []).length → ConvOk B0 w0 hp ((els.getD i []).getD j .un) ((rows.getD i []).getD j .un) (blocksW fb els) := by
  induction els generalizing k with
  | nil => exact ⟨[], hk, rfl, fun i hi => by simp at hi⟩
  | cons c els ih =>
    change cellsK f c (fun c => rowsK f els fun cs => k (c :: cs)) at hk
    obtain ⟨c', h1, h2, h3⟩ := cellsK_sound hf hk
    obtain ⟨rows, k1, k2, k3⟩ := ih h1
    refine ⟨c' :: rows, k1, by simp [k2], fun i hi => ?_⟩
    cases i with
    | zero =>
      refine ⟨h2, fun j hj => ?_⟩
      have := h3 j hj
      exact ⟨this.1, fun g w h v hs hc r g2 h2' hI hb => this.2 g w h v hs hc r g2 h2' hI (fun b hm => hb b (List.mem_append_left _ hm))⟩
    | succ i =>
      obtain ⟨q1, q2⟩ := k3 i (by simpa using hi)
      refine ⟨q1, fun j hj => ?_⟩
      have := q2 j hj
      exact ⟨this.1, fun g w h v hs hc r g2 h2' hI hb => this.2 g w h v hs hc r g2 h2' hI (fun b hm => hb b (List.mem_append_right _ hm))⟩
theorem blocksC_mem {f : A → List Nat} {xs : List A} {j : Nat} (hj : j < xs.length) {b : Nat} (hb : b ∈ f (xs.getD j .un)) : b ∈ blocksC f xs := by
  induction xs generalizing j with
  | nil => simp at hj
  | cons x xs ih =>
    show b ∈ f x ++ blocksC f xs
    cases j with
    | zero => exact List.mem_append_left _ hb
    | succ j => exact List.mem_append_right _ (ih (j := j) (by simpa using hj) hb)
theorem blocksW_mem {f : A → List Nat} {els : List (List A)} {i j : Nat} (hi : i < els.length) (hj : j < (els.getD i []).length) {b : Nat} (hb : b ∈ f ((els.getD i []).getD j .un)) : b ∈ blocksW f els := by
  induction els generalizing i with
  | nil => simp at hi
  | cons c els ih =>
    show b ∈ blocksC f c ++ blocksW f els
    cases i with
    | zero => exact List.mem_append_left _ (blocksC_mem hj hb)
    | succ i => exact List.mem_append_right _ (ih (i := i) (by simpa using hi) hj hb)
theorem ConvOk.mono {a a' : A} {bs bs2 : List Nat} (h : ConvOk B0 w0 hp a a' bs) (hb : ∀ b ∈ bs, b ∈ bs2) : ConvOk B0 w0 hp a a' bs2 :=
  ⟨h.1, fun g w h' v hs hc r g2 h2 hI hbs => h.2 g w h' v hs hc r g2 h2 hI fun b hm => hbs b (hb b hm)⟩
theorem rowsF_sound {f : A → (A → Prop) → Prop} {fb : A → List Nat} (hf : ∀ a k, f a k → ∃ a', k a' ∧ ConvOk B0 w0 hp a a' (fb a)) {els rows : List (List A)} (hr : RowsF f els rows) (i : Nat) (hi : i < els.length) (j : Nat) (hj : j < (els.getD i []).length) :
    ConvOk B0 w0 hp ((els.getD i []).getD j .un) ((rows.getD i []).getD j .un) (blocksW fb els) := by
  obtain ⟨a', h1, h2⟩ := hf _ _ ((hr.row i hi).2 j hj)
  rw [← h1]
  exact h2.mono fun b hb => blocksW_mem hi hj hb
theorem convD_sound {d : Nat} {a : A} {k : A → Prop} (hk : convD d hp a k) : ∃ a', k a' ∧ ConvOk B0 w0 hp a a' (blocksD d hp a) := by
  induction d generalizing a k with
  | zero =>
    obtain ⟨a', h1, h2, h3⟩ := conv1_sound (B0 := B0) (w0 := w0) hk
    exact ⟨a', h1, h2, h3⟩
  | succ d ih =>
    have one : conv1 hp a k → blocksD (d + 1) hp a = blocks1 a → ∃ a', k a' ∧ ConvOk B0 w0 hp a a' (blocksD (d + 1) hp a) := fun h1 h2 => by
      obtain ⟨a', k1, k2, k3⟩ := conv1_sound (B0 := B0) (w0 := w0) h1
      rw [h2]
      exact ⟨a', k1, k2, k3⟩
    cases a with
    | sl b ver es i len =>
      change (match hp.getD b .hole with
        | .rw _ nx ver' es' els => match nx with
          | false => chk (ver == ver' && es == es') (i + len ≤ els.length ∧ k (.ro ((els.drop i).take len)))
          | true => chk (ver == ver' && es == es') (i + len ≤ els.length ∧ ((rowsK (convD d hp) ((els.drop i).take len) fun rows => k (.ro rows)) ∨ ∃ rows, RowsF (convD d hp) ((els.drop i).take len) rows ∧ k (.ro rows)))
        | _ => False) at hk
      have hbk : blocksD (d + 1) hp (.sl b ver es i len) = match hp.getD b .hole with
        | .rw _ nx _ _ els => match nx with
          | false => [b]
          | true => b :: blocksW (blocksD d hp) ((els.drop i).take len)
        | _ => [b] := rfl
      cases hb : hp.getD b .hole <;> rw [hb] at hk <;> try exact hk.elim
      rename_i fz nx ver' es' els
      rw [hb] at hbk
      cases nx with
      | false =>
        refine one ?_ hbk
        simp only [conv1]
        rw [hb]
        exact hk
      | true =>
        rw [hbk]
        obtain ⟨hv, hl, hk2⟩ := chk_elim hk
        simp only [Bool.and_eq_true, beq_iff_eq] at hv
        obtain ⟨rfl, rfl⟩ := hv
        obtain ⟨rows, k1, k2, k3⟩ : ∃ rows, k (.ro rows) ∧ rows.length = ((els.drop i).take len).length ∧ ∀ i', i' < ((els.drop i).take len).length → (rows.getD i' []).length = (((els.drop i).take len).getD i' []).length ∧
            ∀ j, j < (((els.drop i).take len).getD i' []).length → ConvOk B0 w0 hp ((((els.drop i).take len).getD i' []).getD j .un) ((rows.getD i' []).getD j .un) (blocksW (blocksD d hp) ((els.drop i).take len)) := by
          rcases hk2 with hk2 | ⟨rows, hr, hk2⟩
          · exact rowsK_sound (fb := blocksD d hp) (fun a k h => ih h) hk2
          · exact ⟨rows, hk2, hr.len, fun i' hi' => ⟨(hr.row i' hi').1, fun j hj => rowsF_sound (fun a k h => ih h) hr i' hi' j hj⟩⟩
        have mem : ∀ c, c ∈ (els.drop i).take len → c ∈ els := fun c hc => List.mem_of_mem_drop (List.mem_of_mem_take hc)
        have hlen : ((els.drop i).take len).length = len := by simp; omega
        have idx : ∀ i', i' < len → ((els.drop i).take len).getD i' [] = els.getD (i + i') [] := fun i' hi' => by
          simp [List.getD_eq_getElem?_getD, List.getElem?_take, hi', List.getElem?_drop]
        rw [hlen] at k2 k3
        refine ⟨_, k1, rfl, fun g w h v hs hc r g2 h2 hI hbs => ?_⟩
        obtain ⟨_, hlive, _, _, hx⟩ := r.sl_inv
        have hh : h b = .rw fz true ver es els := by rw [hc b hlive (by unfold Live Go.YtoeophdffhmpmaaE.hf; rw [hb]; exact Blk.noConfusion)]; exact hb
        obtain ⟨arr, E, h1, h2', h3, h4, h5, h6, h7⟩ := rw_facts hs hh
        obtain ⟨a, cap, rfl, q1, q2, q3⟩ := hx (by rw [hh]; rfl)
        have rlen : ∀ i', i' < len → (rows.getD i' []).length = es := fun i' hi' => by
          rw [(k3 i' hi').1, idx i' hi']
          exact (h6 _ (getD_mem _ _ _ (by omega))).1
        refine (show ∀ n, n = rows.length → VR g2 w h2 (.ro rows) (.slice a n cap) from ?_) _ k2.symm
        rintro n rfl
        refine .ro rows a cap es (g.m b) (i * es) (fun i' j => arr.getD ((i + i') * es + j) undef) (fun hne => ?_) (fun c hc => ?_) (fun i' j hi' hj => ?_) (fun i' j hi' hj => ?_) (fun c hc x hx => ?_) (by rw [k2]; exact ⟨q1, by omega⟩)
        · have : 0 < len := by rw [← k2]; exact List.length_pos_iff.2 hne
          exact ⟨q3 (by omega), hbs b (List.mem_cons_self ..) hlive⟩
        · obtain ⟨i', hi', rfl⟩ := List.getElem_of_mem hc
          have := rlen i' (by omega)
          rwa [List.getD_eq_getElem?_getD, List.getElem?_eq_getElem hi'] at this
        · rw [k2] at hi'
          have hlt : (i + i') * es + j < arr.size := by rw [h3]; exact idx_lt (by omega) hj
          have e : i * es + i' * es + j = (i + i') * es + j := by rw [Nat.add_mul]
          rw [e]
          simp [World.cell?, h1, Array.getD, hlt]
        · rw [k2] at hi'
          have hj2 : j < (((els.drop i).take len).getD i' []).length := by rw [← (k3 i' hi').1, rlen i' hi']; exact hj
          refine ((k3 i' hi').2 j hj2).2 g w h _ hs hc ?_ g2 h2 hI (fun b hm => hbs b (List.mem_cons_of_mem _ hm))
          rw [idx i' hi']
          exact h7 (i + i') j (by omega) hj
        · obtain ⟨i', hi', rfl⟩ := List.getElem_of_mem hc
          obtain ⟨j, hj, rfl⟩ := List.getElem_of_mem hx
          have hi2 : i' < len := by omega
          have e1 : rows.getD i' [] = rows[i'] := by rw [List.getD_eq_getElem?_getD, List.getElem?_eq_getElem hi']; rfl
          have hj2 : j < (((els.drop i).take len).getD i' []).length := by rw [← (k3 i' hi2).1, e1]; exact hj
          have := ((k3 i' hi2).2 j hj2).1
          rw [e1] at this
          rwa [List.getD_eq_getElem?_getD, List.getElem?_eq_getElem hj] at this
    | _ => exact one hk rfl
theorem convL_sound {xs : List A} {k : List A → Prop} (hk : convL hp xs k) :
    ∃ ys, k ys ∧ ys.length = xs.length ∧ (∀ y ∈ ys, plainA y = true) ∧ ∀ (g : Gh) (w : World) (h : Hp) (f : Nat → Value), SW B0 w0 g w h → (∀ b, Live h b → Live (hf hp) b → h b = hf hp b) →
      (∀ i, i < xs.length → VR g w h (xs.getD i .un) (f i)) → ∀ (g2 : Gh) (h2 : Hp), (∀ x, g.I x → g2.I x) → (∀ b ∈ blocksL xs, Live h b → g2.I (g.m b)) → ∀ i, i < ys.length → VR g2 w h2 (ys.getD i .un) (f i) := by
  induction xs generalizing k with
  | nil => exact ⟨[], hk, rfl, by simp, by simp⟩
  | cons x xs ih =>
    change conv1 hp x (fun a => convL hp xs fun as => k (a :: as)) at hk
    obtain ⟨a, h1, h2, h4⟩ := conv1_sound (B0 := B0) (w0 := w0) hk
    obtain ⟨ys, k1, k2, k3, k5⟩ := ih h1
    refine ⟨a :: ys, k1, by simp [k2], ?_, ?_⟩
    · intro y hy
      rcases List.mem_cons.1 hy with rfl | hy
      · exact h2
      · exact k3 y hy
    · intro g w h f hs hc hv g2 h2' hI hb i hi
      have hbs : ∀ b, b ∈ blocks1 x ++ blocksL xs → Live h b → g2.I (g.m b) := hb
      cases i with
      | zero => exact h4 g w h _ hs hc (hv 0 (by simp)) g2 h2' hI (fun b hb => hbs b (List.mem_append_left _ hb))
      | succ i =>
        refine k5 g w h (fun i => f (i + 1)) hs hc (fun i hi => ?_) g2 h2' hI (fun b hb => hbs b (List.mem_append_right _ hb)) i (by simpa using hi)
        exact hv (i + 1) (by simpa using hi)
theorem convA_sound {a : A} {k : A → Prop} (hk : convA hp a k) :
    ∃ a', k a' ∧ ∀ (g : Gh) (w : World) (h : Hp) (v : Value), SW B0 w0 g w h → (∀ b, Live h b → Live (hf hp) b → h b = hf hp b) → VR g w h a v →
      ∀ (g2 : Gh) (h2 : Hp), (∀ x, g.I x → g2.I x) → (∀ b ∈ blocksA hp a, Live h b → g2.I (g.m b)) → VR g2 w h2 a' v := by
  have one : convD 3 hp a k → blocksA hp a = blocksD 3 hp a → ∃ a', k a' ∧ ∀ (g : Gh) (w : World) (h : Hp) (v : Value), SW B0 w0 g w h → (∀ b, Live h b → Live (hf hp) b → h b = hf hp b) → VR g w h a v →
      ∀ (g2 : Gh) (h2 : Hp), (∀ x, g.I x → g2.I x) → (∀ b ∈ blocksA hp a, Live h b → g2.I (g.m b)) → VR g2 w h2 a' v := fun h1 h2 => by
    obtain ⟨a', k1, _, k2⟩ := convD_sound (B0 := B0) (w0 := w0) h1
    rw [h2]
    exact ⟨a', k1, k2⟩
  cases a with
  | agg xs =>
    obtain ⟨ys, k1, k2, k3, k5⟩ := convL_sound (B0 := B0) (w0 := w0) hk
    refine ⟨_, k1, fun g w h v hs hc r g2 h2 hI hb => ?_⟩
    obtain ⟨vs, rfl, hl, hv⟩ := r.agg_inv
    exact .agg _ _ (by omega) (k5 g w h (fun i => vs.getD i undef) hs hc hv g2 h2 hI hb)
  | fn f fst cap =>
    cases fst with
    | cons y fst => exact hk.elim
    | nil =>
      cases cap with
      | nil =>
        refine ⟨_, hk, fun g w h v hs hc r g2 h2 hI hb => ?_⟩
        cases r with
        | fn _ _ _ fs vs hl0 hl hv0 hv => exact .fn f [] [] fs vs hl0 hl (fun i hi => by simp at hi) (fun i hi => by simp at hi)
      | cons x cap => exact hk.elim
  | pt b ver es i fo =>
    cases i with
    | succ i => exact hk.elim
    | zero => cases fo with
      | succ fo => exact hk.elim
      | zero =>
        simp only [convA] at hk
        cases hb : hp.getD b .hole <;> rw [hb] at hk <;> try exact hk.elim
        rename_i fz cells
        obtain ⟨ys, k1, k2, k3, k5⟩ := convL_sound (B0 := B0) (w0 := w0) hk
        refine ⟨_, k1, fun g w h v hs hc r g2 h2 hI hbs => ?_⟩
        obtain ⟨hh, rfl, rfl⟩ := bx_ver r hc hb
        obtain ⟨_, _, he⟩ := pt_now r hc hb rfl Blk.noConfusion
        subst he
        have hr := hs.sh.blk b
        rw [hh] at hr
        obtain ⟨arr, E, h3, h4, h5⟩ := hr
        simp only [blocksA, hb, List.mem_cons, forall_eq_or_imp] at hbs
        simp only [Nat.zero_mul, Nat.add_zero]
        refine .rp ys (g.m b) 0 (fun j => arr.getD j undef) (hbs.1 (by unfold Live; rw [hh]; exact Blk.noConfusion)) (fun j hj => ?_) (k5 g w h (fun j => arr.getD j undef) hs hc h5 g2 h2 hI hbs.2) k3
        have : j < arr.size := by omega
        simp [World.cell?, h3, Array.getD, this]
  | v x =>
    by_cases hx : x = .slice none 0 0
    · subst hx
      rcases (show k (.ro []) ∨ k (.v (.slice none 0 0)) from hk) with hk | hk
      · exact one hk rfl
      · exact ⟨_, hk, fun g w h v hs hc r g2 h2 hI _ => r.plain_to hI rfl⟩
    · refine one ?_ rfl
      unfold convA at hk
      split at hk
      · rename_i h; cases h; exact absurd rfl hx
      all_goals first | exact hk | (rename_i h; cases h; done) | (rename_i h _; cases h; done)
  | sl b ver es i len => exact one hk rfl
  | cz => exact one hk rfl
  | ro els => exact one hk rfl
  | rp cells => exact one hk rfl
  | tup xs => exact hk.elim
  | ar b fo n => exact hk.elim
  | yl i => exact hk.elim
  | un => exact hk.elim
theorem convs_sound {xs : List A} {k : List A → Prop} (hk : convs hp xs k) :
    ∃ ys, k ys ∧ ys.length = xs.length ∧ ∀ (g : Gh) (w : World) (h : Hp) (f : Nat → Value), SW B0 w0 g w h → (∀ b, Live h b → Live (hf hp) b → h b = hf hp b) →
      (∀ i, i < xs.length → VR g w h (xs.getD i .un) (f i)) → ∀ (g2 : Gh) (h2 : Hp), (∀ x, g.I x → g2.I x) → (∀ b ∈ blocksAs hp xs, Live h b → g2.I (g.m b)) → ∀ i, i < ys.length → VR g2 w h2 (ys.getD i .un) (f i) := by
  induction xs generalizing k with
  | nil => exact ⟨[], hk, rfl, by simp⟩
  | cons x xs ih =>
    change convA hp x (fun a => convs hp xs fun as => k (a :: as)) at hk
    obtain ⟨a, h1, h4⟩ := convA_sound (B0 := B0) (w0 := w0) hk
    obtain ⟨ys, k1, k2, k5⟩ := ih h1
    refine ⟨a :: ys, k1, by simp [k2], ?_⟩
    intro g w h f hs hc hv g2 h2' hI hb i hi
    have hbs : ∀ b, b ∈ blocksA hp x ++ blocksAs hp xs → Live h b → g2.I (g.m b) := hb
    cases i with
    | zero => exact h4 g w h _ hs hc (hv 0 (by simp)) g2 h2' hI (fun b hb => hbs b (List.mem_append_left _ hb))
    | succ i =>
      refine k5 g w h (fun i => f (i + 1)) hs hc (fun i hi => ?_) g2 h2' hI (fun b hb => hbs b (List.mem_append_right _ hb)) i (by simpa using hi)
      exact hv (i + 1) (by simpa using hi)

theorem scal1_free {g1 : Gh} {w1 : World} {h1 : Hp} {a : A} {v : Value} (hs : scal1 a = true) (r : VR g1 w1 h1 a v) (g : Gh) (w : World) (h : Hp) : VR g w h a v := by
  cases r with
  | v x' hx' => exact .v _ hx'
  | _ => simp [scal1] at hs
theorem aggS_free {g1 : Gh} {w1 : World} {h1 : Hp} {xs : List A} {v : Value} (hs : allB scal1 xs = true) (r : VR g1 w1 h1 (.agg xs) v) (g : Gh) (w : World) (h : Hp) : VR g w h (.agg xs) v := by
  obtain ⟨vs, rfl, hl, hv⟩ := r.agg_inv
  refine .agg _ _ hl (fun i hi => scal1_free ?_ (hv i hi) g w h)
  rw [allB_iff] at hs
  refine hs _ ?_
  rw [List.getD_eq_getElem?_getD, List.getElem?_eq_getElem hi]; exact List.getElem_mem _
theorem scalarA_free {g1 : Gh} {w1 : World} {h1 : Hp} {a : A} {v : Value} (hs : scalarA a = true) (r : VR g1 w1 h1 a v) (g : Gh) (w : World) (h : Hp) : VR g w h a v := by
  cases a with
  | v x => exact scal1_free rfl r g w h
  | agg xs => exact aggS_free hs r g w h
  | _ => simp [scalarA] at hs
theorem scalarR_free {r : Res} (hs : scalarR r = true) {g1 : Gh} {w1 : World} {h1 : Hp} {v : Value} (hr : VR g1 w1 h1 r.v v) (g : Gh) (w : World) (h : Hp) : VR g w h r.v v := by
  unfold scalarR at hs
  split at hs
  · exact scal1_free rfl hr g w h
  · exact aggS_free hs hr g w h
  · rename_i xs
    have hall := (allB_iff scalarA xs).1 hs
    cases hr with
    | tup _ vs hl hv =>
      refine .tup _ _ hl (fun i hi => scalarA_free ?_ (hv i hi) g w h)
      refine hall _ ?_
      rw [List.getD_eq_getElem?_getD, List.getElem?_eq_getElem hi]; exact List.getElem_mem _
  · cases hs

theorem execOp_call {cl : Call} {x : Operand} {f : Nat} {fs vs : Array Value} {ρ : Operand → Value} {w : World} (ho : o.op = .call cl) (hcl : cl.callee = .value x) (hx : ρ x = .func (.func f) fs vs) (he : Enters P f) :
    (execOp ρ o).run P w = .ok (.enter f (fs ++ cl.args.map ρ ++ vs)) w := by
  have := he (fs ++ cl.args.map ρ ++ vs) w
  simp [execOp, ho, resolve, hcl, hx, Deferred.ofValue, invoke] at this ⊢
  simpa using this
theorem getD_app {xs ys : List A} {us vs : Array Value} {g : Gh} {w : World} {h : Hp} (hl : xs.length = us.size) (hx : ∀ i, i < xs.length → VR g w h (xs.getD i .un) (us.getD i undef)) (hl2 : ys.length = vs.size) (hy : ∀ i, i < ys.length → VR g w h (ys.getD i .un) (vs.getD i undef)) :
    (xs ++ ys).length = (us ++ vs).size ∧ ∀ i, i < (xs ++ ys).length → VR g w h ((xs ++ ys).getD i .un) ((us ++ vs).getD i undef) := by
  refine ⟨by simp [hl, hl2], fun i hi => ?_⟩
  by_cases hi2 : i < xs.length
  · have e1 : (xs ++ ys).getD i .un = xs.getD i .un := by simp [List.getD_eq_getElem?_getD, List.getElem?_append_left hi2]
    have hi3 : i < us.size := by omega
    have e2 : (us ++ vs).getD i undef = us.getD i undef := by
      simp [Array.getD, hi3, show i < us.size + vs.size from by omega, Array.getElem_append_left]
    rw [e1, e2]; exact hx i hi2
  · have hi4 : i - xs.length < ys.length := by simp at hi; omega
    have e1 : (xs ++ ys).getD i .un = ys.getD (i - xs.length) .un := by
      simp [List.getD_eq_getElem?_getD, List.getElem?_append_right (show xs.length ≤ i by omega)]
    have e2 : (us ++ vs).getD i undef = vs.getD (i - xs.length) undef := by
      have h5 : i < us.size + vs.size := by omega
      have h6 : i - us.size < vs.size := by omega
      rw [hl]
      simp [Array.getD, h5, h6, Array.getElem_append_right (show us.size ≤ i by omega)]
    rw [e1, e2]; exact hy _ hi4
/-- The operands of a call, and what the function value holds. -/
theorem call_args {g : Gh} {w : World} {h : Hp} {ρ : Operand → Value} {cl : Call} {fst cap : List A} {fs vs : Array Value} (h1 : ∀ x ∈ cl.args, VR g w h (ev ts x) (ρ x)) (hl0 : fst.length = fs.size) (hv0 : ∀ i, i < fst.length → VR g w h (fst.getD i .un) (fs.getD i undef)) (hl : cap.length = vs.size)
    (hv : ∀ i, i < cap.length → VR g w h (cap.getD i .un) (vs.getD i undef)) :
    (fst ++ cl.args.toList.map (ev ts) ++ cap).length = (fs ++ cl.args.map ρ ++ vs).size ∧ ∀ i, i < (fst ++ cl.args.toList.map (ev ts) ++ cap).length → VR g w h ((fst ++ cl.args.toList.map (ev ts) ++ cap).getD i .un) ((fs ++ cl.args.map ρ ++ vs).getD i undef) := by
  obtain ⟨q1, q2⟩ := VRs_map (ts := ts) (g := g) (w := w) (h := h) (ρ := ρ) cl.args h1
  obtain ⟨r1, r2⟩ := getD_app hl0 hv0 q1 q2
  exact getD_app r1 r2 hl hv
/-! ### Other names -/
structure Ren (rn : Nat → Nat → Option (Nat × Nat)) (yn : Nat → Bool) (g : Gh) (h : Hp) (g2 : Gh) (h2 : Hp) : Prop where
  blk : ∀ b ver b' v', rn b ver = some (b', v') → Live h b → ver ≤ (h b).ver →
    Live h2 b' ∧ v' ≤ (h2 b').ver ∧ (h2 b').es = (h b).es ∧ (v' = (h2 b').ver → ver = (h b).ver ∧ g2.m b' = g.m b ∧ g2.cp b' = g.cp b)
  imm : ∀ x, g.I x → g2.I x
  ls : ∀ i l, yn i = true → g.ls[i]? = some l → g2.ls[i]? = some l

section
variable {rn : Nat → Nat → Option (Nat × Nat)} {yn : Nat → Bool} {g g2 : Gh} {w : World} {h h2 : Hp}
theorem VR.rn0 (R : Ren rn yn g h g2 h2) {a : A} {x : Value} (r : VR g w h a x) : VR g2 w h2 (ren0 rn yn a) x := by
  cases r with
  | un x => exact .un x
  | v x h1 => exact .v x h1
  | agg xs vs hl hv => exact .un _
  | tup xs vs hl hv => exact .un _
  | pt b ver es i fo x h1 hb hv he hx =>
    simp only [ren0]
    cases hr : rn b ver with
    | none => exact .un _
    | some q =>
      obtain ⟨b', v'⟩ := q
      obtain ⟨l, q1, q2, q3⟩ := R.blk b ver b' v' hr hb hv
      exact .pt b' v' es i fo x h1 l q1 (he.trans q2.symm) (fun e => by obtain ⟨q4, q5, _⟩ := q3 e; rw [q5]; exact hx q4)
  | sl b ver es i len x h1 hb hv he hx =>
    simp only [ren0]
    cases hr : rn b ver with
    | none => exact .un _
    | some q =>
      obtain ⟨b', v'⟩ := q
      obtain ⟨l, q1, q2, q3⟩ := R.blk b ver b' v' hr hb hv
      exact .sl b' v' es i len x h1 l q1 (he.trans q2.symm) (fun e => by obtain ⟨q4, q5, q6⟩ := q3 e; rw [q5, q6]; exact hx q4)
  | ro els a cap es blk off vals h0 hes hc hv hn hcap => exact VR.plain_to R.imm (.ro els a cap es blk off vals h0 hes hc hv hn hcap) rfl
  | rp cells blk off vals hI hc hv hn => exact VR.plain_to R.imm (.rp cells blk off vals hI hc hv hn) rfl
  | cz a => exact .cz a
  | fn f fst cap fs vs hl0 hl hv0 hv =>
    cases fst with
    | cons c fst => exact .un _
    | nil => cases cap with
      | nil => exact .fn f [] [] fs vs hl0 hl (fun i hi => by simp at hi) (fun i hi => by simp at hi)
      | cons c cap => exact .un _
  | yl i l hl =>
    simp only [ren0]
    cases hy : yn i with
    | false => exact .un _
    | true => exact .yl i l (R.ls i l hy hl)
theorem renL0_eq (xs : List A) (k : List A → Prop) : renL0 rn yn xs k = k (xs.map (ren0 rn yn)) := by
  induction xs generalizing k with
  | nil => rfl
  | cons x xs ih => show force (ren0 rn yn x) (fun a => renL0 rn yn xs fun as => k (a :: as)) = _; rw [force_eq]; exact ih fun as => k (ren0 rn yn x :: as)
theorem getD_map_un {f : A → A} (hu : f .un = .un) (xs : List A) (i : Nat) : (xs.map f).getD i .un = f (xs.getD i .un) := by
  by_cases hi : i < xs.length
  · simp [List.getD_eq_getElem?_getD, hi]
  · simp [List.getD_eq_getElem?_getD, hi, hu]
/-- In plain words. -/
def ren1' (rn : Nat → Nat → Option (Nat × Nat)) (yn : Nat → Bool) : A → A
  | .agg xs => .agg (xs.map (ren0 rn yn))
  | .fn f fst cap => .fn f (fst.map (ren0 rn yn)) (cap.map (ren0 rn yn))
  | a => ren0 rn yn a
theorem ren1_eq (a : A) (k : A → Prop) : ren1 rn yn a k = k (ren1' rn yn a) := by
  cases a <;> simp only [ren1, ren1', renL0_eq, force_eq]
theorem VR.rn1 (R : Ren rn yn g h g2 h2) {a : A} {x : Value} (r : VR g w h a x) : VR g2 w h2 (ren1' rn yn a) x := by
  cases r with
  | agg xs vs hl hv => exact .agg _ _ (by simpa using hl) (fun i hi => by rw [getD_map_un rfl]; exact (hv i (by simpa using hi)).rn0 R)
  | fn f fst cap fs vs hl0 hl hv0 hv => exact .fn f _ _ _ _ (by simpa using hl0) (by simpa using hl) (fun i hi => by rw [getD_map_un rfl]; exact (hv0 i (by simpa using hi)).rn0 R) (fun i hi => by rw [getD_map_un rfl]; exact (hv i (by simpa using hi)).rn0 R)
  | un x => exact VR.rn0 R (.un x)
  | v x h1 => exact VR.rn0 R (.v x h1)
  | tup xs vs hl hv => exact VR.rn0 R (.tup xs vs hl hv)
  | pt b ver es i fo x h1 hb hv he hx => exact VR.rn0 R (.pt b ver es i fo x h1 hb hv he hx)
  | sl b ver es i len x h1 hb hv he hx => exact VR.rn0 R (.sl b ver es i len x h1 hb hv he hx)
  | ro els a cap es blk off vals h0 hes hc hv hn hcap => exact VR.rn0 R (.ro els a cap es blk off vals h0 hes hc hv hn hcap)
  | rp cells blk off vals hI hc hv hn => exact VR.rn0 R (.rp cells blk off vals hI hc hv hn)
  | cz a => exact .cz a
  | yl i l hl => exact VR.rn0 R (.yl i l hl)
theorem renL1_eq (xs : List A) (k : List A → Prop) : renL1 rn yn xs k = k (xs.map (ren1' rn yn)) := by
  induction xs generalizing k with
  | nil => rfl
  | cons x xs ih => show ren1 rn yn x (fun a => renL1 rn yn xs fun as => k (a :: as)) = _; rw [ren1_eq]; exact ih fun as => k (ren1' rn yn x :: as)
def ren2' (rn : Nat → Nat → Option (Nat × Nat)) (yn : Nat → Bool) : A → A
  | .agg xs => .agg (xs.map (ren1' rn yn))
  | .tup xs => .tup (xs.map (ren1' rn yn))
  | .fn f fst cap => .fn f (fst.map (ren1' rn yn)) (cap.map (ren1' rn yn))
  | a => ren0 rn yn a
theorem ren2_eq (a : A) (k : A → Prop) : ren2 rn yn a k = k (ren2' rn yn a) := by
  cases a <;> simp only [ren2, ren2', renL1_eq, force_eq]
theorem VR.rn2 (R : Ren rn yn g h g2 h2) {a : A} {x : Value} (r : VR g w h a x) : VR g2 w h2 (ren2' rn yn a) x := by
  cases r with
  | agg xs vs hl hv => exact .agg _ _ (by simpa using hl) (fun i hi => by rw [getD_map_un rfl]; exact (hv i (by simpa using hi)).rn1 R)
  | tup xs vs hl hv => exact .tup _ _ (by simpa using hl) (fun i hi => by rw [getD_map_un rfl]; exact (hv i (by simpa using hi)).rn1 R)
  | fn f fst cap fs vs hl0 hl hv0 hv => exact .fn f _ _ _ _ (by simpa using hl0) (by simpa using hl) (fun i hi => by rw [getD_map_un rfl]; exact (hv0 i (by simpa using hi)).rn1 R) (fun i hi => by rw [getD_map_un rfl]; exact (hv i (by simpa using hi)).rn1 R)
  | un x => exact VR.rn0 R (.un x)
  | v x h1 => exact VR.rn0 R (.v x h1)
  | pt b ver es i fo x h1 hb hv he hx => exact VR.rn0 R (.pt b ver es i fo x h1 hb hv he hx)
  | sl b ver es i len x h1 hb hv he hx => exact VR.rn0 R (.sl b ver es i len x h1 hb hv he hx)
  | ro els a cap es blk off vals h0 hes hc hv hn hcap => exact VR.rn0 R (.ro els a cap es blk off vals h0 hes hc hv hn hcap)
  | rp cells blk off vals hI hc hv hn => exact VR.rn0 R (.rp cells blk off vals hI hc hv hn)
  | cz a => exact .cz a
  | yl i l hl => exact VR.rn0 R (.yl i l hl)
def renB' (rn : Nat → Nat → Option (Nat × Nat)) (yn : Nat → Bool) : Blk → Blk
  | .bx fz cells => .bx fz (cells.map (ren1' rn yn))
  | .rw fz nx ver es els => match nx with
    | false => .rw fz false ver es els
    | true => .rw fz true ver es (els.map fun c => c.map (ren1' rn yn))
  | .hole => .hole
theorem renB_eq (b : Blk) (k : Blk → Prop) : renB rn yn b k = k (renB' rn yn b) := by
  cases b with
  | rw fz nx ver es els => cases nx with
    | false => rfl
    | true => simp only [renB, renB']; rw [rowsK_eq _ _ ren1_eq]
  | hole => rfl
  | bx fz cells => simp only [renB, renB', renL1_eq]
theorem renBs_eq (bs : List Blk) (k : List Blk → Prop) : renBs rn yn bs k = k (bs.map (renB' rn yn)) := by
  induction bs generalizing k with
  | nil => rfl
  | cons x xs ih => show renB rn yn x (fun a => renBs rn yn xs fun as => k (a :: as)) = _; rw [renB_eq]; exact ih fun as => k (renB' rn yn x :: as)
theorem renB_fz (b : Blk) : (renB' rn yn b).fz = b.fz := by
  cases b with
  | rw fz nx ver es els => cases nx <;> rfl
  | _ => rfl
theorem renB_ver (b : Blk) : (renB' rn yn b).ver = b.ver := by
  cases b with
  | rw fz nx ver es els => cases nx <;> rfl
  | _ => rfl
theorem renB_es (b : Blk) : (renB' rn yn b).es = b.es := by
  cases b with
  | rw fz nx ver es els => cases nx <;> rfl
  | _ => rfl
theorem renB_hole (b : Blk) : renB' rn yn b = .hole ↔ b = .hole := by
  cases b with
  | rw fz nx ver es els => cases nx <;> simp [renB']
  | _ => simp [renB']
/-- A block under other names. -/
theorem BR.rnm (R : Ren rn yn g h g2 h2) {b b' : Nat} {k : Blk} (hm : g2.m b' = g.m b) (hc : g2.cp b' = g.cp b) (r : BR g w h b k) : BR g2 w h2 b' (renB' rn yn k) := by
  cases k with
  | hole => trivial
  | bx f cells =>
    obtain ⟨arr, E, r1, r2, r3⟩ := r
    exact ⟨arr, E, by rw [hm]; exact r1, by simpa using r2, fun j hj => by rw [getD_map_un rfl]; exact (r3 j (by simpa using hj)).rn1 R⟩
  | rw f nx ver es els =>
    obtain ⟨arr, E, r1, r2, r3, r4, r5, r6, r7⟩ := r
    cases nx with
    | false =>
      exact ⟨arr, E, by rw [hm]; exact r1, r2, by rw [hc]; exact r3, by rw [hc]; exact r4, by rw [hc]; exact r5, r6, fun i j hi hj =>
        (r7 i j hi hj).plain_to R.imm ((r6 _ (getD_mem _ _ _ hi)).2 rfl _ (getD_mem _ _ _ (by rw [(r6 _ (getD_mem els i [] hi)).1]; exact hj)))⟩
    | true =>
      refine ⟨arr, E, by rw [hm]; exact r1, r2, by rw [hc]; exact r3, by rw [hc]; simpa using r4, by rw [hc]; exact r5, fun c hc => ?_, fun i j hi hj => ?_⟩
      · obtain ⟨c0, h0, rfl⟩ := List.mem_map.1 hc
        exact ⟨by simpa using (r6 c0 h0).1, fun h => by cases h⟩
      · have hi2 : i < els.length := by simpa using hi
        have e1 : (els.map fun c => c.map (ren1' rn yn)).getD i [] = (els.getD i []).map (ren1' rn yn) := by simp [List.getD_eq_getElem?_getD, hi2]
        rw [e1, getD_map_un rfl]
        exact (r7 i j hi2 hj).rn1 R
end

/-- A callee's own heap at p. -/
def Gh.joinH (g g1 : Gh) (p n : Nat) : Gh :=
  ⟨fun b => if p ≤ b ∧ b < p + n then g1.m (b - p) else g.m b, fun b => if p ≤ b ∧ b < p + n then g1.cp (b - p) else g.cp b, g1.I, g.ls⟩
theorem hf_mapH (f : Blk → Blk) (hu : f .hole = .hole) (hs : List Blk) (b : Nat) : (hs.map f).getD b .hole = f (hs.getD b .hole) := by
  by_cases hi : b < hs.length
  · simp [List.getD_eq_getElem?_getD, hi]
  · simp [List.getD_eq_getElem?_getD, hi, hu]
theorem SW.joinH {g : Gh} {w : World} {h : Hp} (s : SW B0 w0 g w h) {g1 : Gh} {w' : World} {hs : List Blk} {z : Nat → Prop} (s1 : SW w.heap.size ⟨w, z⟩ g1 w' (hf hs)) (hI : ∀ x, g1.I x → g.I x ∨ w.heap.size ≤ x) (hI' : ∀ x, g.I x → g1.I x)
    (hfree : ∀ b, p ≤ b → b < p + hs.length → ¬ Live h b) :
    EB g w h (g.joinH g1 p hs.length) w' (addH h p (hs.map (renB' (shN p) noY))) ∧ SW B0 w0 (g.joinH g1 p hs.length) w' (addH h p (hs.map (renB' (shN p) noY))) ∧
      Ren (shN p) noY g1 (hf hs) (g.joinH g1 p hs.length) (addH h p (hs.map (renB' (shN p) noY))) := by
  generalize hh2 : addH h p (hs.map (renB' (shN p) noY)) = h2
  have hnew : ∀ d, d < hs.length → h2 (p + d) = renB' (shN p) noY (hf hs d) := fun d hd => by
    rw [← hh2]
    unfold addH
    rw [if_pos (by simp; omega), Nat.add_sub_cancel_left, hf_mapH _ rfl]; rfl
  have hold : ∀ b, ¬ (p ≤ b ∧ b < p + hs.length) → h2 b = h b := fun b hb => by
    rw [← hh2]
    unfold addH
    rw [if_neg (by simpa using hb)]
  have hout : ∀ b, Live h b → ¬ (p ≤ b ∧ b < p + hs.length) := fun b hl hb => hfree b hb.1 hb.2 hl
  have mold : ∀ b, ¬ (p ≤ b ∧ b < p + hs.length) → (g.joinH g1 p hs.length).m b = g.m b ∧ (g.joinH g1 p hs.length).cp b = g.cp b := fun b hb => by simp only [Gh.joinH]; rw [if_neg hb, if_neg hb]; exact ⟨rfl, rfl⟩
  have mnew : ∀ d, d < hs.length → (g.joinH g1 p hs.length).m (p + d) = g1.m d ∧ (g.joinH g1 p hs.length).cp (p + d) = g1.cp d := fun d hd => by
    simp only [Gh.joinH]; rw [if_pos (by omega), if_pos (by omega), Nat.add_sub_cancel_left]; exact ⟨rfl, rfl⟩
  have e : Ev g w h (g.joinH g1 p hs.length) w' h2 := by
    refine ⟨fun b hl => ?_, fun x hx => ⟨hI' x hx, .of (s1.be.block x (s.sh.imm x hx))⟩, fun _ _ h => h, s1.be.size⟩
    have ho := hout b hl
    rw [show Live h2 b ↔ Live h b from by unfold Live; rw [hold b ho], hold b ho]
    exact ⟨hl, Nat.le_refl _, rfl, fun _ => mold b ho⟩
  have hlv : ∀ d, Live (hf hs) d → d < hs.length := fun d hd => by
    rcases Nat.lt_or_ge d hs.length with h | h
    · exact h
    · exact absurd hd (hf_none hs d h)
  have hR : Ren (shN p) noY g1 (hf hs) (g.joinH g1 p hs.length) h2 := by
    refine ⟨fun b ver b' v' hr hl hv => ?_, fun x hx => hx, fun i l hy _ => by cases hy⟩
    simp only [shN, Option.some.injEq, Prod.mk.injEq] at hr
    obtain ⟨rfl, rfl⟩ := hr
    have hd := hlv b hl
    unfold Live at hl ⊢
    rw [hnew b hd, renB_ver, renB_es]
    exact ⟨fun h => hl ((renB_hole _).1 h), hv, rfl, fun h => ⟨h, mnew b hd⟩⟩
  have hcase : ∀ b, Live h2 b → (¬ (p ≤ b ∧ b < p + hs.length) ∧ Live h b) ∨ ∃ d, b = p + d ∧ d < hs.length ∧ Live (hf hs) d := fun b hl => by
    by_cases hb : p ≤ b ∧ b < p + hs.length
    · refine .inr ⟨b - p, by omega, by omega, ?_⟩
      have : b = p + (b - p) := by omega
      rw [this] at hl
      unfold Live at hl ⊢
      rw [hnew _ (by omega)] at hl
      exact fun h => hl ((renB_hole _).2 h)
    · exact .inl ⟨hb, by unfold Live at hl ⊢; rwa [hold b hb] at hl⟩
  refine ⟨⟨e, rfl, fun x o hx _ => (s1.be.block x (Array.getElem?_eq_some_iff.1 hx).1).trans hx⟩, ⟨⟨?_, ?_, fun x hx => s1.sh.imm x hx, ?_, ?_, ?_⟩, s.be.trans (s1.be.mono s.b0), Nat.le_trans s.b0 s1.be.size, fun x hx => (hI x hx).elim (s.ib x) (fun h => .inr (Nat.le_trans s.b0 h))⟩, hR⟩
  · intro b b' hb hb' hm
    rcases hcase b hb with ⟨h1, h2⟩ | ⟨d, rfl, h1, h2⟩ <;> rcases hcase b' hb' with ⟨h3, h4⟩ | ⟨d', rfl, h3, h4⟩
    · rw [(mold b h1).1, (mold b' h3).1] at hm; exact s.sh.inj b b' h2 h4 hm
    · rw [(mold b h1).1, (mnew d' h3).1] at hm
      have := s.sh.lt h2
      have := s1.sh.lo d' h4
      omega
    · rw [(mold b' h3).1, (mnew d h1).1] at hm
      have := s.sh.lt h4
      have := s1.sh.lo d h2
      omega
    · rw [(mnew d h1).1, (mnew d' h3).1] at hm; rw [s1.sh.inj d d' h2 h4 hm]
  · intro b hb
    rcases hcase b hb with ⟨h1, h2⟩ | ⟨d, rfl, h1, h2⟩
    · rw [(mold b h1).1]; exact s.sh.lo b h2
    · rw [(mnew d h1).1]; exact Nat.le_trans s.b0 (s1.sh.lo d h2)
  · intro b hb hf
    rcases hcase b hb with ⟨h1, h2⟩ | ⟨d, rfl, h1, h2⟩
    · rw [hold b h1] at hf
      rw [(mold b h1).1]
      intro hx
      rcases hI _ hx with h | h
      · exact s.sh.sep b h2 hf h
      · have := s.sh.lt h2; omega
    · rw [hnew d h1, renB_fz] at hf
      rw [(mnew d h1).1]; exact s1.sh.sep d h2 hf
  · intro b hb hf
    rcases hcase b hb with ⟨h1, h2⟩ | ⟨d, rfl, h1, h2⟩
    · rw [hold b h1] at hf
      rw [(mold b h1).1]
      exact hI' _ (s.sh.fro b h2 hf)
    · rw [hnew d h1, renB_fz] at hf
      rw [(mnew d h1).1]; exact s1.sh.fro d h2 hf
  · intro b
    by_cases hl : Live h2 b
    · rcases hcase b hl with ⟨h1, h2⟩ | ⟨d, rfl, h1, h2⟩
      · rw [hold b h1]
        exact BR.mono e (mold b h1).1 (mold b h1).2 (s1.be.block _ (s.sh.lt h2)) (s.sh.blk b)
      · rw [hnew d h1]
        exact BR.rnm hR (mnew d h1).1 (mnew d h1).2 (s1.sh.blk d)
    · have : h2 b = .hole := Classical.byContradiction hl
      rw [this]; trivial

theorem qs_call {env : Env} (henv : EnvOk P env) {cl : Call} {x : Operand} {f : Nat} {fst cap : List A} {T : List A → Res → Prop} {k : A → List Blk → Prop} (ho : o.op = .call cl) (hcl : cl.callee = .value x) (hx : ev ts x = .fn f fst cap) (hT : env f = some T)
    (hk : convs hp (fst ++ cl.args.toList.map (ev ts) ++ cap) fun as => ∃ r : Res, T as r ∧ match scalarR r with
      | true => k r.v []
      | false => match blocksAs hp (fst ++ cl.args.toList.map (ev ts) ++ cap) with
        | [] => renBs (shN p) noY r.hs fun hs => ren2 (shN p) noY r.v fun a => k a hs
        | _ :: _ => False) :
    ∃ a news, k a news ∧ QS P B0 w0 (hf hp) p o (ev ts) a news := by
  obtain ⟨ys, hk2, hlen, hconv⟩ := convs_sound (B0 := B0) (w0 := w0) hk
  obtain ⟨r, hr, hk3⟩ := hk2
  have hfv : ∀ (g : Gh) (w : World) (h : Hp) (act : Act), (∀ x ∈ o.op.operands, VR g w h (ev ts x) (act.eval x)) → ∃ fs vs, act.eval x = .func (.func f) fs vs ∧ fst.length = fs.size ∧ (∀ i, i < fst.length → VR g w h (fst.getD i .un) (fs.getD i undef)) ∧ cap.length = vs.size ∧ ∀ i, i < cap.length → VR g w h (cap.getD i .un) (vs.getD i undef) := fun g w h act hop => by
    have hx1 := hop x (by simp [ho, Op.operands, Call.operands, hcl])
    rw [hx] at hx1
    generalize act.eval x = y at hx1
    cases hx1 with
    | fn _ _ _ fs vs hl0 hl hv0 hv => exact ⟨fs, vs, rfl, hl0, hv0, hl, hv⟩
  cases hsc : scalarR r with
  | true =>
    rw [hsc] at hk3
    refine ⟨r.v, [], hk3, ?_⟩
    intro rd g w h act N next Q hs hc _ hop hnext
    rw [addH_nil] at hnext
    refine ⟨fun f _ => trivial, ?_⟩
    rw [Oper.semAt_eq _ _ _ (by simp [ho])]
    obtain ⟨fs, vs, hfe, hl0, hv0, hl, hv⟩ := hfv g w h act hop
    rw [execOp_call ho hcl hfe (henv.ent f T hT)]
    obtain ⟨a1, a2⟩ := call_args (cl := cl) (ρ := act.eval) (fun x hx => hop x (by simp [ho, Op.operands, Call.operands, hx])) hl0 hv0 hl hv
    have harel : ARel (fun x => x < w.heap.size) w ys (fs ++ cl.args.map act.eval ++ vs) :=
      ⟨by omega, hconv g w h (fun i => (fs ++ cl.args.map act.eval ++ vs).getD i undef) hs hc a2 (gI (fun x => x < w.heap.size)) (fun _ => .hole) (fun x hx => hs.sh.imm x hx) (fun b _ hl => hs.sh.lt hl)⟩
    refine ⟨fun h => by simp [FW] at h, (callsIn_FW (henv.pure f T hT ys r hr w _ _ (fun x hx => hx) harel)).mono ?_⟩
    rintro e w' ⟨v, g', rfl, hsw, _, _, hvr⟩
    exact hnext v w' g ⟨Ev.below hs hsw.be, rfl, fun x o hx _ => (hsw.be.block x (Array.getElem?_eq_some_iff.1 hx).1).trans hx⟩ (hs.same hsw.be) (scalarR_free hsc hvr g w' h)
  | false =>
    rw [hsc] at hk3
    dsimp only at hk3
    cases hbl : blocksAs hp (fst ++ cl.args.toList.map (ev ts) ++ cap) with
    | cons _ _ => rw [hbl] at hk3; exact hk3.elim
    | nil =>
      rw [hbl] at hk3
      simp only [renBs_eq, ren2_eq] at hk3
      refine ⟨_, _, hk3, ?_⟩
      intro rd g w h act N next Q hs hc hfree hop hnext
      refine ⟨fun f _ => trivial, ?_⟩
      rw [Oper.semAt_eq _ _ _ (by simp [ho])]
      obtain ⟨fs, vs, hfe, hl0, hv0, hl, hv⟩ := hfv g w h act hop
      rw [execOp_call ho hcl hfe (henv.ent f T hT)]
      obtain ⟨a1, a2⟩ := call_args (cl := cl) (ρ := act.eval) (fun x hx => hop x (by simp [ho, Op.operands, Call.operands, hx])) hl0 hv0 hl hv
      have harel : ARel g.I w ys (fs ++ cl.args.map act.eval ++ vs) :=
        ⟨by omega, hconv g w h (fun i => (fs ++ cl.args.map act.eval ++ vs).getD i undef) hs hc a2 (gI g.I) (fun _ => .hole) (fun x hx => hx) (fun b hb hl => by rw [hbl] at hb; cases hb)⟩
      refine ⟨fun h => by simp [FW] at h, (callsIn_FW (henv.pure f T hT ys r hr w _ _ hs.sh.imm harel)).mono ?_⟩
      rintro e w' ⟨v, g', rfl, hsw, hI1, hI2, hvr⟩
      obtain ⟨e2, s2, R⟩ := hs.joinH hsw hI1 hI2 (fun b h1 h2 => hfree b h1 (by simpa using h2))
      exact hnext v w' _ e2 s2 (hvr.rn2 R)

end Go.YtoeophdffhmpmaaE
