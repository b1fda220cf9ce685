/- The engine: all operations in their text's order. -/
import Derived.Test.YtoeophdffhmpmaaE16
set_option linter.unusedVariables false
set_option linter.unusedSimpArgs false
namespace Go.YtoeophdffhmpmaaE
open Go Go.RowKit

variable {P : Program} {B0 : Nat} {w0 : Wz} {c : Hp} {p : Nat} {o : Oper} {ts : List A} {hp : List Blk}

theorem opS_sound {E : EqT} {env : Env} (hE : EqOk P E) (henv : EnvOk P env) {inl : Inl} {lp : List Lp} {k : K3} (hk : opS P E env inl hp lp ts o.op k) :
    OS P B0 w0 hp o (ev ts) (fun a hp' => k a hp' lp) ∨ ∃ cl x, o.op = .call cl ∧ cl.callee = .value x ∧ inl (ev ts x) (cl.args.toList.map (ev ts)) hp lp k := by
  have quiet : opQ P E env hp ts o.op (fun a news => snocK hp news fun hp => k a hp lp) → OS P B0 w0 hp o (ev ts) (fun a hp' => k a hp' lp) := fun h => by
    obtain ⟨a, news, h1, h2⟩ := opQ_sound (B0 := B0) (w0 := w0) hE henv h
    rw [snocK_eq] at h1
    exact h2.toOS h1
  cases ho : o.op <;> rw [ho] at hk quiet <;> try exact .inl (quiet hk)
  case store t x y =>
    left
    obtain ⟨d, i, hu, hi, h1⟩ := tyK_elim (show tyK P t _ from hk)
    rw [force_eq] at h1
    obtain ⟨h2, h3⟩ := chk_elim h1
    simp only [beq_iff_eq] at h2
    cases hx : ev ts x <;> rw [hx] at h3 <;> try exact h3.elim
    rename_i b ver es ii fo
    dsimp only at h3
    cases hb : hp.getD b .hole <;> rw [hb] at h3 <;> try exact h3.elim
    · rename_i fz cells
      cases fz <;> try exact h3.elim
      cases ii <;> try exact h3.elim
      obtain ⟨h4, h5⟩ := chk_elim h3
      simp only [Bool.and_eq_true, allB_iff, decide_eq_true_eq] at h4
      rw [setMany_eq, setK_eq] at h5
      exact os_store_bx (d := d) ho hi hx hb h2 h4.1 (.inr trivial) h4.2 h5
    · rename_i fz nx ver' es' els
      cases fz <;> try exact h3.elim
      cases nx with
      | false =>
        obtain ⟨h4, h5⟩ := chk_elim h3
        simp only [Bool.and_eq_true, beq_iff_eq] at h4
        obtain ⟨rfl, rfl⟩ := h4
        obtain ⟨cells, h6, h7⟩ := optK_elim h5
        obtain ⟨h8, h9⟩ := chk_elim h7
        exact os_store_rw (d := d) ho hi hx hb h2 h6 (of_decide_eq_true h8) h9
      | true =>
        obtain ⟨h4, h5⟩ := chk_elim h3
        simp only [Bool.and_eq_true, beq_iff_eq, allB_iff] at h4
        obtain ⟨⟨rfl, rfl⟩, hone⟩ := h4
        obtain ⟨cells, h6, h7⟩ := optK_elim h5
        obtain ⟨h8, h9⟩ := chk_elim h7
        rw [setMany_eq, setK_eq, setK_eq] at h9
        exact os_store_nx (d := d) ho hi hx hb h2 hone h6 (of_decide_eq_true h8) h9
  case buildSlice t len parts =>
    left
    simp only [opS] at hk
    cases hu : P.underlying t <;> rw [hu] at hk <;> try exact hk.elim
    rename_i d
    cases d <;> try exact hk.elim
    rename_i e
    obtain ⟨inf, h1, h2⟩ := optK_elim hk
    obtain ⟨z, h3, h4⟩ := optK_elim h2
    rw [natK_eq] at h4
    obtain ⟨h5, h6⟩ := chk_elim h4
    simp only [Bool.and_eq_true, beq_iff_eq, decide_eq_true_eq] at h5
    exact os_buildSlice (k := fun a hp' => k a hp' lp) ho hu h1 h3 h5.1 h5.2.1 h5.2.2 h6
  case binOp op t x y yt =>
    left
    by_cases hy : y = .const (.slice none 0 0)
    · subst hy
      simp only [opS] at hk
      cases hx : ev ts x <;> rw [hx] at hk <;> try exact hk.elim
      · rename_i x0
        have hx0 : x0 = .slice none 0 0 := by
          cases x0 <;> try exact hk.elim
          rename_i a n m
          cases a <;> cases n <;> cases m <;> first | rfl | exact hk.elim
        subst hx0
        cases hu : P.underlying t <;> rw [hu] at hk <;> try exact hk.elim
        rename_i d
        cases d <;> try exact hk.elim
        exact os_nil_nil ho hx hu (by cases op <;> first | exact hk | exact hk.elim)
      · exact os_nil_ro ho hx hk
    · refine quiet ?_
      unfold opS at hk
      split at hk
      all_goals first
        | exact hk
        | (rename_i h; cases h; done)
        | (rename_i h; cases h; exact absurd rfl hy)
  case call cl =>
    simp only [opS] at hk
    cases hcl : cl.callee <;> rw [hcl] at hk <;> try exact hk.elim
    · rename_i x
      dsimp only at hk
      rw [force_eq, evs_eq] at hk
      cases hx : ev ts x <;> rw [hx] at hk <;> try exact hk.elim
      · rename_i f fst cap
        dsimp only at hk
        cases hT : env f with
        | none => rw [hT] at hk; exact .inr ⟨cl, x, rfl, hcl, by rw [hx]; exact hk⟩
        | some T => rw [hT] at hk; exact .inl (os_call (k := fun a hp' => k a hp' lp) henv ho hcl hx hT hk)
      · exact .inr ⟨cl, x, rfl, hcl, by rw [hx]; exact hk⟩
    · rename_i b
      by_cases hb : b = .append
      · subst hb
        left
        dsimp only at hk
        cases hu : P.underlying (cl.argTypes.getD 0 0) <;> rw [hu] at hk <;> try exact hk.elim
        rename_i d
        cases d <;> try exact hk.elim
        rename_i e
        obtain ⟨inf, h1, h2⟩ := optK_elim hk
        rw [natK_eq] at h2
        obtain ⟨z, h3, h4⟩ := optK_elim h2
        obtain ⟨h5, h6⟩ := chk_elim h4
        simp only [Bool.and_eq_true, beq_iff_eq, decide_eq_true_eq] at h5
        obtain ⟨hty, hs0, hzs, hb0⟩ := h5
        rw [evs_eq] at h6
        cases ha : cl.args.toList with
        | nil => rw [ha] at h6; exact h6.elim
        | cons d rest => cases rest with
          | nil => rw [ha] at h6; exact h6.elim
          | cons src rest => cases rest with
            | cons _ _ => rw [ha] at h6; exact h6.elim
            | nil =>
              rw [ha] at h6
              simp only [List.map_cons, List.map_nil] at h6
              obtain ⟨nx, news, h7, hsrc⟩ : ∃ (nx : Bool) (news : List (List A)), appK hp lp inf.size inf.bytes nx news (ev ts d) k ∧
                  ∀ (g : Gh) (w : World) (v : Value) (es : Nat), SW B0 w0 g w (hf hp) → (∀ c ∈ news, c.length = es) → 0 < es → VR g w (hf hp) (ev ts src) v → Src nx g w (hf hp) news v es := by
                have plain : (conv1 hp (ev ts src) fun x => match x with
                    | .ro news => appK hp lp inf.size inf.bytes false news (ev ts d) k
                    | _ => False) → ∃ (nx : Bool) (news : List (List A)), appK hp lp inf.size inf.bytes nx news (ev ts d) k ∧
                  ∀ (g : Gh) (w : World) (v : Value) (es : Nat), SW B0 w0 g w (hf hp) → (∀ c ∈ news, c.length = es) → 0 < es → VR g w (hf hp) (ev ts src) v → Src nx g w (hf hp) news v es := fun h => by
                  obtain ⟨news, h7, hsrc⟩ := src_sound (B0 := B0) (w0 := w0) (K := fun news => appK hp lp inf.size inf.bytes false news (ev ts d) k) h
                  exact ⟨false, news, h7, hsrc⟩
                cases hs : ev ts src with
                | sl b ver es i len =>
                  rw [hs] at h6 plain
                  dsimp only at h6
                  cases hb : hp.getD b .hole <;> rw [hb] at h6 <;> try exact h6.elim
                  rename_i fz nx ver' es' els
                  cases nx with
                  | false => exact plain h6
                  | true =>
                    obtain ⟨hv, hl, h7⟩ := chk_elim h6
                    simp only [Bool.and_eq_true, beq_iff_eq] at hv
                    obtain ⟨rfl, rfl⟩ := hv
                    obtain ⟨_, h8⟩ := takeK_elim h7
                    obtain ⟨h9, h10⟩ := chk_elim h8
                    exact ⟨true, _, h10, src_nx rfl hb hl rfl ((allR_iff _ _).1 h9)⟩
                | _ => rw [hs] at h6 plain; exact plain h6
              have hnew : ((news = [] → k (ev ts d) hp lp) ∧ (news ≠ [] → ((news.length : Int) * inf.bytes ≤ 70368744177664 ∧ ∀ c ∈ news, c.length = inf.size) ∧
                    lenK hp 0 fun p => snocK hp [.rw false nx 0 inf.size news] fun hp => k (.sl p 0 inf.size 0 news.length) hp lp)) →
                  (news = [] → k (ev ts d) hp lp) ∧ (news ≠ [] → ((news.length : Int) * inf.bytes ≤ 70368744177664 ∧ ∀ c ∈ news, c.length = inf.size) ∧ k (.sl hp.length 0 inf.size 0 news.length) (hp ++ [.rw false nx 0 inf.size news]) lp) := fun h =>
                ⟨h.1, fun hne => by have := h.2 hne; rw [lenK_eq, Nat.zero_add, snocK_eq] at this; exact this⟩
              unfold appK at h7
              cases hd : ev ts d <;> rw [hd] at h7 <;> try exact h7.elim
              · rename_i x0
                have hx0 : x0 = .slice none 0 0 := by
                  cases x0 <;> try exact h7.elim
                  rename_i a n m
                  cases a <;> cases n <;> cases m <;> first | rfl | exact h7.elim
                subst hx0
                exact os_append_new (k := fun a hp' => k a hp' lp) ho hcl ha hty hu h1 h3 hzs hs0 hb0 (.inl hd) hsrc (hnew (by rw [hd]; exact h7))
              · rename_i b ver es i len
                dsimp only at h7
                cases hb : hp.getD b .hole <;> rw [hb] at h7 <;> try exact h7.elim
                rename_i fz nx' ver' es' els
                cases fz <;> try exact h7.elim
                obtain ⟨h8, ⟨h9, h10, h11, h12⟩, els2, rfl, h13⟩ := chk_elim h7
                simp only [Bool.and_eq_true, beq_iff_eq] at h8
                obtain ⟨⟨rfl, rfl⟩, rfl⟩ := h8
                subst h9
                rw [setK_eq] at h13
                exact os_append_sl (k := fun a hp' => k a hp' lp) ho hcl ha hty hu h1 h3 hzs hs0 hb0 hd hb hsrc h10 h11 h12 h13
              · exact os_append_new (k := fun a hp' => k a hp' lp) ho hcl ha hty hu h1 h3 hzs hs0 hb0 (.inr hd) hsrc (hnew (by rw [hd]; exact h7))
      · left
        refine quiet ?_
        cases b <;> first | exact absurd rfl hb | exact hk
end Go.YtoeophdffhmpmaaE
