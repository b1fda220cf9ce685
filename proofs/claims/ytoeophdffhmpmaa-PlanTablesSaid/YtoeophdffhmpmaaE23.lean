/- The engine: THE RUN IS SOUND, whatever the code. -/
import Derived.Test.YtoeophdffhmpmaaE22
set_option linter.unusedVariables false
set_option linter.unusedSimpArgs false
namespace Go.YtoeophdffhmpmaaE
open Go Go.RowKit

variable {P : Program} {B0 : Nat} {w0 : Wz} {c : Hp} {p : Nat} {o : Oper} {ts : List A} {hp : List Blk}

theorem exE_inj {a b : Ex} (h : exE a = exE b) : a = b := by cases a <;> cases b <;> simp [exE] at h ⊢; exact h
theorem Post.mono {r : Option Nat} {β : Bs} {k k' : K} (h : ∀ x ts hp lp, k x ts hp lp → k' x ts hp lp) {e : Exit} {a : Act} {w : World} (p : Post B0 w0 r β k e a w) : Post B0 w0 r β k' e a w := by
  obtain ⟨x, ts, hp, lp, Γ, g, h1, h2, h3⟩ := p
  exact ⟨x, ts, hp, lp, Γ, g, h1, h _ _ _ _ h2, h3⟩

/-- A loop that is run by fuel. -/
theorem loop_sound {F : Fence} {N : Nat} {b : Code} {Q : Exit → Act → World → Prop} (S : Nat → Act → World → Prop)
    (round : ∀ n a w, S n a w → b.wpIn F N P (Exit.then (fun a' w' => ∃ m, m < n ∧ S m a' w') Q) a w) {n : Nat} {a : Act} {w : World} (h : S n a w) : (Code.loop b).wpIn F N P Q a w := by
  have least : ∀ n a w, S n a w → ∃ m, S m a w ∧ ∀ j, S j a w → m ≤ j := by
    intro n
    induction n using Nat.strongRecOn with
    | _ n ih =>
      intro a w h
      by_cases hm : ∃ m, m < n ∧ S m a w
      · obtain ⟨m, h1, h2⟩ := hm
        exact ih m h1 a w h2
      · exact ⟨n, h, fun j hj => Nat.le_of_not_lt fun hlt => hm ⟨j, hlt, hj⟩⟩
  refine wpIn_loop (fun a w => ∃ n, S n a w) (fun a w => @dite Nat (∃ m, S m a w ∧ ∀ j, S j a w → m ≤ j) (Classical.propDecidable _) (fun h => Classical.choose h) (fun _ => 0)) ⟨n, h⟩ fun a w ⟨n, hn⟩ => ?_
  have hl := least n a w hn
  obtain ⟨c1, c2⟩ := Classical.choose_spec hl
  refine wpIn_mono (round _ a w c1) ?_
  rintro e a' w' q
  cases e <;> try exact q
  obtain ⟨m, hm, hS⟩ := q
  refine ⟨⟨m, hS⟩, ?_⟩
  have hl' := least m a' w' hS
  rw [dif_pos hl', dif_pos hl]
  exact Nat.lt_of_le_of_lt ((Classical.choose_spec hl').2 m hS) hm

theorem run_sound (pf : PF P) {E : EqT} {env : Env} (hE : EqOk P E) (henv : EnvOk P env) (hD : DrawsOk P E env) : ∀ n, RunOk P B0 w0 (run P E env n) := by
  intro n
  induction n using Nat.strongRecOn with
  | _ n IH =>
  intro r β N c ts hp lp k Γ g w act hβ hk fr
  cases n with
  | zero => exact hk.elim
  | succ n =>
  have ih := IH n (Nat.lt_succ_self n)
  rw [run_succ] at hk
  have hinl := inlF_ok (B0 := B0) (w0 := w0) pf ih
  cases c <;> try exact hk.elim
  case skip => exact wpIn_skip ⟨.normal, ts, hp, lp, Γ, g, rfl, hk, fr⟩
  case region id os dr =>
    have hQ : ∀ ts hp lp Γ g w act, k .normal ts hp lp → Fr B0 w0 r β Γ g w hp lp ts act → Post B0 w0 r β k .normal act w := fun ts hp lp Γ g w act h f => ⟨.normal, ts, hp, lp, Γ, g, rfl, h, f⟩
    cases dr with
    | false => exact wpIn_region_list (ops_sound hE henv hinl hβ (all := os.toList) hQ os.toList ts hp lp Γ g w act hk fr)
    | true =>
      exact hD B0 w0 _ r β os id N _ ts hp lp Γ g w act _ hinl hβ hk fr hQ (fun c a w h => by obtain ⟨x, _, _, _, _, _, he, _⟩ := h; cases x <;> cases he)
  case seq a b =>
    refine wpIn_seq (wpIn_mono (ih r β N a ts hp lp _ Γ g w act hβ hk fr) ?_)
    rintro e a' w' ⟨x, ts', hp', lp', Γ', g', rfl, hk', fr'⟩
    cases x with
    | normal => exact ih r β N b ts' hp' lp' k Γ' g' w' a' hβ hk' fr'
    | ret => exact ⟨.ret, ts', hp', lp', Γ', g', rfl, hk', fr'⟩
    | exit i => exact ⟨.exit i, ts', hp', lp', Γ', g', rfl, hk', fr'⟩
  case cond x a b =>
    change (match ev ts x with | .v (.bool t) => cndK t (run P E env n β.nb β.lp.length a ts hp lp k) (run P E env n β.nb β.lp.length b ts hp lp k) | _ => False) at hk
    have hx := ev_sound fr.ts x
    cases hc : ev ts x <;> rw [hc] at hk hx <;> try exact hk.elim
    rename_i v
    cases v <;> try exact hk.elim
    rename_i t
    cases t with
    | true => exact wpIn_cond_true hx.bool_inv (ih r β N a ts hp lp k Γ g w act hβ hk fr)
    | false => exact wpIn_cond_false hx.bool_inv (ih r β N b ts hp lp k Γ g w act hβ hk fr)
  case block id b =>
    refine wpIn_block (wpIn_mono (ih r β N b ts hp lp _ Γ g w act hβ hk fr) ?_)
    rintro e a' w' ⟨x, ts', hp', lp', Γ', g', rfl, hk', fr'⟩
    cases x with
    | normal => exact ⟨.normal, ts', hp', lp', Γ', g', rfl, hk', fr'⟩
    | ret => exact ⟨.ret, ts', hp', lp', Γ', g', rfl, hk', fr'⟩
    | exit i =>
      simp only [exE, Exit.inBlock]
      change (match i == id with | true => k .normal ts' hp' lp' | false => k (.exit i) ts' hp' lp') at hk'
      by_cases hid : i = id
      · subst hid
        simp only [beq_self_eq_true] at hk'
        rw [if_pos rfl]
        exact ⟨.normal, ts', hp', lp', Γ', g', rfl, hk', fr'⟩
      · have : (i == id) = false := by simpa using hid
        rw [this] at hk'
        rw [if_neg hid]
        exact ⟨.exit i, ts', hp', lp', Γ', g', rfl, hk', fr'⟩
  case loop b =>
    refine loop_sound (fun m a w => m ≤ n + 1 ∧ ∃ ts hp lp Γ g, run P E env m β.nb β.lp.length (.loop b) ts hp lp k ∧ Fr B0 w0 r β Γ g w hp lp ts a) ?_ (n := n + 1) ⟨Nat.le_refl _, ts, hp, lp, Γ, g, hk, fr⟩
    rintro m a w ⟨hm, ts, hp, lp, Γ, g, hk, fr⟩
    cases m with
    | zero => exact hk.elim
    | succ m =>
      rw [run_succ] at hk
      obtain ⟨ts2, hp2, lp2, hwk, hk2⟩ : WkK β.nb β.lp.length ts hp lp fun ts hp lp => run P E env m β.nb β.lp.length b ts hp lp fun e ts hp lp => match e with
        | .normal => run P E env m β.nb β.lp.length (.loop b) ts hp lp k
        | e => k e ts hp lp := hk
      obtain ⟨g2, fr2⟩ := wk_sound (B0 := B0) (w0 := w0) hβ hwk Γ g w a fr
      refine wpIn_mono (IH m (by omega) r β N b ts2 hp2 lp2 _ Γ g2 w a hβ hk2 fr2) ?_
      rintro e a' w' ⟨x, ts', hp', lp', Γ', g', rfl, hk', fr'⟩
      cases x with
      | normal => exact ⟨m, Nat.lt_succ_self m, by omega, ts', hp', lp', Γ', g', hk', fr'⟩
      | ret => exact ⟨.ret, ts', hp', lp', Γ', g', rfl, hk', fr'⟩
      | exit i => exact ⟨.exit i, ts', hp', lp', Γ', g', rfl, hk', fr'⟩
  case rangeFunc x ps assign body =>
    change (match ev ts x with
      | .fn g [] cap => optK P.funcs[g]? fun fn => optK fn.body fun c => lenK lp 0 fun i => frameK fn (.yl i :: cap) fun ts2 => snocK lp [.ready ⟨ps.toList, assign, body, ts⟩] fun lp2 =>
        lenK hp 0 fun nb2 => run P E env n nb2 (i + 1) c ts2 hp lp2 fun e ts3 hp lp3 =>
          match e with
          | .exit _ => False
          | _ => resK P fn ts3 hp fun _ => optK lp3[i]? fun st => match st with
            | .ready _ => setK lp3 i .over fun lp => k .normal ts hp lp
            | .done e => setK lp3 i .over fun lp => k e ts hp lp
            | _ => False
      | _ => False) at hk
    cases hx : ev ts x <;> rw [hx] at hk <;> try exact hk.elim
    rename_i gf fst cap
    cases fst with
    | cons _ _ => exact hk.elim
    | nil =>
    obtain ⟨fn, hf, hk1⟩ := optK_elim hk
    obtain ⟨cd, hb, hk2⟩ := optK_elim hk1
    simp only [lenK_eq, frameK_eq, snocK_eq, Nat.zero_add] at hk2
    exact range_sound pf ih hβ fr hx hf hb hk2 N
  case exit i => exact wpIn_exit ⟨.exit i, ts, hp, lp, Γ, g, rfl, hk, fr⟩
  case ret => exact wpIn_ret ⟨.ret, ts, hp, lp, Γ, g, rfl, hk, fr⟩

end Go.YtoeophdffhmpmaaE
