/- plan.list as a contract; plan.Witness. -/
import Derived.Test.YtoeophdffhmpmaaP8
set_option linter.unusedVariables false
set_option linter.unusedSimpArgs false
set_option maxRecDepth 100000
set_option maxHeartbeats 1000000
namespace Go.YtoeophdffhmpmaaE
open Go Go.RowKit

theorem fnK_run {P : Program} {E : EqT} {env : Env} {f n : Nat} {xs : List A} {k : A → List Blk → Prop} {fn : Func} (hf : P.funcs[f]? = some fn) {c : Code} (hc : fn.body = some c)
    (h : run P E env n 0 0 c (xs ++ List.replicate (fn.ntmps - xs.length) .un) [] [] fun e ts hp lp => match e with | .exit _ => False | _ => resK P fn ts hp fun a => k a hp) : fnK P E env f n xs k := by
  unfold fnK
  rw [hf]
  show optK fn.body _
  rw [hc]
  show frameK fn xs _
  rw [frameK_eq]
  exact h
theorem list_pure (kind d k : Nat) (h1 : 1 ≤ kind) (h3 : kind ≤ 3) (hd : d ≤ 6) (hk : k ≤ 2 ^ d) :
    Pure Go.Proofs.Try.prog 43 [tb kind d (fullR kind d) (statesN kind), .v (.slice none 0 0), .v (.int .i64 1), .v (.int .i64 0), .v (.int .i64 d), .v (.int .i64 k)] ⟨.ro (ints (listZ kind d d 1 0 k)), []⟩ := by
  refine pure_sz pf eqOk_none (env_ok [82, 83] rfl) fun _ => ⟨800, ?_⟩
  have hp := pow_le6 hd
  have e7 : 2 ≤ 2 ^ (7 - d) := by
    match d, hd with
    | 0, _ | 1, _ | 2, _ | 3, _ | 4, _ | 5, _ | 6, _ => decide
  refine fnK_run (fn := Go.Proofs.Try.f43) (by kernel_rfl) (c := codeOf Go.Proofs.Try.prog 43) (by kernel_rfl) ?_
  have L := fun K HK => list_run (fun _ => none) kind d h1 h3 hd d 1 0 k 800 0 0 [] (.v (.slice none 0 0)) [] K (Nat.le_refl _) (by omega) (by decide) hk (by omega) (.inl ⟨rfl, rfl⟩) (by simp; omega) HK
  refine appR_intro ?_
  refine (fun K HK => appR_mk (L K HK) : ∀ K, _ → appR (run Go.Proofs.Try.prog (fun _ => none) (envL Go.Proofs.Try.prog [82, 83]) 800) _ _ _ _ _ _ K) _ fun j hp' out' ho => ?_
  rw [List.nil_append] at ho
  rcases ho with ⟨hx, rfl⟩ | ⟨b, ver, rfl, hb⟩
  · rw [hx]
    conv => whnf
    left
    conv => whnf
    refine Or.inl ?_
    conv => whnf
    try rfl
  · generalize listZ kind d d 1 0 k = xs at *
    conv => whnf
    left
    conv => whnf
    rw [hb]
    conv => whnf
    rw [show (ver == ver && 1 == 1) = true from by simp]
    conv => whnf
    refine ⟨by rw [ints_length]; omega, ?_⟩
    rw [ints_full rfl]
    have hbs : blocksR hp' (.sl b ver 1 0 xs.length) = [b] := by
      show (match hp'.getD b .hole with
        | .rw _ nx _ _ els => match nx with
          | false => [b]
          | true => b :: blocksW (blocksD 2 hp') ((els.drop 0).take xs.length)
        | _ => [b]) = [b]
      rw [hb]
    rw [hbs]
    conv => whnf
    rw [hb]
    conv => whnf
    refine setK_intro ?_
    conv => whnf
    try rfl
/-- What Witness says. -/
def wL (kind : Nat) (depth degree p q g r : Int) : List Int := if wE kind depth degree p q g r = 0 then listZ kind depth.toNat depth.toNat 1 0 (worstZ (fullR kind depth.toNat) depth.toNat r.toNat).2.1 else []
theorem worstZ_at (R : Nat → List Int) (d k : Nat) : (worstZ R d k).2.1 ≤ k := by
  have := gr_at (countZ R d) (k + 1) 0 0 0 true 0 (k + 1) (Nat.le_refl _) (by omega) (fun h => by cases h) (fun _ => by omega)
  unfold worstZ; omega
theorem Witness_pure (kind : Nat) (depth degree p q g r : Int) :
    Pure Go.Proofs.Try.prog 16 [scheme kind depth degree p q g, .v (.int .i64 r)] ⟨.tup [.ro (ints (wL kind depth degree p q g r)), .v (.int .i64 (wE kind depth degree p q g r))], []⟩ := by
  refine pure_sz pf eqOk_none (env_ok [38, 39, 43] rfl) fun _ => ⟨60, ?_⟩
  cases hv : validB kind depth degree p q g with
  | false =>
    have e1 : wE kind depth degree p q g r = 30 := by simp [wE, hv]
    have e2 : wL kind depth degree p q g r = [] := by simp [wL, e1]
    rw [e1, e2]
    conv => whnf
    refine ⟨_, asked_bad kind depth degree p q g r hv, ?_⟩
    conv => whnf
    left
    conv => whnf
    refine Or.inl ?_
    conv => whnf
    try rfl
  | true =>
    have hv2 := hv
    simp only [validB, decide_eq_true_eq] at hv
    obtain ⟨h1, h2, h3, h4, rfl, rfl, rfl, rfl⟩ := hv
    obtain ⟨d, rfl⟩ : ∃ d : Nat, depth = d := ⟨depth.toNat, by omega⟩
    by_cases hr : r < 0 ∨ r > ((2 ^ d : Nat) : Int)
    · have e1 : wE kind d 0 0 0 0 r = 2 := by unfold wE; rw [if_pos hv2, Int.toNat_natCast, if_pos hr]
      have e2 : wL kind d 0 0 0 0 r = [] := by simp [wL, e1]
      rw [e1, e2]
      conv => whnf
      refine ⟨_, asked_arg kind d r h1 h2 (by omega) hr, ?_⟩
      conv => whnf
      left
      conv => whnf
      refine Or.inl ?_
      conv => whnf
      try rfl
    · obtain ⟨k, rfl⟩ : ∃ k : Nat, r = k := ⟨r.toNat, by omega⟩
      have e1 : wE kind d 0 0 0 0 k = 0 := by unfold wE; rw [if_pos hv2, Int.toNat_natCast, if_neg hr]
      have e2 : wL kind d 0 0 0 0 k = listZ kind d d 1 0 (worstZ (fullR kind d) d k).2.1 := by unfold wL; rw [if_pos e1, Int.toNat_natCast, Int.toNat_natCast]
      rw [e1, e2]
      have hat := worstZ_at (fullR kind d) d k
      conv => whnf
      refine ⟨_, asked_ok kind d k h1 h2 (by omega) (by omega), ?_⟩
      conv => whnf
      refine ⟨_, worstp_pure kind d (statesN kind) (fullR kind d) k (by omega) (fullR_len kind d) (by omega), ?_⟩
      conv => whnf
      refine Or.inr ?_
      conv => whnf
      refine ⟨_, list_pure kind d _ h1 h2 (by omega) (by omega), ?_⟩
      conv => whnf
      left
      conv => whnf
      try rfl
end Go.YtoeophdffhmpmaaE
