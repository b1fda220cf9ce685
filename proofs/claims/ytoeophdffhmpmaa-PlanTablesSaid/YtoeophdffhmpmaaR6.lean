/- headendref10: asked, Worst, WitnessOf, Witness. -/
import Derived.Test.YtoeophdffhmpmaaR5
import Derived.Test.YtoeophdffhmpmaaP9
set_option linter.unusedVariables false
set_option linter.unusedSimpArgs false
set_option maxRecDepth 100000
set_option maxHeartbeats 1000000
namespace Go.YtoeophdffhmpmaaE
open Go Go.RowKit

theorem asked3_pure (kind : Nat) (depth degree p q g r : Int) :
    Pure Go.Proofs.Try.prog 40 [scheme kind depth degree p q g, .v (.int .i64 r)] ⟨.v (.int .i64 (wE kind depth degree p q g r)), []⟩ := by
  refine pure_sz pf eqOk_none (env_ok [49, 77] rfl) fun _ => ⟨60, ?_⟩
  cases hv : validB kind depth degree p q g with
  | false =>
    have e1 : wE kind depth degree p q g r = 30 := by simp [wE, hv]
    rw [e1]
    conv => whnf
    refine ⟨_, check3_pure kind depth degree p q g, ?_⟩
    rw [hv]
    conv => whnf
    left
    conv => whnf
    try rfl
  | true =>
    have hv2 := hv
    simp only [validB, decide_eq_true_eq] at hv
    obtain ⟨h1, h2, h3, h4, rfl, rfl, rfl, rfl⟩ := hv
    obtain ⟨d, rfl⟩ : ∃ d : Nat, depth = d := ⟨depth.toNat, by omega⟩
    conv => whnf
    refine ⟨_, check3_pure kind d 0 0 0 0, ?_⟩
    rw [hv2]
    conv => whnf
    refine cndK_intro (fun h => ?_) (fun h => ?_)
    · have hr : r < 0 ∨ r > ((2 ^ d : Nat) : Int) := by simp only [decide_eq_true_eq] at h; omega
      have e1 : wE kind d 0 0 0 0 r = 2 := by unfold wE; rw [if_pos hv2, Int.toNat_natCast, if_pos hr]
      rw [h, e1]
      conv => whnf
      left
      conv => whnf
      try rfl
    · rw [h]
      conv => whnf
      refine ⟨_, receivers_pure d (by omega), ?_⟩
      conv => whnf
      refine cndK_intro (fun h2 => ?_) (fun h2 => ?_)
      · have hr : r < 0 ∨ r > ((2 ^ d : Nat) : Int) := by simp only [decide_eq_true_eq] at h2; omega
        have e1 : wE kind d 0 0 0 0 r = 2 := by unfold wE; rw [if_pos hv2, Int.toNat_natCast, if_pos hr]
        rw [e1]
        conv => whnf
        left
        conv => whnf
        try rfl
      · have hr : ¬ (r < 0 ∨ r > ((2 ^ d : Nat) : Int)) := by simp only [decide_eq_false_iff_not] at h h2; omega
        have e1 : wE kind d 0 0 0 0 r = 0 := by unfold wE; rw [if_pos hv2, Int.toNat_natCast, if_neg hr]
        rw [e1]
        conv => whnf
        left
        conv => whnf
        try rfl
theorem statesN_pos (kind : Nat) : 0 < statesN kind := by unfold statesN; split <;> decide
theorem TZ_at (kind d s g : Nat) (hs : s < statesN kind) (hg : g ≤ d) : RowAt (TZ kind d) s g (lvl kind d g s) := by
  refine ⟨rowsZ kind d s (d + 1), by simp [TZ, hs], ?_⟩
  simp [rowsZ, show g < d + 1 by omega]
theorem greatest_worst (kind d r : Nat) : gr (fun k => if k = 0 then 1 else (lvl kind d d 0).getD k 0) (r + 1) 0 0 0 true = worstZ (fullR kind d) d r := by
  unfold worstZ
  congr 1
  funext k
  unfold countZ
  rw [fullR_row kind d 0 d (statesN_pos kind) (Nat.le_refl _)]
theorem greatestT_pure (kind d r : Nat) (hd : d ≤ 6) (hr : r ≤ 2 ^ d) :
    Pure Go.Proofs.Try.prog 41 [scheme kind d 0 0 0 0, .ro (nest3 (TZ kind d)), .v (.int .i64 r)]
      ⟨.tup [.v (.int .i64 (worstZ (fullR kind d) d r).1), .v (.int .i64 (worstZ (fullR kind d) d r).2.1)], []⟩ := by
  have := greatest3_pure kind d r (TZ kind d) (lvl kind d d 0) hd (TZ_at kind d 0 d (statesN_pos kind) (Nat.le_refl _)) (lvl_length ..) hr
  rw [greatest_worst] at this
  exact this
theorem Worst3_pure (kind : Nat) (depth degree p q g r : Int) :
    Pure Go.Proofs.Try.prog 15 [scheme kind depth degree p q g, .v (.int .i64 r)] ⟨.tup [.v (.int .i64 (wN kind depth degree p q g r)), .v (.int .i64 (wE kind depth degree p q g r))], []⟩ := by
  refine pure_sz pf eqOk_none (env_ok [40, 42, 41] rfl) fun _ => ⟨60, ?_⟩
  by_cases he : wE kind depth degree p q g r = 0
  · have hv : validB kind depth degree p q g = true := by
      cases hv : validB kind depth degree p q g with
      | true => rfl
      | false => simp [wE, hv] at he
    have hv2 := hv
    simp only [validB, decide_eq_true_eq] at hv
    obtain ⟨h1, h2, h3, h4, rfl, rfl, rfl, rfl⟩ := hv
    obtain ⟨d, rfl⟩ : ∃ d : Nat, depth = d := ⟨depth.toNat, by omega⟩
    have hr : ¬ (r < 0 ∨ r > ((2 ^ d : Nat) : Int)) := fun hr => by unfold wE at he; rw [if_pos hv2, Int.toNat_natCast, if_pos hr] at he; cases he
    obtain ⟨k, rfl⟩ : ∃ k : Nat, r = k := ⟨r.toNat, by omega⟩
    have e2 : wN kind d 0 0 0 0 k = (worstZ (fullR kind d) d k).1 := by unfold wN; rw [if_pos he, Int.toNat_natCast, Int.toNat_natCast]
    rw [e2]
    conv => whnf
    refine ⟨_, asked3_pure kind d 0 0 0 0 k, ?_⟩
    rw [he]
    conv => whnf
    refine Or.inl ⟨10, by kernel_rfl, ?_⟩
    conv => whnf
    refine ⟨_, TablesOf_pure kind d h1 h2 (by omega), ?_⟩
    conv => whnf
    refine ⟨_, greatestT_pure kind d k (by omega) (by omega), ?_⟩
    conv => whnf
    left
    conv => whnf
    try rfl
  · have e2 : wN kind depth degree p q g r = 0 := by unfold wN; rw [if_neg he]
    rw [e2]
    conv => whnf
    refine ⟨_, asked3_pure kind depth degree p q g r, ?_⟩
    conv => whnf
    rw [show (wE kind depth degree p q g r != 0) = true by simpa using he]
    conv => whnf
    left
    conv => whnf
    try rfl
theorem WitnessOf_pure (kind d k : Nat) (h1 : 1 ≤ kind) (h2 : kind ≤ 3) (hd : d ≤ 6) (hr : k ≤ 2 ^ d) :
    Pure Go.Proofs.Try.prog 44 [scheme kind d 0 0 0 0, .v (.int .i64 k)] ⟨.ro (ints (listZ kind d d 1 0 (worstZ (fullR kind d) d k).2.1)), []⟩ := by
  refine pure_sz pf eqOk_none (env_ok [42, 41, 84] rfl) fun _ => ⟨60, ?_⟩
  have hat := worstZ_at (fullR kind d) d k
  have hl := listed3_pure kind d (TZ kind d) h1 h2 hd (fun g hg s hs => TZ_at kind d s g hs hg) d 1 0 (worstZ (fullR kind d) d k).2.1 (Nat.le_refl _) (by
    match d, hd with
    | 0, _ | 1, _ | 2, _ | 3, _ | 4, _ | 5, _ | 6, _ => decide) (by decide) (fun _ => by omega) (by omega)
  conv => whnf
  refine ⟨_, TablesOf_pure kind d h1 h2 hd, ?_⟩
  conv => whnf
  refine ⟨_, greatestT_pure kind d k hd hr, ?_⟩
  conv => whnf
  refine ⟨_, hl, ?_⟩
  generalize listZ kind d d 1 0 (worstZ (fullR kind d) d k).2.1 = L
  by_cases hL : L = []
  · subst hL
    rw [lRes_nil]
    conv => whnf
    left
    conv => whnf
    refine Or.inl ?_
    conv => whnf
    try rfl
  · rw [lRes_ne hL]
    conv => whnf
    left
    conv => whnf
    refine ⟨by rw [ints_length]; omega, ?_⟩
    rw [ints_full rfl]
    conv => whnf
    try rfl
theorem Witness3_pure (kind : Nat) (depth degree p q g r : Int) :
    Pure Go.Proofs.Try.prog 17 [scheme kind depth degree p q g, .v (.int .i64 r)] ⟨.tup [.ro (ints (wL kind depth degree p q g r)), .v (.int .i64 (wE kind depth degree p q g r))], []⟩ := by
  refine pure_sz pf eqOk_none (env_ok [40, 44] rfl) fun _ => ⟨60, ?_⟩
  by_cases he : wE kind depth degree p q g r = 0
  · have hv : validB kind depth degree p q g = true := by
      cases hv : validB kind depth degree p q g with
      | true => rfl
      | false => simp [wE, hv] at he
    have hv2 := hv
    simp only [validB, decide_eq_true_eq] at hv
    obtain ⟨h1, h2, h3, h4, rfl, rfl, rfl, rfl⟩ := hv
    obtain ⟨d, rfl⟩ : ∃ d : Nat, depth = d := ⟨depth.toNat, by omega⟩
    have hr : ¬ (r < 0 ∨ r > ((2 ^ d : Nat) : Int)) := fun hr => by unfold wE at he; rw [if_pos hv2, Int.toNat_natCast, if_pos hr] at he; cases he
    obtain ⟨k, rfl⟩ : ∃ k : Nat, r = k := ⟨r.toNat, by omega⟩
    have e2 : wL kind d 0 0 0 0 k = listZ kind d d 1 0 (worstZ (fullR kind d) d k).2.1 := by unfold wL; rw [if_pos he, Int.toNat_natCast, Int.toNat_natCast]
    rw [e2]
    conv => whnf
    refine ⟨_, asked3_pure kind d 0 0 0 0 k, ?_⟩
    rw [he]
    conv => whnf
    refine ⟨_, WitnessOf_pure kind d k h1 h2 (by omega) (by omega), ?_⟩
    conv => whnf
    left
    conv => whnf
    try rfl
  · have e2 : wL kind depth degree p q g r = [] := by unfold wL; rw [if_neg he]
    rw [e2]
    conv => whnf
    refine ⟨_, asked3_pure kind depth degree p q g r, ?_⟩
    conv => whnf
    rw [show (wE kind depth degree p q g r != 0) = true by simpa using he]
    conv => whnf
    left
    conv => whnf
    refine Or.inl ?_
    conv => whnf
    try rfl
end Go.YtoeophdffhmpmaaE
