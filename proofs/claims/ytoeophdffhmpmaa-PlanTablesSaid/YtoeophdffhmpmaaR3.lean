/- headendref10: listed. -/
import Derived.Test.YtoeophdffhmpmaaR2
set_option linter.unusedVariables false
set_option linter.unusedSimpArgs false
set_option maxRecDepth 100000
set_option maxHeartbeats 4000000
namespace Go.YtoeophdffhmpmaaE
open Go Go.RowKit

/-- A row that a call hands back as its caller's own: nothing, or a block. -/
def lRes (L : List Int) : Res := if L = [] then ⟨.v (.slice none 0 0), []⟩ else ⟨.sl 0 0 1 0 L.length, [.rw false false 0 1 (ints L)]⟩
theorem lRes_nil : lRes [] = ⟨.v (.slice none 0 0), []⟩ := rfl
theorem lRes_ne {L : List Int} (h : L ≠ []) : lRes L = ⟨.sl 0 0 1 0 L.length, [.rw false false 0 1 (ints L)]⟩ := by rw [lRes, if_neg h]
theorem listZ_ne (kind d : Nat) : ∀ h node st k, k ≠ 0 → k ≤ 2 ^ h → listZ kind d h node st k ≠ [] := by
  intro h
  induction h with
  | zero => intro node st k h0 hk; rw [listZ, if_neg h0]; simp
  | succ g ih =>
    intro node st k h0 hk
    rw [listZ, if_neg h0]
    obtain ⟨a1, a2, a3⟩ := bestL_at kind d g st k hk
    by_cases ha : (bestL kind d g st k).2.1 = 0
    · intro h
      exact ih _ _ (k - (bestL kind d g st k).2.1) (by omega) a3 (List.append_eq_nil_iff.1 h).2
    · intro h
      exact ih _ _ _ ha a2 (List.append_eq_nil_iff.1 h).1
theorem listZ_zero (kind d h node st : Nat) : listZ kind d h node st 0 = [] := by cases h <;> rfl
theorem best3L_pure (kind d g st k : Nat) (T : List (List (List Int))) (h1 : 1 ≤ kind) (h3 : kind ≤ 3) (hs2 : kind = 2 → st ≤ 1) (hst : st < 4) (hh : g + 1 ≤ d) (hd : d ≤ 6)
    (hT : ∀ s, s < statesN kind → RowAt T s g (lvl kind d g s)) (hk : k ≤ 2 ^ (g + 1)) :
    Pure Go.Proofs.Try.prog 81 [scheme kind d 0 0 0 0, .ro (nest3 T), .v (.int .i64 st), .v (.int .i64 (g + 1 : Nat)), .v (.int .i64 k)] ⟨.tup [.v (.int .i64 (bestL kind d g st k).1), .v (.int .i64 (bestL kind d g st k).2.1)], []⟩ :=
  best3_pure kind d st g k T (lvl kind d g 0) (lvl kind d g (belowN kind d st (g + 1))) h1 h3 hs2 hst hh hd (hT 0 (states_pos kind)) (fun hne => hT _ (below_lt kind d st (g + 1) h1 h3 hne hst)) (lvl_length ..) (fun _ => lvl_length ..)
    (lvl_small kind d g 0 (by omega)) (fun _ => lvl_small kind d g _ (by omega)) hk
theorem next_le (kind d g st k a : Nat) (h3 : kind ≤ 3) (hst : st < 4) : (kind = 2 → nextN kind d g st k a ≤ 1) ∧ nextN kind d g st k a < 4 := by
  unfold nextN
  split
  · exact ⟨fun h => by subst h; exact Nat.le_refl 1, belowN_lt _ _ _ _ hst⟩
  · exact ⟨fun _ => Nat.zero_le _, by decide⟩
theorem listed3_pure (kind d : Nat) (T : List (List (List Int))) (hk1 : 1 ≤ kind) (hk3 : kind ≤ 3) (hd : d ≤ 6) (hT : ∀ g, g ≤ d → ∀ s, s < statesN kind → RowAt T s g (lvl kind d g s)) :
    ∀ (h node st k : Nat), h ≤ d → node + 1 ≤ 2 ^ (7 - h) → st < 4 → (kind = 2 → st ≤ 1) → k ≤ 2 ^ h →
      Pure Go.Proofs.Try.prog 84 [scheme kind d 0 0 0 0, .ro (nest3 T), .v (.int .i64 node), .v (.int .i64 st), .v (.int .i64 h), .v (.int .i64 k)] (lRes (listZ kind d h node st k)) := by
  intro h
  induction h with
  | zero =>
    intro node st k hh hnode hst hs2 hk
    refine pure_sz pf eqOk_none (env_ok [81, 111, 84, 77] rfl) fun _ => ⟨60, ?_⟩
    have hp6 := pow_le6 hd
    have hn128 : node + 1 ≤ 128 := hnode
    by_cases hk0 : k = 0
    · subst hk0
      rw [listZ_zero, lRes_nil]
      conv => whnf
      right
      refine ⟨[], ?_⟩
      conv => whnf
      try rfl
    · have hk1' : k = 1 := by have : 2 ^ 0 = 1 := rfl; omega
      subst hk1'
      rw [listZ, if_neg hk0, lRes_ne (by simp)]
      conv => whnf
      refine ⟨_, receivers_pure d hd, ?_⟩
      conv => whnf
      rw [wrap64 (n := (node : Int) - ((2 ^ d : Nat) : Int)) (by omega) (by omega)]
      right
      refine ⟨[1], ?_⟩
      conv => whnf
      try rfl
  | succ g ih =>
    intro node st k hh hnode hst hs2 hk
    refine pure_sz pf eqOk_none (env_ok [81, 111, 84, 77] rfl) fun _ => ⟨60, ?_⟩
    have hp6 := pow_le6 (show g ≤ 6 by omega)
    have hp2 : 2 ^ (g + 1) = 2 * 2 ^ g := by rw [Nat.pow_succ, Nat.mul_comm]
    have e7 : 2 ^ (7 - g) = 2 * 2 ^ (7 - (g + 1)) := by rw [show 7 - g = (7 - (g + 1)) + 1 by omega, Nat.pow_succ, Nat.mul_comm]
    have hn64 : 2 ^ (7 - (g + 1)) ≤ 64 := (pow_le6 (show 7 - (g + 1) ≤ 6 by omega)).2
    obtain ⟨a1, a2, a3⟩ := bestL_at kind d g st k hk
    have w1 : IntKind.i64.wrap (2 * (node : Int)) = ((2 * node : Nat) : Int) := by rw [wrap64 (by omega) (by omega)]; omega
    have w2 : IntKind.i64.wrap (((2 * node : Nat) : Int) + 1) = ((2 * node + 1 : Nat) : Int) := by rw [wrap64 (by omega) (by omega)]; omega
    have w3 : IntKind.i64.wrap (((g + 1 : Nat) : Int) - 1) = (g : Int) := by rw [wrap64 (by omega) (by omega)]; omega
    have w4 : IntKind.i64.wrap ((k : Int) - ((bestL kind d g st k).2.1 : Int)) = ((k - (bestL kind d g st k).2.1 : Nat) : Int) := by rw [wrap64 (by omega) (by omega)]; omega
    have hbest := best3L_pure kind d g st k T hk1 hk3 hs2 hst hh hd (hT g (by omega)) hk
    have hsum : k = (bestL kind d g st k).2.1 + (k - (bestL kind d g st k).2.1) := by omega
    have hL : k ≠ 0 → listZ kind d (g + 1) node st k = listZ kind d g (2 * node) (nextN kind d g st k (bestL kind d g st k).2.1) (bestL kind d g st k).2.1 ++
      listZ kind d g (2 * node + 1) (nextN kind d g st k (bestL kind d g st k).2.1) (k - (bestL kind d g st k).2.1) := fun h => by rw [listZ, if_neg h]
    by_cases hk0 : k = 0
    · subst hk0
      rw [listZ_zero, lRes_nil]
      conv => whnf
      right
      refine ⟨[], ?_⟩
      conv => whnf
      try rfl
    rw [hL hk0]
    generalize (bestL kind d g st k).2.1 = a at *
    generalize (bestL kind d g st k).1 = v at *
    obtain ⟨nx2, nx4⟩ := next_le kind d g st k a hk3 hst
    have c1 := ih (2 * node) (nextN kind d g st k a) a (by omega) (by omega) nx4 nx2 a2
    have c2 := ih (2 * node + 1) (nextN kind d g st k a) (k - a) (by omega) (by omega) nx4 nx2 a3
    have z1 := listZ_ne kind d g (2 * node) (nextN kind d g st k a) a
    have z2 := listZ_ne kind d g (2 * node + 1) (nextN kind d g st k a) (k - a)
    have y1 := listZ_length kind d g (2 * node) (nextN kind d g st k a) a
    have y2 := listZ_length kind d g (2 * node + 1) (nextN kind d g st k a) (k - a)
    have x1 : a = 0 → listZ kind d g (2 * node) (nextN kind d g st k a) a = [] := fun h => by rw [h]; exact listZ_zero ..
    have x2 : k - a = 0 → listZ kind d g (2 * node + 1) (nextN kind d g st k a) (k - a) = [] := fun h => by rw [h]; exact listZ_zero ..
    generalize hL1 : listZ kind d g (2 * node) (nextN kind d g st k a) a = L1 at *
    generalize hL2 : listZ kind d g (2 * node + 1) (nextN kind d g st k a) (k - a) = L2 at *
    clear hL hL1 hL2
    conv => whnf
    refine cndK_intro (fun h1 => ?_) (fun h1 => ?_)
    · exact absurd (by simp at h1; omega) hk0
    conv => whnf
    refine ⟨_, hbest, ?_⟩
    conv => whnf
    refine cndK_intro (fun h2 => ?_) (fun h2 => ?_)
    rotate_left
    · have hnx : nextN kind d g st k a = 0 := by
        unfold nextN; rw [if_neg]; simp at h2; intro h; exact h.1 (by omega)
      rw [hnx] at c1 c2
      try rw [h2]
      conv => whnf
      rw [w1, w3]
      refine ⟨_, c1, ?_⟩
      by_cases hL1 : L1 = []
      · subst hL1
        rw [lRes_nil]
        have hL2 : L2 ≠ [] := fun h => by
          have ha0 : a = 0 := Classical.byContradiction fun h' => z1 h' a2 rfl
          exact z2 (by omega) a3 h
        conv => whnf
        rw [w1, w2, w3, w4]
        refine ⟨_, c2, ?_⟩
        rw [lRes_ne hL2]
        conv => whnf
        refine ⟨by rw [ints_length]; omega, ?_⟩
        rw [ints_full rfl]
        conv => whnf
        refine ⟨fun h => absurd h (by intro h'; exact hL2 (by simpa [ints] using h')), fun _ => ⟨⟨by rw [ints_length]; show ((L2.length : Nat) : Int) * ((8 : Nat) : Int) ≤ 70368744177664; omega, intsAll rfl⟩, ?_⟩⟩
        conv => whnf
        rw [ints_length, List.nil_append, lRes_ne hL2]
        right
        refine ⟨[2], ?_⟩
        conv => whnf
        try rfl
      · rw [lRes_ne hL1]
        conv => whnf
        rw [w1, w2, w3, w4]
        refine ⟨_, c2, ?_⟩
        by_cases hL2 : L2 = []
        · subst hL2
          rw [lRes_nil]
          conv => whnf
          refine ⟨⟨rfl, by rw [ints_length]; exact Nat.le_refl _, by show ((L1.length + 0 : Nat) : Int) * ((8 : Nat) : Int) ≤ 70368744177664; omega, fun c hc => by cases hc⟩, ints L1, ?_, ?_⟩
          · rw [List.take_of_length_le (by rw [ints_length]; exact Nat.le_refl _), List.append_nil]
          · conv => whnf
            rw [List.append_nil, lRes_ne hL1]
            right
            refine ⟨[1], ?_⟩
            conv => whnf
            try rfl
        · rw [lRes_ne hL2]
          conv => whnf
          refine ⟨by rw [ints_length]; omega, ?_⟩
          rw [ints_full rfl]
          conv => whnf
          refine ⟨⟨rfl, by rw [ints_length]; exact Nat.le_refl _, by rw [ints_length]; show ((L1.length + L2.length : Nat) : Int) * ((8 : Nat) : Int) ≤ 70368744177664; omega, intsAll rfl⟩, ints (L1 ++ L2), ?_, ?_⟩
          · rw [List.take_of_length_le (by rw [ints_length]; exact Nat.le_refl _)]; simp [ints]
          · conv => whnf
            rw [ints_length, lRes_ne (by simp [hL1])]
            right
            refine ⟨[1], ?_⟩
            conv => whnf
            rw [List.length_append]
            try rfl
    · rw [h2]
      have hne : kind ≠ 1 := by simp at h2; omega
      conv => whnf
      refine cndK_intro (fun h3 => ?_) (fun h3 => ?_)
      · have hnx : nextN kind d g st k a = belowN kind d st (g + 1) := by
          unfold nextN; rw [if_pos]; simp at h3; exact ⟨hne, by omega⟩
        rw [hnx] at c1 c2
        rw [h3]
        conv => whnf
        refine ⟨_, below3_pure kind d st (g + 1) (by omega) hst hh hd, ?_⟩
        conv => whnf
        rw [w1, w3]
        refine ⟨_, c1, ?_⟩
        by_cases hL1 : L1 = []
        · subst hL1
          rw [lRes_nil]
          have hL2 : L2 ≠ [] := fun h => by
            have ha0 : a = 0 := Classical.byContradiction fun h' => z1 h' a2 rfl
            exact z2 (by omega) a3 h
          conv => whnf
          rw [w1, w2, w3, w4]
          refine ⟨_, c2, ?_⟩
          rw [lRes_ne hL2]
          conv => whnf
          refine ⟨by rw [ints_length]; omega, ?_⟩
          rw [ints_full rfl]
          conv => whnf
          refine ⟨fun h => absurd h (by intro h'; exact hL2 (by simpa [ints] using h')), fun _ => ⟨⟨by rw [ints_length]; show ((L2.length : Nat) : Int) * ((8 : Nat) : Int) ≤ 70368744177664; omega, intsAll rfl⟩, ?_⟩⟩
          conv => whnf
          rw [ints_length, List.nil_append, lRes_ne hL2]
          right
          refine ⟨[2], ?_⟩
          conv => whnf
          try rfl
        · rw [lRes_ne hL1]
          conv => whnf
          rw [w1, w2, w3, w4]
          refine ⟨_, c2, ?_⟩
          by_cases hL2 : L2 = []
          · subst hL2
            rw [lRes_nil]
            conv => whnf
            refine ⟨⟨rfl, by rw [ints_length]; exact Nat.le_refl _, by show ((L1.length + 0 : Nat) : Int) * ((8 : Nat) : Int) ≤ 70368744177664; omega, fun c hc => by cases hc⟩, ints L1, ?_, ?_⟩
            · rw [List.take_of_length_le (by rw [ints_length]; exact Nat.le_refl _), List.append_nil]
            · conv => whnf
              rw [List.append_nil, lRes_ne hL1]
              right
              refine ⟨[1], ?_⟩
              conv => whnf
              try rfl
          · rw [lRes_ne hL2]
            conv => whnf
            refine ⟨by rw [ints_length]; omega, ?_⟩
            rw [ints_full rfl]
            conv => whnf
            refine ⟨⟨rfl, by rw [ints_length]; exact Nat.le_refl _, by rw [ints_length]; show ((L1.length + L2.length : Nat) : Int) * ((8 : Nat) : Int) ≤ 70368744177664; omega, intsAll rfl⟩, ints (L1 ++ L2), ?_, ?_⟩
            · rw [List.take_of_length_le (by rw [ints_length]; exact Nat.le_refl _)]; simp [ints]
            · conv => whnf
              rw [ints_length, lRes_ne (by simp [hL1])]
              right
              refine ⟨[1], ?_⟩
              conv => whnf
              rw [List.length_append]
              try rfl
      · rw [h3]
        conv => whnf
        refine cndK_intro (fun h4 => ?_) (fun h4 => ?_)
        · have hnx : nextN kind d g st k a = belowN kind d st (g + 1) := by
            unfold nextN; rw [if_pos]; simp at h4; exact ⟨hne, by omega⟩
          rw [hnx] at c1 c2
          try rw [h4]
          conv => whnf
          refine ⟨_, below3_pure kind d st (g + 1) (by omega) hst hh hd, ?_⟩
          conv => whnf
          rw [w1, w3]
          refine ⟨_, c1, ?_⟩
          by_cases hL1 : L1 = []
          · subst hL1
            rw [lRes_nil]
            have hL2 : L2 ≠ [] := fun h => by
              have ha0 : a = 0 := Classical.byContradiction fun h' => z1 h' a2 rfl
              exact z2 (by omega) a3 h
            conv => whnf
            rw [w1, w2, w3, w4]
            refine ⟨_, c2, ?_⟩
            rw [lRes_ne hL2]
            conv => whnf
            refine ⟨by rw [ints_length]; omega, ?_⟩
            rw [ints_full rfl]
            conv => whnf
            refine ⟨fun h => absurd h (by intro h'; exact hL2 (by simpa [ints] using h')), fun _ => ⟨⟨by rw [ints_length]; show ((L2.length : Nat) : Int) * ((8 : Nat) : Int) ≤ 70368744177664; omega, intsAll rfl⟩, ?_⟩⟩
            conv => whnf
            rw [ints_length, List.nil_append, lRes_ne hL2]
            right
            refine ⟨[2], ?_⟩
            conv => whnf
            try rfl
          · rw [lRes_ne hL1]
            conv => whnf
            rw [w1, w2, w3, w4]
            refine ⟨_, c2, ?_⟩
            by_cases hL2 : L2 = []
            · subst hL2
              rw [lRes_nil]
              conv => whnf
              refine ⟨⟨rfl, by rw [ints_length]; exact Nat.le_refl _, by show ((L1.length + 0 : Nat) : Int) * ((8 : Nat) : Int) ≤ 70368744177664; omega, fun c hc => by cases hc⟩, ints L1, ?_, ?_⟩
              · rw [List.take_of_length_le (by rw [ints_length]; exact Nat.le_refl _), List.append_nil]
              · conv => whnf
                rw [List.append_nil, lRes_ne hL1]
                right
                refine ⟨[1], ?_⟩
                conv => whnf
                try rfl
            · rw [lRes_ne hL2]
              conv => whnf
              refine ⟨by rw [ints_length]; omega, ?_⟩
              rw [ints_full rfl]
              conv => whnf
              refine ⟨⟨rfl, by rw [ints_length]; exact Nat.le_refl _, by rw [ints_length]; show ((L1.length + L2.length : Nat) : Int) * ((8 : Nat) : Int) ≤ 70368744177664; omega, intsAll rfl⟩, ints (L1 ++ L2), ?_, ?_⟩
              · rw [List.take_of_length_le (by rw [ints_length]; exact Nat.le_refl _)]; simp [ints]
              · conv => whnf
                rw [ints_length, lRes_ne (by simp [hL1])]
                right
                refine ⟨[1], ?_⟩
                conv => whnf
                rw [List.length_append]
                try rfl
        · have hnx : nextN kind d g st k a = 0 := by
            unfold nextN; rw [if_neg]; simp at h3 h4; omega
          rw [hnx] at c1 c2
          try rw [h4]
          conv => whnf
          rw [w1, w3]
          refine ⟨_, c1, ?_⟩
          by_cases hL1 : L1 = []
          · subst hL1
            rw [lRes_nil]
            have hL2 : L2 ≠ [] := fun h => by
              have ha0 : a = 0 := Classical.byContradiction fun h' => z1 h' a2 rfl
              exact z2 (by omega) a3 h
            conv => whnf
            rw [w1, w2, w3, w4]
            refine ⟨_, c2, ?_⟩
            rw [lRes_ne hL2]
            conv => whnf
            refine ⟨by rw [ints_length]; omega, ?_⟩
            rw [ints_full rfl]
            conv => whnf
            refine ⟨fun h => absurd h (by intro h'; exact hL2 (by simpa [ints] using h')), fun _ => ⟨⟨by rw [ints_length]; show ((L2.length : Nat) : Int) * ((8 : Nat) : Int) ≤ 70368744177664; omega, intsAll rfl⟩, ?_⟩⟩
            conv => whnf
            rw [ints_length, List.nil_append, lRes_ne hL2]
            right
            refine ⟨[2], ?_⟩
            conv => whnf
            try rfl
          · rw [lRes_ne hL1]
            conv => whnf
            rw [w1, w2, w3, w4]
            refine ⟨_, c2, ?_⟩
            by_cases hL2 : L2 = []
            · subst hL2
              rw [lRes_nil]
              conv => whnf
              refine ⟨⟨rfl, by rw [ints_length]; exact Nat.le_refl _, by show ((L1.length + 0 : Nat) : Int) * ((8 : Nat) : Int) ≤ 70368744177664; omega, fun c hc => by cases hc⟩, ints L1, ?_, ?_⟩
              · rw [List.take_of_length_le (by rw [ints_length]; exact Nat.le_refl _), List.append_nil]
              · conv => whnf
                rw [List.append_nil, lRes_ne hL1]
                right
                refine ⟨[1], ?_⟩
                conv => whnf
                try rfl
            · rw [lRes_ne hL2]
              conv => whnf
              refine ⟨by rw [ints_length]; omega, ?_⟩
              rw [ints_full rfl]
              conv => whnf
              refine ⟨⟨rfl, by rw [ints_length]; exact Nat.le_refl _, by rw [ints_length]; show ((L1.length + L2.length : Nat) : Int) * ((8 : Nat) : Int) ≤ 70368744177664; omega, intsAll rfl⟩, ints (L1 ++ L2), ?_, ?_⟩
              · rw [List.take_of_length_le (by rw [ints_length]; exact Nat.le_refl _)]; simp [ints]
              · conv => whnf
                rw [ints_length, lRes_ne (by simp [hL1])]
                right
                refine ⟨[1], ?_⟩
                conv => whnf
                rw [List.length_append]
                try rfl
end Go.YtoeophdffhmpmaaE
