/- headendref10: TablesOf, the end. -/
import Derived.Test.YtoeophdffhmpmaaR4
set_option linter.unusedVariables false
set_option linter.unusedSimpArgs false
set_option maxRecDepth 100000
set_option maxHeartbeats 4000000
namespace Go.YtoeophdffhmpmaaE
open Go Go.RowKit

theorem to_first_1 (d : Nat) (hd : d ≤ 6) (Kf : A → List Blk → Prop)
    (hKf : Kf (A.sl 1 0 1 0 1) (toHp1 d (d + 1)))
    (hL : ∀ K : K, (∀ ts j, ts = mkJ 90 [(1, .pt 0 0 0 0 0), (3, .sl 1 0 1 0 1)] j → K (.exit 0) ts (toHp1 d (d + 1)) []) → loopF (run Go.Proofs.Try.prog (fun _ => none) (envL Go.Proofs.Try.prog toEnv) 593) 0 0 (loopB Go.Proofs.Try.prog 42 0) (mkT 90 [(1, .pt 0 0 0 0 0), (3, .sl 1 0 1 0 1), (4, .v (.int .i64 1))]) (toHp1 d 1) [] K) :
    fnK Go.Proofs.Try.prog (fun _ => none) (envL Go.Proofs.Try.prog toEnv) 42 600 [scheme 1 d 0 0 0 0] Kf := by
  conv => whnf
  refine ⟨_, (show Pure _ _ _ ⟨.v (.int .i64 ((1 : Nat) : Int)), []⟩ from states_pure 1 (by decide)), ?_⟩
  conv => whnf
  refine ⟨⟨by decide, by decide, by show ((1 : Nat) : Int) * ((24 : Nat) : Int) ≤ 70368744177664; decide⟩, ?_⟩
  conv => whnf
  refine wk_none ?_
  conv => whnf
  refine wk_none ?_
  conv => whnf
  refine Or.inl ⟨12, by kernel_rfl, ?_⟩
  conv => whnf
  refine ⟨⟨by decide, by decide⟩, ?_⟩
  conv => whnf
  refine ⟨by decide, ?_⟩
  conv => whnf
  rw [show (IntKind.i64.wrap (1 + IntKind.i64.wrap (1 * 2 ^ min (IntKind.u64.wrap 0).toNat IntKind.i64.bits))) = ((2 : Nat) : Int) from by decide]
  refine ⟨⟨by decide, by decide, by decide⟩, ?_⟩
  conv => whnf
  refine ⟨by decide, ?_⟩
  conv => whnf
  refine ⟨Nat.le_refl 1, ?_⟩
  conv => whnf
  refine ⟨fun h => (by cases h), fun _ => ⟨⟨by decide, by simp [cellsOf]⟩, ?_⟩⟩
  conv => whnf
  refine ⟨⟨by decide, by decide⟩, ?_⟩
  conv => whnf
  refine wk_none ?_
  conv => whnf
  refine wk_none ?_
  conv => whnf
  refine wk_none ?_
  conv => whnf
  refine ⟨by decide, ?_⟩
  conv => whnf
  refine Or.inl ⟨14, by kernel_rfl, ?_⟩
  conv => whnf
  refine ⟨⟨by decide, by decide⟩, ?_⟩
  conv => whnf
  refine ⟨⟨by decide, by decide⟩, ?_⟩
  conv => whnf
  refine ⟨_, start_pure 1 0 0 (by decide) (by decide) (by decide), ?_⟩
  conv => whnf
  refine ⟨⟨by decide, by decide⟩, ?_⟩
  conv => whnf
  refine wk_none ?_
  conv => whnf
  refine ⟨by decide, ?_⟩
  conv => whnf
  refine Or.inl ⟨14, by kernel_rfl, ?_⟩
  conv => whnf
  refine ⟨⟨by decide, by decide⟩, ?_⟩
  conv => whnf
  refine ⟨⟨by decide, by decide⟩, ?_⟩
  conv => whnf
  refine ⟨_, start_pure 1 0 1 (by decide) (by decide) (by decide), ?_⟩
  conv => whnf
  refine ⟨⟨by decide, by decide⟩, ?_⟩
  conv => whnf
  refine wk_none ?_
  conv => whnf
  refine ⟨by decide, ?_⟩
  conv => whnf
  refine wk_none ?_
  conv => whnf
  refine wk_then (ts1 := (mkT 90 [(1, .pt 0 0 0 0 0), (3, .sl 1 0 1 0 1), (4, .v (.int .i64 1))])) (hp1 := toHz1 d) (lp1 := []) (.gc (some ⟨[false, true, false, true, true], [0,1,2,4], 0⟩) ?_) ?_
  · exact ⟨rfl, rfl, rfl⟩
  refine to_endz_1 d 1 ?_
  refine hL _ fun ts j e => ?_
  subst e
  conv => whnf
  exact hKf
theorem TablesOf_1 (d : Nat) (hd : d ≤ 6) : Pure Go.Proofs.Try.prog 42 [scheme 1 d 0 0 0 0] ⟨.ro (nest3 (TZ 1 d)), []⟩ := by
  refine pure_sz pf eqOk_none (env_ok [79, 80, 81] rfl) fun _ => ⟨600, ?_⟩
  refine to_first_1 d hd _ ?_ fun Kq hKq => to_loop_1 _ d hd Kq d 1 593 (by omega) (by omega) (by omega) fun j => hKq _ j rfl
  conv => whnf
  left
  conv => whnf
  refine ⟨Nat.le_refl _, Or.inl ?_⟩
  conv => whnf
  refine ⟨by rw [nest2_length, rowsZ_length]; omega, ?_⟩
  conv => whnf
  have e : ∀ s, List.take (d + 1) (List.drop 0 (nest2 (rowsZ 1 d s (d + 1)))) = nest2 (rowsZ 1 d s (d + 1)) := fun s => by
    rw [List.drop_zero, List.take_of_length_le (by rw [nest2_length, rowsZ_length]; exact Nat.le_refl _)]
  simp only [e]
  rfl
theorem to_first_2 (d : Nat) (hd : d ≤ 6) (Kf : A → List Blk → Prop)
    (hKf : Kf (A.sl 1 0 1 0 2) (toHp2 d (d + 1)))
    (hL : ∀ K : K, (∀ ts j, ts = mkJ 90 [(1, .pt 0 0 0 0 0), (3, .sl 1 0 1 0 2)] j → K (.exit 0) ts (toHp2 d (d + 1)) []) → loopF (run Go.Proofs.Try.prog (fun _ => none) (envL Go.Proofs.Try.prog toEnv) 593) 0 0 (loopB Go.Proofs.Try.prog 42 0) (mkT 90 [(1, .pt 0 0 0 0 0), (3, .sl 1 0 1 0 2), (4, .v (.int .i64 1))]) (toHp2 d 1) [] K) :
    fnK Go.Proofs.Try.prog (fun _ => none) (envL Go.Proofs.Try.prog toEnv) 42 600 [scheme 2 d 0 0 0 0] Kf := by
  conv => whnf
  refine ⟨_, (show Pure _ _ _ ⟨.v (.int .i64 ((2 : Nat) : Int)), []⟩ from states_pure 2 (by decide)), ?_⟩
  conv => whnf
  refine ⟨⟨by decide, by decide, by show ((2 : Nat) : Int) * ((24 : Nat) : Int) ≤ 70368744177664; decide⟩, ?_⟩
  conv => whnf
  refine wk_none ?_
  conv => whnf
  refine wk_none ?_
  conv => whnf
  refine Or.inl ⟨12, by kernel_rfl, ?_⟩
  conv => whnf
  refine ⟨⟨by decide, by decide⟩, ?_⟩
  conv => whnf
  refine ⟨by decide, ?_⟩
  conv => whnf
  rw [show (IntKind.i64.wrap (1 + IntKind.i64.wrap (1 * 2 ^ min (IntKind.u64.wrap 0).toNat IntKind.i64.bits))) = ((2 : Nat) : Int) from by decide]
  refine ⟨⟨by decide, by decide, by decide⟩, ?_⟩
  conv => whnf
  refine ⟨by decide, ?_⟩
  conv => whnf
  refine ⟨Nat.le_refl 1, ?_⟩
  conv => whnf
  refine ⟨fun h => (by cases h), fun _ => ⟨⟨by decide, by simp [cellsOf]⟩, ?_⟩⟩
  conv => whnf
  refine ⟨⟨by decide, by decide⟩, ?_⟩
  conv => whnf
  refine wk_none ?_
  conv => whnf
  refine Or.inl ⟨12, by kernel_rfl, ?_⟩
  conv => whnf
  refine ⟨⟨by decide, by decide⟩, ?_⟩
  conv => whnf
  refine ⟨by decide, ?_⟩
  conv => whnf
  rw [show (IntKind.i64.wrap (1 + IntKind.i64.wrap (1 * 2 ^ min (IntKind.u64.wrap 0).toNat IntKind.i64.bits))) = ((2 : Nat) : Int) from by decide]
  refine ⟨⟨by decide, by decide, by decide⟩, ?_⟩
  conv => whnf
  refine ⟨by decide, ?_⟩
  conv => whnf
  refine ⟨Nat.le_refl 1, ?_⟩
  conv => whnf
  refine ⟨fun h => (by cases h), fun _ => ⟨⟨by decide, by simp [cellsOf]⟩, ?_⟩⟩
  conv => whnf
  refine ⟨⟨by decide, by decide⟩, ?_⟩
  conv => whnf
  refine wk_none ?_
  conv => whnf
  refine wk_none ?_
  conv => whnf
  refine wk_none ?_
  conv => whnf
  refine ⟨by decide, ?_⟩
  conv => whnf
  refine Or.inl ⟨14, by kernel_rfl, ?_⟩
  conv => whnf
  refine ⟨⟨by decide, by decide⟩, ?_⟩
  conv => whnf
  refine ⟨⟨by decide, by decide⟩, ?_⟩
  conv => whnf
  refine ⟨_, start_pure 2 0 0 (by decide) (by decide) (by decide), ?_⟩
  conv => whnf
  refine ⟨⟨by decide, by decide⟩, ?_⟩
  conv => whnf
  refine wk_none ?_
  conv => whnf
  refine ⟨by decide, ?_⟩
  conv => whnf
  refine Or.inl ⟨14, by kernel_rfl, ?_⟩
  conv => whnf
  refine ⟨⟨by decide, by decide⟩, ?_⟩
  conv => whnf
  refine ⟨⟨by decide, by decide⟩, ?_⟩
  conv => whnf
  refine ⟨_, start_pure 2 0 1 (by decide) (by decide) (by decide), ?_⟩
  conv => whnf
  refine ⟨⟨by decide, by decide⟩, ?_⟩
  conv => whnf
  refine wk_none ?_
  conv => whnf
  refine ⟨by decide, ?_⟩
  conv => whnf
  refine wk_none ?_
  conv => whnf
  refine wk_none ?_
  conv => whnf
  refine ⟨by decide, ?_⟩
  conv => whnf
  refine Or.inl ⟨14, by kernel_rfl, ?_⟩
  conv => whnf
  refine ⟨⟨by decide, by decide⟩, ?_⟩
  conv => whnf
  refine ⟨⟨by decide, by decide⟩, ?_⟩
  conv => whnf
  refine ⟨_, start_pure 2 1 0 (by decide) (by decide) (by decide), ?_⟩
  conv => whnf
  refine ⟨⟨by decide, by decide⟩, ?_⟩
  conv => whnf
  refine wk_none ?_
  conv => whnf
  refine ⟨by decide, ?_⟩
  conv => whnf
  refine Or.inl ⟨14, by kernel_rfl, ?_⟩
  conv => whnf
  refine ⟨⟨by decide, by decide⟩, ?_⟩
  conv => whnf
  refine ⟨⟨by decide, by decide⟩, ?_⟩
  conv => whnf
  refine ⟨_, start_pure 2 1 1 (by decide) (by decide) (by decide), ?_⟩
  conv => whnf
  refine ⟨⟨by decide, by decide⟩, ?_⟩
  conv => whnf
  refine wk_none ?_
  conv => whnf
  refine ⟨by decide, ?_⟩
  conv => whnf
  refine wk_none ?_
  conv => whnf
  refine wk_then (ts1 := (mkT 90 [(1, .pt 0 0 0 0 0), (3, .sl 1 0 1 0 2), (4, .v (.int .i64 1))])) (hp1 := toHz2 d) (lp1 := []) (.gc (some ⟨[false, true, false, true, true], [0,1,2,4,5,7], 0⟩) ?_) ?_
  · exact ⟨rfl, rfl, rfl⟩
  refine to_endz_2 d 1 ?_
  refine hL _ fun ts j e => ?_
  subst e
  conv => whnf
  exact hKf
theorem TablesOf_2 (d : Nat) (hd : d ≤ 6) : Pure Go.Proofs.Try.prog 42 [scheme 2 d 0 0 0 0] ⟨.ro (nest3 (TZ 2 d)), []⟩ := by
  refine pure_sz pf eqOk_none (env_ok [79, 80, 81] rfl) fun _ => ⟨600, ?_⟩
  refine to_first_2 d hd _ ?_ fun Kq hKq => to_loop_2 _ d hd Kq d 1 593 (by omega) (by omega) (by omega) fun j => hKq _ j rfl
  conv => whnf
  left
  conv => whnf
  refine ⟨Nat.le_refl _, Or.inl ?_⟩
  conv => whnf
  refine ⟨by rw [nest2_length, rowsZ_length]; omega, ?_⟩
  conv => whnf
  refine ⟨by rw [nest2_length, rowsZ_length]; omega, ?_⟩
  conv => whnf
  have e : ∀ s, List.take (d + 1) (List.drop 0 (nest2 (rowsZ 2 d s (d + 1)))) = nest2 (rowsZ 2 d s (d + 1)) := fun s => by
    rw [List.drop_zero, List.take_of_length_le (by rw [nest2_length, rowsZ_length]; exact Nat.le_refl _)]
  simp only [e]
  rfl
theorem to_first_3 (d : Nat) (hd : d ≤ 6) (Kf : A → List Blk → Prop)
    (hKf : Kf (A.sl 1 0 1 0 4) (toHp3 d (d + 1)))
    (hL : ∀ K : K, (∀ ts j, ts = mkJ 90 [(1, .pt 0 0 0 0 0), (3, .sl 1 0 1 0 4)] j → K (.exit 0) ts (toHp3 d (d + 1)) []) → loopF (run Go.Proofs.Try.prog (fun _ => none) (envL Go.Proofs.Try.prog toEnv) 593) 0 0 (loopB Go.Proofs.Try.prog 42 0) (mkT 90 [(1, .pt 0 0 0 0 0), (3, .sl 1 0 1 0 4), (4, .v (.int .i64 1))]) (toHp3 d 1) [] K) :
    fnK Go.Proofs.Try.prog (fun _ => none) (envL Go.Proofs.Try.prog toEnv) 42 600 [scheme 3 d 0 0 0 0] Kf := by
  conv => whnf
  refine ⟨_, (show Pure _ _ _ ⟨.v (.int .i64 ((4 : Nat) : Int)), []⟩ from states_pure 3 (by decide)), ?_⟩
  conv => whnf
  refine ⟨⟨by decide, by decide, by show ((4 : Nat) : Int) * ((24 : Nat) : Int) ≤ 70368744177664; decide⟩, ?_⟩
  conv => whnf
  refine wk_none ?_
  conv => whnf
  refine wk_none ?_
  conv => whnf
  refine Or.inl ⟨12, by kernel_rfl, ?_⟩
  conv => whnf
  refine ⟨⟨by decide, by decide⟩, ?_⟩
  conv => whnf
  refine ⟨by decide, ?_⟩
  conv => whnf
  rw [show (IntKind.i64.wrap (1 + IntKind.i64.wrap (1 * 2 ^ min (IntKind.u64.wrap 0).toNat IntKind.i64.bits))) = ((2 : Nat) : Int) from by decide]
  refine ⟨⟨by decide, by decide, by decide⟩, ?_⟩
  conv => whnf
  refine ⟨by decide, ?_⟩
  conv => whnf
  refine ⟨Nat.le_refl 1, ?_⟩
  conv => whnf
  refine ⟨fun h => (by cases h), fun _ => ⟨⟨by decide, by simp [cellsOf]⟩, ?_⟩⟩
  conv => whnf
  refine ⟨⟨by decide, by decide⟩, ?_⟩
  conv => whnf
  refine wk_none ?_
  conv => whnf
  refine Or.inl ⟨12, by kernel_rfl, ?_⟩
  conv => whnf
  refine ⟨⟨by decide, by decide⟩, ?_⟩
  conv => whnf
  refine ⟨by decide, ?_⟩
  conv => whnf
  rw [show (IntKind.i64.wrap (1 + IntKind.i64.wrap (1 * 2 ^ min (IntKind.u64.wrap 0).toNat IntKind.i64.bits))) = ((2 : Nat) : Int) from by decide]
  refine ⟨⟨by decide, by decide, by decide⟩, ?_⟩
  conv => whnf
  refine ⟨by decide, ?_⟩
  conv => whnf
  refine ⟨Nat.le_refl 1, ?_⟩
  conv => whnf
  refine ⟨fun h => (by cases h), fun _ => ⟨⟨by decide, by simp [cellsOf]⟩, ?_⟩⟩
  conv => whnf
  refine ⟨⟨by decide, by decide⟩, ?_⟩
  conv => whnf
  refine wk_none ?_
  conv => whnf
  refine Or.inl ⟨12, by kernel_rfl, ?_⟩
  conv => whnf
  refine ⟨⟨by decide, by decide⟩, ?_⟩
  conv => whnf
  refine ⟨by decide, ?_⟩
  conv => whnf
  rw [show (IntKind.i64.wrap (1 + IntKind.i64.wrap (1 * 2 ^ min (IntKind.u64.wrap 0).toNat IntKind.i64.bits))) = ((2 : Nat) : Int) from by decide]
  refine ⟨⟨by decide, by decide, by decide⟩, ?_⟩
  conv => whnf
  refine ⟨by decide, ?_⟩
  conv => whnf
  refine ⟨Nat.le_refl 1, ?_⟩
  conv => whnf
  refine ⟨fun h => (by cases h), fun _ => ⟨⟨by decide, by simp [cellsOf]⟩, ?_⟩⟩
  conv => whnf
  refine ⟨⟨by decide, by decide⟩, ?_⟩
  conv => whnf
  refine wk_none ?_
  conv => whnf
  refine Or.inl ⟨12, by kernel_rfl, ?_⟩
  conv => whnf
  refine ⟨⟨by decide, by decide⟩, ?_⟩
  conv => whnf
  refine ⟨by decide, ?_⟩
  conv => whnf
  rw [show (IntKind.i64.wrap (1 + IntKind.i64.wrap (1 * 2 ^ min (IntKind.u64.wrap 0).toNat IntKind.i64.bits))) = ((2 : Nat) : Int) from by decide]
  refine ⟨⟨by decide, by decide, by decide⟩, ?_⟩
  conv => whnf
  refine ⟨by decide, ?_⟩
  conv => whnf
  refine ⟨Nat.le_refl 1, ?_⟩
  conv => whnf
  refine ⟨fun h => (by cases h), fun _ => ⟨⟨by decide, by simp [cellsOf]⟩, ?_⟩⟩
  conv => whnf
  refine ⟨⟨by decide, by decide⟩, ?_⟩
  conv => whnf
  refine wk_none ?_
  conv => whnf
  refine wk_none ?_
  conv => whnf
  refine wk_none ?_
  conv => whnf
  refine ⟨by decide, ?_⟩
  conv => whnf
  refine Or.inl ⟨14, by kernel_rfl, ?_⟩
  conv => whnf
  refine ⟨⟨by decide, by decide⟩, ?_⟩
  conv => whnf
  refine ⟨⟨by decide, by decide⟩, ?_⟩
  conv => whnf
  refine ⟨_, start_pure 3 0 0 (by decide) (by decide) (by decide), ?_⟩
  conv => whnf
  refine ⟨⟨by decide, by decide⟩, ?_⟩
  conv => whnf
  refine wk_none ?_
  conv => whnf
  refine ⟨by decide, ?_⟩
  conv => whnf
  refine Or.inl ⟨14, by kernel_rfl, ?_⟩
  conv => whnf
  refine ⟨⟨by decide, by decide⟩, ?_⟩
  conv => whnf
  refine ⟨⟨by decide, by decide⟩, ?_⟩
  conv => whnf
  refine ⟨_, start_pure 3 0 1 (by decide) (by decide) (by decide), ?_⟩
  conv => whnf
  refine ⟨⟨by decide, by decide⟩, ?_⟩
  conv => whnf
  refine wk_none ?_
  conv => whnf
  refine ⟨by decide, ?_⟩
  conv => whnf
  refine wk_none ?_
  conv => whnf
  refine wk_none ?_
  conv => whnf
  refine ⟨by decide, ?_⟩
  conv => whnf
  refine Or.inl ⟨14, by kernel_rfl, ?_⟩
  conv => whnf
  refine ⟨⟨by decide, by decide⟩, ?_⟩
  conv => whnf
  refine ⟨⟨by decide, by decide⟩, ?_⟩
  conv => whnf
  refine ⟨_, start_pure 3 1 0 (by decide) (by decide) (by decide), ?_⟩
  conv => whnf
  refine ⟨⟨by decide, by decide⟩, ?_⟩
  conv => whnf
  refine wk_none ?_
  conv => whnf
  refine ⟨by decide, ?_⟩
  conv => whnf
  refine Or.inl ⟨14, by kernel_rfl, ?_⟩
  conv => whnf
  refine ⟨⟨by decide, by decide⟩, ?_⟩
  conv => whnf
  refine ⟨⟨by decide, by decide⟩, ?_⟩
  conv => whnf
  refine ⟨_, start_pure 3 1 1 (by decide) (by decide) (by decide), ?_⟩
  conv => whnf
  refine ⟨⟨by decide, by decide⟩, ?_⟩
  conv => whnf
  refine wk_none ?_
  conv => whnf
  refine ⟨by decide, ?_⟩
  conv => whnf
  refine wk_none ?_
  conv => whnf
  refine wk_none ?_
  conv => whnf
  refine ⟨by decide, ?_⟩
  conv => whnf
  refine Or.inl ⟨14, by kernel_rfl, ?_⟩
  conv => whnf
  refine ⟨⟨by decide, by decide⟩, ?_⟩
  conv => whnf
  refine ⟨⟨by decide, by decide⟩, ?_⟩
  conv => whnf
  refine ⟨_, start_pure 3 2 0 (by decide) (by decide) (by decide), ?_⟩
  conv => whnf
  refine ⟨⟨by decide, by decide⟩, ?_⟩
  conv => whnf
  refine wk_none ?_
  conv => whnf
  refine ⟨by decide, ?_⟩
  conv => whnf
  refine Or.inl ⟨14, by kernel_rfl, ?_⟩
  conv => whnf
  refine ⟨⟨by decide, by decide⟩, ?_⟩
  conv => whnf
  refine ⟨⟨by decide, by decide⟩, ?_⟩
  conv => whnf
  refine ⟨_, start_pure 3 2 1 (by decide) (by decide) (by decide), ?_⟩
  conv => whnf
  refine ⟨⟨by decide, by decide⟩, ?_⟩
  conv => whnf
  refine wk_none ?_
  conv => whnf
  refine ⟨by decide, ?_⟩
  conv => whnf
  refine wk_none ?_
  conv => whnf
  refine wk_none ?_
  conv => whnf
  refine ⟨by decide, ?_⟩
  conv => whnf
  refine Or.inl ⟨14, by kernel_rfl, ?_⟩
  conv => whnf
  refine ⟨⟨by decide, by decide⟩, ?_⟩
  conv => whnf
  refine ⟨⟨by decide, by decide⟩, ?_⟩
  conv => whnf
  refine ⟨_, start_pure 3 3 0 (by decide) (by decide) (by decide), ?_⟩
  conv => whnf
  refine ⟨⟨by decide, by decide⟩, ?_⟩
  conv => whnf
  refine wk_none ?_
  conv => whnf
  refine ⟨by decide, ?_⟩
  conv => whnf
  refine Or.inl ⟨14, by kernel_rfl, ?_⟩
  conv => whnf
  refine ⟨⟨by decide, by decide⟩, ?_⟩
  conv => whnf
  refine ⟨⟨by decide, by decide⟩, ?_⟩
  conv => whnf
  refine ⟨_, start_pure 3 3 1 (by decide) (by decide) (by decide), ?_⟩
  conv => whnf
  refine ⟨⟨by decide, by decide⟩, ?_⟩
  conv => whnf
  refine wk_none ?_
  conv => whnf
  refine ⟨by decide, ?_⟩
  conv => whnf
  refine wk_none ?_
  conv => whnf
  refine wk_then (ts1 := (mkT 90 [(1, .pt 0 0 0 0 0), (3, .sl 1 0 1 0 4), (4, .v (.int .i64 1))])) (hp1 := toHz3 d) (lp1 := []) (.gc (some ⟨[false, true, false, true, true], [0,1,2,4,5,7,8,10,11,13], 0⟩) ?_) ?_
  · exact ⟨rfl, rfl, rfl⟩
  refine to_endz_3 d 1 ?_
  refine hL _ fun ts j e => ?_
  subst e
  conv => whnf
  exact hKf
theorem TablesOf_3 (d : Nat) (hd : d ≤ 6) : Pure Go.Proofs.Try.prog 42 [scheme 3 d 0 0 0 0] ⟨.ro (nest3 (TZ 3 d)), []⟩ := by
  refine pure_sz pf eqOk_none (env_ok [79, 80, 81] rfl) fun _ => ⟨600, ?_⟩
  refine to_first_3 d hd _ ?_ fun Kq hKq => to_loop_3 _ d hd Kq d 1 593 (by omega) (by omega) (by omega) fun j => hKq _ j rfl
  conv => whnf
  left
  conv => whnf
  refine ⟨Nat.le_refl _, Or.inl ?_⟩
  conv => whnf
  refine ⟨by rw [nest2_length, rowsZ_length]; omega, ?_⟩
  conv => whnf
  refine ⟨by rw [nest2_length, rowsZ_length]; omega, ?_⟩
  conv => whnf
  refine ⟨by rw [nest2_length, rowsZ_length]; omega, ?_⟩
  conv => whnf
  refine ⟨by rw [nest2_length, rowsZ_length]; omega, ?_⟩
  conv => whnf
  have e : ∀ s, List.take (d + 1) (List.drop 0 (nest2 (rowsZ 3 d s (d + 1)))) = nest2 (rowsZ 3 d s (d + 1)) := fun s => by
    rw [List.drop_zero, List.take_of_length_le (by rw [nest2_length, rowsZ_length]; exact Nat.le_refl _)]
  simp only [e]
  rfl
theorem TablesOf_pure (kind d : Nat) (h1 : 1 ≤ kind) (h3 : kind ≤ 3) (hd : d ≤ 6) : Pure Go.Proofs.Try.prog 42 [scheme kind d 0 0 0 0] ⟨.ro (nest3 (TZ kind d)), []⟩ := by
  have : kind = 1 ∨ kind = 2 ∨ kind = 3 := by omega
  rcases this with rfl | rfl | rfl
  · exact TablesOf_1 d hd
  · exact TablesOf_2 d hd
  · exact TablesOf_3 d hd
end Go.YtoeophdffhmpmaaE
