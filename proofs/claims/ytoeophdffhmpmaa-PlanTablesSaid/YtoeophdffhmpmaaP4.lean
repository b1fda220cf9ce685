/- plan: newTables, all of it. -/
import Derived.Test.YtoeophdffhmpmaaP3
set_option linter.unusedVariables false
set_option linter.unusedSimpArgs false
set_option maxRecDepth 100000
set_option maxHeartbeats 4000000
namespace Go.YtoeophdffhmpmaaE
open Go Go.RowKit

theorem at_e1 {h : Nat} (hh : h ≤ 6) : IntKind.i64.wrap (IntKind.i64.wrap (((2 ^ h : Nat) : Int) - 1) + h) = ((off h : Nat) : Int) := by
  obtain ⟨hp1, hp2⟩ := pow_le6 hh
  rw [wrap64 (n := ((2 ^ h : Nat) : Int) - 1) (by omega) (by omega), wrap64 (by omega) (by omega)]
  unfold off; omega
theorem at_e2 {h : Nat} (hh : h ≤ 6) : IntKind.i64.wrap (((off h : Nat) : Int) + ((2 ^ h + 1 : Nat) : Int)) = ((off h + 2 ^ h + 1 : Nat) : Int) := by
  have := off_le6 hh
  obtain ⟨hp1, hp2⟩ := pow_le6 hh
  rw [wrap64 (by omega) (by omega)]; omega
theorem at_e3 (h : Nat) : (((off h + 2 ^ h + 1 : Nat) : Int).toNat - ((off h : Nat) : Int).toNat) = 2 ^ h + 1 := by
  rw [Int.toNat_natCast, Int.toNat_natCast, Nat.add_assoc, Nat.add_sub_cancel_left]
theorem at_e4 (h : Nat) : 0 + ((off h : Nat) : Int).toNat = off h := by omega
theorem nt_level_1 (E : EqT) (depth : Nat) (hd : depth ≤ 6) (K : K) :
    ∀ (d h n : Nat), h + d = depth + 1 → d + 300 ≤ n →
      (∀ j, K (.exit 2) (mkJ 116 [(3, .pt 1 0 0 0 0)] j) (ntHp 1 depth (fun _ => off (depth + 1))) []) →
      loopF (run Go.Proofs.Try.prog E (envL Go.Proofs.Try.prog ntEnv) n) 0 0 (loopB Go.Proofs.Try.prog 46 1)
        (mkT 116 [(1, .pt 0 0 0 0 0), (3, .pt 1 0 0 0 0), (46, .v (.int .i64 (depth + 1 : Nat))), (47, .v (.int .i64 h))])
        (ntHp 1 depth (fun _ => off h)) [] K := by
  intro d
  induction d with
  | zero =>
    intro h n hi hn hK
    obtain ⟨n, rfl⟩ : ∃ m, n = m + 300 := ⟨n - 300, by omega⟩
    obtain rfl : h = depth + 1 := by omega
    conv => whnf
    refine cndK_intro (fun h => ?_) (fun h => ?_)
    · exfalso
      simp only [decide_eq_true_eq] at h
      omega
    · conv => whnf
      exact useJ hK rfl
  | succ d ih =>
    intro h n hi hn hK
    obtain ⟨n, rfl⟩ : ∃ m, n = m + 300 := ⟨n - 300, by omega⟩
    have h6 : h ≤ 6 := by omega
    have hp6 := pow_le6 h6
    have ho := off_le6 h6
    have hlen : off h + 2 ^ h + 1 ≤ off (depth + 1) := by
      have := off_mono (show h + 1 ≤ depth + 1 by omega)
      rw [off_succ] at this; omega
    have eh : IntKind.i64.wrap ((h : Int) + 1) = ((h + 1 : Nat) : Int) := by rw [wrap64 (by omega) (by omega)]; omega
    conv => whnf
    refine cndK_intro (fun h1 => ?_) (fun h1 => ?_)
    rotate_left
    · exfalso
      simp only [decide_eq_false_iff_not] at h1
      omega
    conv => whnf
    refine wk_none ?_
    conv => whnf
    refine ⟨by omega, ?_⟩
    conv => whnf
    rw [shl1 h6]
    refine ⟨_, width_pure h h6, ?_⟩
    conv => whnf
    rw [at_e1 h6, at_e2 h6]
    refine ⟨⟨by decide, by decide⟩, ?_⟩
    conv => whnf
    refine ⟨⟨by omega, by omega, Int.le_refl _, by omega⟩, ?_⟩
    rw [at_e3, at_e4]
    conv => whnf
    refine wk_mask [false, true, false, true, false, false, true, true, true, false, false, false, false, false, false, false, false, false, false, false, false, false, false, false, false, false, false, false, false, false, false, false, false, false, false, false, false, false, false, false, false, false, false, false, false, false, true, true, false, false, false, false, false, true, true, false, false, false, false, false, false, false, true, true] _ rfl ?_
    refine nt_row_1_0 _ depth h (by omega) hd _ (2 ^ h + 1) 0 (n + 283) (fun s => if s < 0 then off h + (2 ^ h + 1) else off h) (fun s hs => by split <;> omega) (by omega) (by omega) (by simp) (fun j => ?_)
    conv => whnf
    refine wk_none ?_
    conv => whnf
    rw [eh]
    refine wk_mask [false, true, false, true, false, false, false, false, false, false, false, false, false, false, false, false, false, false, false, false, false, false, false, false, false, false, false, false, false, false, false, false, false, false, false, false, false, false, false, false, false, false, false, false, false, false, true, true] _ rfl ?_
    have next := ih (h + 1) (n + 299) (by omega) (by omega) hK
    simp only [off_succ h] at next
    exact next
theorem nt_level_2 (E : EqT) (depth : Nat) (hd : depth ≤ 6) (K : K) :
    ∀ (d h n : Nat), h + d = depth + 1 → d + 300 ≤ n →
      (∀ j, K (.exit 2) (mkJ 116 [(3, .pt 1 0 0 0 0)] j) (ntHp 2 depth (fun _ => off (depth + 1))) []) →
      loopF (run Go.Proofs.Try.prog E (envL Go.Proofs.Try.prog ntEnv) n) 0 0 (loopB Go.Proofs.Try.prog 46 1)
        (mkT 116 [(1, .pt 0 0 0 0 0), (3, .pt 1 0 0 0 0), (46, .v (.int .i64 (depth + 1 : Nat))), (47, .v (.int .i64 h))])
        (ntHp 2 depth (fun _ => off h)) [] K := by
  intro d
  induction d with
  | zero =>
    intro h n hi hn hK
    obtain ⟨n, rfl⟩ : ∃ m, n = m + 300 := ⟨n - 300, by omega⟩
    obtain rfl : h = depth + 1 := by omega
    conv => whnf
    refine cndK_intro (fun h => ?_) (fun h => ?_)
    · exfalso
      simp only [decide_eq_true_eq] at h
      omega
    · conv => whnf
      exact useJ hK rfl
  | succ d ih =>
    intro h n hi hn hK
    obtain ⟨n, rfl⟩ : ∃ m, n = m + 300 := ⟨n - 300, by omega⟩
    have h6 : h ≤ 6 := by omega
    have hp6 := pow_le6 h6
    have ho := off_le6 h6
    have hlen : off h + 2 ^ h + 1 ≤ off (depth + 1) := by
      have := off_mono (show h + 1 ≤ depth + 1 by omega)
      rw [off_succ] at this; omega
    have eh : IntKind.i64.wrap ((h : Int) + 1) = ((h + 1 : Nat) : Int) := by rw [wrap64 (by omega) (by omega)]; omega
    conv => whnf
    refine cndK_intro (fun h1 => ?_) (fun h1 => ?_)
    rotate_left
    · exfalso
      simp only [decide_eq_false_iff_not] at h1
      omega
    conv => whnf
    refine wk_none ?_
    conv => whnf
    refine ⟨by omega, ?_⟩
    conv => whnf
    rw [shl1 h6]
    refine ⟨_, width_pure h h6, ?_⟩
    conv => whnf
    rw [at_e1 h6, at_e2 h6]
    refine ⟨⟨by decide, by decide⟩, ?_⟩
    conv => whnf
    refine ⟨⟨by omega, by omega, Int.le_refl _, by omega⟩, ?_⟩
    rw [at_e3, at_e4]
    conv => whnf
    refine wk_mask [false, true, false, true, false, false, true, true, true, false, false, false, false, false, false, false, false, false, false, false, false, false, false, false, false, false, false, false, false, false, false, false, false, false, false, false, false, false, false, false, false, false, false, false, false, false, true, true, false, false, false, false, false, true, true, false, false, false, false, false, false, false, true, true] _ rfl ?_
    refine nt_row_2_0 _ depth h (by omega) hd _ (2 ^ h + 1) 0 (n + 283) (fun s => if s < 0 then off h + (2 ^ h + 1) else off h) (fun s hs => by split <;> omega) (by omega) (by omega) (by simp) (fun j => ?_)
    conv => whnf
    refine wk_none ?_
    conv => whnf
    refine ⟨by omega, ?_⟩
    conv => whnf
    rw [shl1 h6]
    refine ⟨_, width_pure h h6, ?_⟩
    conv => whnf
    rw [at_e1 h6, at_e2 h6]
    refine ⟨⟨by decide, by decide⟩, ?_⟩
    conv => whnf
    refine ⟨⟨by omega, by omega, Int.le_refl _, by omega⟩, ?_⟩
    rw [at_e3, at_e4]
    conv => whnf
    refine wk_mask [false, true, false, true, false, false, true, true, true, false, false, false, false, false, false, false, false, false, false, false, false, false, false, false, false, false, false, false, false, false, false, false, false, false, false, false, false, false, false, false, false, false, false, false, false, false, true, true, false, false, false, false, false, true, true, false, false, false, false, false, false, false, true, true] _ rfl ?_
    refine nt_row_2_1 _ depth h (by omega) hd _ (2 ^ h + 1) 0 (n + 282) (fun s => if s < 1 then off h + (2 ^ h + 1) else off h) (fun s hs => by split <;> omega) (by omega) (by omega) (by simp) (fun j => ?_)
    conv => whnf
    refine wk_none ?_
    conv => whnf
    rw [eh]
    refine wk_mask [false, true, false, true, false, false, false, false, false, false, false, false, false, false, false, false, false, false, false, false, false, false, false, false, false, false, false, false, false, false, false, false, false, false, false, false, false, false, false, false, false, false, false, false, false, false, true, true] _ rfl ?_
    have next := ih (h + 1) (n + 299) (by omega) (by omega) hK
    simp only [off_succ h] at next
    exact next
theorem nt_level_3 (E : EqT) (depth : Nat) (hd : depth ≤ 6) (K : K) :
    ∀ (d h n : Nat), h + d = depth + 1 → d + 300 ≤ n →
      (∀ j, K (.exit 2) (mkJ 116 [(3, .pt 1 0 0 0 0)] j) (ntHp 3 depth (fun _ => off (depth + 1))) []) →
      loopF (run Go.Proofs.Try.prog E (envL Go.Proofs.Try.prog ntEnv) n) 0 0 (loopB Go.Proofs.Try.prog 46 1)
        (mkT 116 [(1, .pt 0 0 0 0 0), (3, .pt 1 0 0 0 0), (46, .v (.int .i64 (depth + 1 : Nat))), (47, .v (.int .i64 h))])
        (ntHp 3 depth (fun _ => off h)) [] K := by
  intro d
  induction d with
  | zero =>
    intro h n hi hn hK
    obtain ⟨n, rfl⟩ : ∃ m, n = m + 300 := ⟨n - 300, by omega⟩
    obtain rfl : h = depth + 1 := by omega
    conv => whnf
    refine cndK_intro (fun h => ?_) (fun h => ?_)
    · exfalso
      simp only [decide_eq_true_eq] at h
      omega
    · conv => whnf
      exact useJ hK rfl
  | succ d ih =>
    intro h n hi hn hK
    obtain ⟨n, rfl⟩ : ∃ m, n = m + 300 := ⟨n - 300, by omega⟩
    have h6 : h ≤ 6 := by omega
    have hp6 := pow_le6 h6
    have ho := off_le6 h6
    have hlen : off h + 2 ^ h + 1 ≤ off (depth + 1) := by
      have := off_mono (show h + 1 ≤ depth + 1 by omega)
      rw [off_succ] at this; omega
    have eh : IntKind.i64.wrap ((h : Int) + 1) = ((h + 1 : Nat) : Int) := by rw [wrap64 (by omega) (by omega)]; omega
    conv => whnf
    refine cndK_intro (fun h1 => ?_) (fun h1 => ?_)
    rotate_left
    · exfalso
      simp only [decide_eq_false_iff_not] at h1
      omega
    conv => whnf
    refine wk_none ?_
    conv => whnf
    refine ⟨by omega, ?_⟩
    conv => whnf
    rw [shl1 h6]
    refine ⟨_, width_pure h h6, ?_⟩
    conv => whnf
    rw [at_e1 h6, at_e2 h6]
    refine ⟨⟨by decide, by decide⟩, ?_⟩
    conv => whnf
    refine ⟨⟨by omega, by omega, Int.le_refl _, by omega⟩, ?_⟩
    rw [at_e3, at_e4]
    conv => whnf
    refine wk_mask [false, true, false, true, false, false, true, true, true, false, false, false, false, false, false, false, false, false, false, false, false, false, false, false, false, false, false, false, false, false, false, false, false, false, false, false, false, false, false, false, false, false, false, false, false, false, true, true, false, false, false, false, false, true, true, false, false, false, false, false, false, false, true, true] _ rfl ?_
    refine nt_row_3_0 _ depth h (by omega) hd _ (2 ^ h + 1) 0 (n + 283) (fun s => if s < 0 then off h + (2 ^ h + 1) else off h) (fun s hs => by split <;> omega) (by omega) (by omega) (by simp) (fun j => ?_)
    conv => whnf
    refine wk_none ?_
    conv => whnf
    refine ⟨by omega, ?_⟩
    conv => whnf
    rw [shl1 h6]
    refine ⟨_, width_pure h h6, ?_⟩
    conv => whnf
    rw [at_e1 h6, at_e2 h6]
    refine ⟨⟨by decide, by decide⟩, ?_⟩
    conv => whnf
    refine ⟨⟨by omega, by omega, Int.le_refl _, by omega⟩, ?_⟩
    rw [at_e3, at_e4]
    conv => whnf
    refine wk_mask [false, true, false, true, false, false, true, true, true, false, false, false, false, false, false, false, false, false, false, false, false, false, false, false, false, false, false, false, false, false, false, false, false, false, false, false, false, false, false, false, false, false, false, false, false, false, true, true, false, false, false, false, false, true, true, false, false, false, false, false, false, false, true, true] _ rfl ?_
    refine nt_row_3_1 _ depth h (by omega) hd _ (2 ^ h + 1) 0 (n + 282) (fun s => if s < 1 then off h + (2 ^ h + 1) else off h) (fun s hs => by split <;> omega) (by omega) (by omega) (by simp) (fun j => ?_)
    conv => whnf
    refine wk_none ?_
    conv => whnf
    refine ⟨by omega, ?_⟩
    conv => whnf
    rw [shl1 h6]
    refine ⟨_, width_pure h h6, ?_⟩
    conv => whnf
    rw [at_e1 h6, at_e2 h6]
    refine ⟨⟨by decide, by decide⟩, ?_⟩
    conv => whnf
    refine ⟨⟨by omega, by omega, Int.le_refl _, by omega⟩, ?_⟩
    rw [at_e3, at_e4]
    conv => whnf
    refine wk_mask [false, true, false, true, false, false, true, true, true, false, false, false, false, false, false, false, false, false, false, false, false, false, false, false, false, false, false, false, false, false, false, false, false, false, false, false, false, false, false, false, false, false, false, false, false, false, true, true, false, false, false, false, false, true, true, false, false, false, false, false, false, false, true, true] _ rfl ?_
    refine nt_row_3_2 _ depth h (by omega) hd _ (2 ^ h + 1) 0 (n + 281) (fun s => if s < 2 then off h + (2 ^ h + 1) else off h) (fun s hs => by split <;> omega) (by omega) (by omega) (by simp) (fun j => ?_)
    conv => whnf
    refine wk_none ?_
    conv => whnf
    refine ⟨by omega, ?_⟩
    conv => whnf
    rw [shl1 h6]
    refine ⟨_, width_pure h h6, ?_⟩
    conv => whnf
    rw [at_e1 h6, at_e2 h6]
    refine ⟨⟨by decide, by decide⟩, ?_⟩
    conv => whnf
    refine ⟨⟨by omega, by omega, Int.le_refl _, by omega⟩, ?_⟩
    rw [at_e3, at_e4]
    conv => whnf
    refine wk_mask [false, true, false, true, false, false, true, true, true, false, false, false, false, false, false, false, false, false, false, false, false, false, false, false, false, false, false, false, false, false, false, false, false, false, false, false, false, false, false, false, false, false, false, false, false, false, true, true, false, false, false, false, false, true, true, false, false, false, false, false, false, false, true, true] _ rfl ?_
    refine nt_row_3_3 _ depth h (by omega) hd _ (2 ^ h + 1) 0 (n + 280) (fun s => if s < 3 then off h + (2 ^ h + 1) else off h) (fun s hs => by split <;> omega) (by omega) (by omega) (by simp) (fun j => ?_)
    conv => whnf
    refine wk_none ?_
    conv => whnf
    rw [eh]
    refine wk_mask [false, true, false, true, false, false, false, false, false, false, false, false, false, false, false, false, false, false, false, false, false, false, false, false, false, false, false, false, false, false, false, false, false, false, false, false, false, false, false, false, false, false, false, false, false, false, true, true] _ rfl ?_
    have next := ih (h + 1) (n + 299) (by omega) (by omega) hK
    simp only [off_succ h] at next
    exact next
end Go.YtoeophdffhmpmaaE
