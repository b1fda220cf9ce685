/- plan: newTables as a whole; what asks for it. -/
import Derived.Test.YtoeophdffhmpmaaP4
set_option linter.unusedVariables false
set_option linter.unusedSimpArgs false
set_option maxRecDepth 100000
set_option maxHeartbeats 4000000
namespace Go.YtoeophdffhmpmaaE
open Go Go.RowKit

theorem shl7 {h : Nat} (hh : h ≤ 7) : IntKind.i64.wrap (1 * 2 ^ min (h : Int).toNat IntKind.i64.bits) = ((2 ^ h : Nat) : Int) := by
  match h, hh with
  | 0, _ | 1, _ | 2, _ | 3, _ | 4, _ | 5, _ | 6, _ | 7, _ => decide
def fullR (kind depth : Nat) : Nat → List Int := fun s => if s < statesN kind then fullZ kind depth s else []
theorem nt_make (kind depth st : Nat) : List.replicate (off (depth + 1)) [A.v (.int .i64 0)] = ints (fillL (fullZ kind depth st) (off 0)) := by
  rw [show off 0 = 0 from rfl, fillL_none, fullZ_length]
  simp [ints]
theorem nt_size {depth : Nat} (hd : depth ≤ 6) : IntKind.i64.wrap (IntKind.i64.wrap (IntKind.i64.wrap (((2 ^ (depth + 1) : Nat) : Int) - 1) + (depth : Int)) + 1) = ((off (depth + 1) : Nat) : Int) := by
  match depth, hd with
  | 0, _ | 1, _ | 2, _ | 3, _ | 4, _ | 5, _ | 6, _ => decide
theorem off7 {depth : Nat} (hd : depth ≤ 6) : off (depth + 1) ≤ 134 := by
  match depth, hd with
  | 0, _ | 1, _ | 2, _ | 3, _ | 4, _ | 5, _ | 6, _ => decide
theorem newTables_1 (depth : Nat) (hd : depth ≤ 6) : Pure Go.Proofs.Try.prog 46 [scheme 1 depth 0 0 0 0] ⟨tb 1 depth (fullR 1 depth) (statesN 1), []⟩ := by
  refine pure_sz pf eqOk_none (env_ok ntEnv rfl) fun _ => ⟨600, ?_⟩
  have ed : IntKind.i64.wrap ((depth : Int) + 1) = ((depth + 1 : Nat) : Int) := by rw [wrap64 (by omega) (by omega)]; omega
  have h7 := off7 hd
  conv => whnf
  refine Or.inl ⟨11, by kernel_rfl, ?_⟩
  conv => whnf
  refine ⟨_, stride_pure depth hd, ?_⟩
  conv => whnf
  refine ⟨by decide, ?_⟩
  conv => whnf
  refine Or.inl ⟨10, by kernel_rfl, ?_⟩
  conv => whnf
  rw [ed]
  refine ⟨by omega, ?_⟩
  conv => whnf
  rw [shl7 (show depth + 1 ≤ 7 by omega), nt_size hd]
  refine wk_none ?_
  conv => whnf
  refine Or.inl ⟨7, by kernel_rfl, ?_⟩
  conv => whnf
  refine ⟨⟨by omega, by omega, by show ((off (depth + 1) : Nat) : Int) * ((8 : Nat) : Int) ≤ _; omega⟩, ?_⟩
  conv => whnf
  refine ⟨by decide, ?_⟩
  conv => whnf
  refine wk_none ?_
  conv => whnf
  rw [ed]
  refine wk_mask [false, true, false, true, false, false, false, false, false, false, false, false, false, false, false, false, false, false, false, false, false, false, false, false, false, false, false, false, false, false, false, false, false, false, false, false, false, false, false, false, false, false, false, false, false, false, true, true] _ rfl ?_
  have L := fun K => nt_level_1 (fun _ => none) depth hd K (depth + 1) 0 592 (by omega) (by omega)
  simp only [ntHp, ntB, ← nt_make] at L
  simp only [Int.toNat_natCast]
  refine L _ fun j => ?_
  conv => whnf
  simp only [fillL_all _ _ (Nat.le_of_eq (fullZ_length _ _ _))]
  left
  conv => whnf
  repeat (refine ⟨by rw [ints_length, fullZ_length]; omega, ?_⟩; conv => whnf)
  repeat rw [ints_full (fullZ_length _ _ _).symm]
  rfl
theorem newTables_2 (depth : Nat) (hd : depth ≤ 6) : Pure Go.Proofs.Try.prog 46 [scheme 2 depth 0 0 0 0] ⟨tb 2 depth (fullR 2 depth) (statesN 2), []⟩ := by
  refine pure_sz pf eqOk_none (env_ok ntEnv rfl) fun _ => ⟨600, ?_⟩
  have ed : IntKind.i64.wrap ((depth : Int) + 1) = ((depth + 1 : Nat) : Int) := by rw [wrap64 (by omega) (by omega)]; omega
  have h7 := off7 hd
  conv => whnf
  refine Or.inl ⟨11, by kernel_rfl, ?_⟩
  conv => whnf
  refine ⟨_, stride_pure depth hd, ?_⟩
  conv => whnf
  refine ⟨by decide, ?_⟩
  conv => whnf
  refine Or.inl ⟨10, by kernel_rfl, ?_⟩
  conv => whnf
  rw [ed]
  refine ⟨by omega, ?_⟩
  conv => whnf
  rw [shl7 (show depth + 1 ≤ 7 by omega), nt_size hd]
  refine wk_none ?_
  conv => whnf
  refine Or.inl ⟨7, by kernel_rfl, ?_⟩
  conv => whnf
  refine ⟨⟨by omega, by omega, by show ((off (depth + 1) : Nat) : Int) * ((8 : Nat) : Int) ≤ _; omega⟩, ?_⟩
  conv => whnf
  refine ⟨by decide, ?_⟩
  conv => whnf
  refine wk_none ?_
  conv => whnf
  refine Or.inl ⟨7, by kernel_rfl, ?_⟩
  conv => whnf
  refine ⟨⟨by omega, by omega, by show ((off (depth + 1) : Nat) : Int) * ((8 : Nat) : Int) ≤ _; omega⟩, ?_⟩
  conv => whnf
  refine ⟨by decide, ?_⟩
  conv => whnf
  refine wk_none ?_
  conv => whnf
  rw [ed]
  refine wk_mask [false, true, false, true, false, false, false, false, false, false, false, false, false, false, false, false, false, false, false, false, false, false, false, false, false, false, false, false, false, false, false, false, false, false, false, false, false, false, false, false, false, false, false, false, false, false, true, true] _ rfl ?_
  have L := fun K => nt_level_2 (fun _ => none) depth hd K (depth + 1) 0 592 (by omega) (by omega)
  simp only [ntHp, ntB, ← nt_make] at L
  simp only [Int.toNat_natCast]
  refine L _ fun j => ?_
  conv => whnf
  simp only [fillL_all _ _ (Nat.le_of_eq (fullZ_length _ _ _))]
  left
  conv => whnf
  repeat (refine ⟨by rw [ints_length, fullZ_length]; omega, ?_⟩; conv => whnf)
  repeat rw [ints_full (fullZ_length _ _ _).symm]
  rfl
theorem newTables_3 (depth : Nat) (hd : depth ≤ 6) : Pure Go.Proofs.Try.prog 46 [scheme 3 depth 0 0 0 0] ⟨tb 3 depth (fullR 3 depth) (statesN 3), []⟩ := by
  refine pure_sz pf eqOk_none (env_ok ntEnv rfl) fun _ => ⟨600, ?_⟩
  have ed : IntKind.i64.wrap ((depth : Int) + 1) = ((depth + 1 : Nat) : Int) := by rw [wrap64 (by omega) (by omega)]; omega
  have h7 := off7 hd
  conv => whnf
  refine Or.inl ⟨11, by kernel_rfl, ?_⟩
  conv => whnf
  refine ⟨_, stride_pure depth hd, ?_⟩
  conv => whnf
  refine ⟨by decide, ?_⟩
  conv => whnf
  refine Or.inl ⟨10, by kernel_rfl, ?_⟩
  conv => whnf
  rw [ed]
  refine ⟨by omega, ?_⟩
  conv => whnf
  rw [shl7 (show depth + 1 ≤ 7 by omega), nt_size hd]
  refine wk_none ?_
  conv => whnf
  refine Or.inl ⟨7, by kernel_rfl, ?_⟩
  conv => whnf
  refine ⟨⟨by omega, by omega, by show ((off (depth + 1) : Nat) : Int) * ((8 : Nat) : Int) ≤ _; omega⟩, ?_⟩
  conv => whnf
  refine ⟨by decide, ?_⟩
  conv => whnf
  refine wk_none ?_
  conv => whnf
  refine Or.inl ⟨7, by kernel_rfl, ?_⟩
  conv => whnf
  refine ⟨⟨by omega, by omega, by show ((off (depth + 1) : Nat) : Int) * ((8 : Nat) : Int) ≤ _; omega⟩, ?_⟩
  conv => whnf
  refine ⟨by decide, ?_⟩
  conv => whnf
  refine wk_none ?_
  conv => whnf
  refine Or.inl ⟨7, by kernel_rfl, ?_⟩
  conv => whnf
  refine ⟨⟨by omega, by omega, by show ((off (depth + 1) : Nat) : Int) * ((8 : Nat) : Int) ≤ _; omega⟩, ?_⟩
  conv => whnf
  refine ⟨by decide, ?_⟩
  conv => whnf
  refine wk_none ?_
  conv => whnf
  refine Or.inl ⟨7, by kernel_rfl, ?_⟩
  conv => whnf
  refine ⟨⟨by omega, by omega, by show ((off (depth + 1) : Nat) : Int) * ((8 : Nat) : Int) ≤ _; omega⟩, ?_⟩
  conv => whnf
  refine ⟨by decide, ?_⟩
  conv => whnf
  refine wk_none ?_
  conv => whnf
  rw [ed]
  refine wk_mask [false, true, false, true, false, false, false, false, false, false, false, false, false, false, false, false, false, false, false, false, false, false, false, false, false, false, false, false, false, false, false, false, false, false, false, false, false, false, false, false, false, false, false, false, false, false, true, true] _ rfl ?_
  have L := fun K => nt_level_3 (fun _ => none) depth hd K (depth + 1) 0 592 (by omega) (by omega)
  simp only [ntHp, ntB, ← nt_make] at L
  simp only [Int.toNat_natCast]
  refine L _ fun j => ?_
  conv => whnf
  simp only [fillL_all _ _ (Nat.le_of_eq (fullZ_length _ _ _))]
  left
  conv => whnf
  repeat (refine ⟨by rw [ints_length, fullZ_length]; omega, ?_⟩; conv => whnf)
  repeat rw [ints_full (fullZ_length _ _ _).symm]
  rfl
end Go.YtoeophdffhmpmaaE
