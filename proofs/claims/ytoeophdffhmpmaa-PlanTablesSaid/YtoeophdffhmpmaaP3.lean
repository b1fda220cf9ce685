/- plan: newTables. -/
import Derived.Test.YtoeophdffhmpmaaP2
set_option linter.unusedVariables false
set_option linter.unusedSimpArgs false
set_option maxRecDepth 100000
set_option maxHeartbeats 4000000
namespace Go.YtoeophdffhmpmaaE
open Go Go.RowKit

/-! ### The tables -/
/-- The entries of a height, for a state. -/
def lvl (kind depth : Nat) : Nat → Nat → List Int
  | 0, st => if kind = 1 then [1, 0] else [0, moreZ st]
  | g + 1, st => (if kind = 1 then 1 else 0) :: (List.range (2 ^ (g + 1))).map fun i => (bestZ kind (lvl kind depth g 0) (lvl kind depth g (belowN kind depth st (g + 1))) (moreZ st) g (i + 1)).1
theorem lvl_length (kind depth h st : Nat) : (lvl kind depth h st).length = 2 ^ h + 1 := by
  cases h with
  | zero => unfold lvl; split <;> rfl
  | succ g => simp [lvl]
/-- All entries of a state, one height behind the other. -/
def flatN (f : Nat → List Int) : Nat → List Int
  | 0 => []
  | n + 1 => flatN f n ++ f n
theorem off_succ (n : Nat) : off (n + 1) = off n + (2 ^ n + 1) := by
  have : 1 ≤ 2 ^ n := Nat.one_le_two_pow
  simp only [off, Nat.pow_succ]; omega
theorem flatN_length {f : Nat → List Int} (hf : ∀ h, (f h).length = 2 ^ h + 1) (n : Nat) : (flatN f n).length = off n := by
  induction n with
  | zero => rfl
  | succ n ih => rw [flatN, List.length_append, ih, hf, off_succ]
theorem off_mono {a b : Nat} (h : a ≤ b) : off a ≤ off b := by
  induction b with
  | zero => have : a = 0 := by omega
            subst this; exact Nat.le_refl _
  | succ b ih =>
    by_cases ha : a = b + 1
    · subst ha; exact Nat.le_refl _
    · have := ih (by omega); have : 1 ≤ 2 ^ b := Nat.one_le_two_pow; rw [off_succ]; omega
theorem flatN_get {f : Nat → List Int} (hf : ∀ h, (f h).length = 2 ^ h + 1) (n g k : Nat) (hg : g < n) (hk : k < 2 ^ g + 1) : (flatN f n)[off g + k]? = (f g)[k]? := by
  induction n with
  | zero => omega
  | succ n ih =>
    rw [flatN]
    by_cases h : g = n
    · subst h
      rw [List.getElem?_append_right (by rw [flatN_length hf]; omega), flatN_length hf, Nat.add_sub_cancel_left]
    · have h1 := off_mono (show g + 1 ≤ n by omega)
      rw [off_succ] at h1
      rw [List.getElem?_append_left (by rw [flatN_length hf]; omega)]
      exact ih (by omega)
def fullZ (kind depth st : Nat) : List Int := flatN (fun h => lvl kind depth h st) (depth + 1)
theorem fullZ_length (kind depth st : Nat) : (fullZ kind depth st).length = off (depth + 1) := flatN_length (fun h => lvl_length kind depth h st) _
/-- A row that is filled up to p. -/
def fillL (F : List Int) (p : Nat) : List Int := F.take p ++ List.replicate (F.length - p) 0
theorem fillL_length (F : List Int) (p : Nat) : (fillL F p).length = F.length := by simp [fillL]; omega
theorem fillL_set (F : List Int) (p : Nat) (v : Int) (h : F[p]? = some v) : (fillL F p).set p v = fillL F (p + 1) := by
  obtain ⟨h1, h2⟩ := List.getElem?_eq_some_iff.1 h
  apply List.ext_getElem?
  intro i
  simp only [fillL]
  rw [List.getElem?_set]
  by_cases hi : p = i
  · subst hi
    rw [if_pos rfl]
    have : p < (List.take p F ++ List.replicate (F.length - p) 0).length := by simp; omega
    rw [if_pos this, List.getElem?_append_left (by simp; omega), List.getElem?_take_of_lt (by omega), h]
  · rw [if_neg hi]
    by_cases hl : i < p
    · rw [List.getElem?_append_left (by simp; omega), List.getElem?_append_left (by simp; omega), List.getElem?_take_of_lt hl, List.getElem?_take_of_lt (by omega)]
    · rw [List.getElem?_append_right (by simp; omega), List.getElem?_append_right (by simp; omega)]
      simp only [List.length_take, List.getElem?_replicate]
      have e1 : min p F.length = p := by omega
      have e2 : min (p + 1) F.length = p + 1 := by omega
      rw [e1, e2]
      have : (i - p < F.length - p) ↔ (i - (p + 1) < F.length - (p + 1)) := by omega
      simp only [this]
theorem fillL_row (kind depth st p g : Nat) (hg : g ≤ depth) (hp : off (g + 1) ≤ p) : ((fillL (fullZ kind depth st) p).drop (off g)).take (2 ^ g + 1) = lvl kind depth g st := by
  have hb := off_mono (show g + 1 ≤ depth + 1 by omega)
  rw [off_succ] at hp
  apply List.ext_getElem?
  intro k
  by_cases hk : k < 2 ^ g + 1
  · rw [List.getElem?_take_of_lt hk, List.getElem?_drop, fillL, List.getElem?_append_left (by rw [List.length_take, fullZ_length]; rw [off_succ] at hb; omega), List.getElem?_take_of_lt (by omega)]
    exact flatN_get (fun h => lvl_length kind depth h st) _ g k (by omega) hk
  · rw [List.getElem?_eq_none (by simp; omega), List.getElem?_eq_none (by rw [lvl_length]; omega)]
theorem ints_set (xs : List Int) (i : Nat) (v : Int) : (ints xs).set i [.v (.int .i64 v)] = ints (xs.set i v) := by simp [ints, List.map_set]
theorem ints_full {xs : List Int} {n : Nat} (h : n = xs.length) : ((ints xs).drop 0).take n = ints xs := by
  subst h; rw [List.drop_zero, ← ints_length]; exact List.take_length ..
theorem fillL_all (F : List Int) (p : Nat) (h : F.length ≤ p) : fillL F p = F := by
  simp [fillL, List.take_of_length_le h, show F.length - p = 0 by omega]
theorem fillL_none (F : List Int) : fillL F 0 = List.replicate F.length 0 := by simp [fillL]
/-! ### The run -/
/-- The tables' struct, in the own heap. -/
def ntC (kind depth : Nat) : List A :=
  match kind with
  | 1 => [.v (.int .u8 1), .v (.int .i64 depth), .v (.int .i64 0), .v (.int .u64 0), .v (.int .u64 0), .v (.int .u64 0), .v (.int .i64 (strideN depth)), .sl 2 0 1 0 (off (depth + 1)), .v (.slice none 0 0), .v (.slice none 0 0), .v (.slice none 0 0), .v (.int .i64 1)]
  | 2 => [.v (.int .u8 2), .v (.int .i64 depth), .v (.int .i64 0), .v (.int .u64 0), .v (.int .u64 0), .v (.int .u64 0), .v (.int .i64 (strideN depth)), .sl 2 0 1 0 (off (depth + 1)), .sl 3 0 1 0 (off (depth + 1)), .v (.slice none 0 0), .v (.slice none 0 0), .v (.int .i64 2)]
  | _ => [.v (.int .u8 3), .v (.int .i64 depth), .v (.int .i64 0), .v (.int .u64 0), .v (.int .u64 0), .v (.int .u64 0), .v (.int .i64 (strideN depth)), .sl 2 0 1 0 (off (depth + 1)), .sl 3 0 1 0 (off (depth + 1)), .sl 4 0 1 0 (off (depth + 1)), .sl 5 0 1 0 (off (depth + 1)), .v (.int .i64 4)]
def ntB (kind depth st p : Nat) : Blk := .rw false false 0 1 (ints (fillL (fullZ kind depth st) p))
def ntHp (kind depth : Nat) (p : Nat → Nat) : List Blk :=
  match kind with
  | 1 => [.bx false [.v (.int .u8 1), .v (.int .i64 depth), .v (.int .i64 0), .v (.int .u64 0), .v (.int .u64 0), .v (.int .u64 0)], .bx false (ntC 1 depth), ntB 1 depth 0 (p 0)]
  | 2 => [.bx false [.v (.int .u8 2), .v (.int .i64 depth), .v (.int .i64 0), .v (.int .u64 0), .v (.int .u64 0), .v (.int .u64 0)], .bx false (ntC 2 depth), ntB 2 depth 0 (p 0), ntB 2 depth 1 (p 1)]
  | _ => [.bx false [.v (.int .u8 3), .v (.int .i64 depth), .v (.int .i64 0), .v (.int .u64 0), .v (.int .u64 0), .v (.int .u64 0)], .bx false (ntC 3 depth), ntB 3 depth 0 (p 0), ntB 3 depth 1 (p 1), ntB 3 depth 2 (p 2), ntB 3 depth 3 (p 3)]
def statesN (kind : Nat) : Nat := match kind with | 1 => 1 | 2 => 2 | _ => 4
def ntEnv : List Nat := [86, 88, 87, 82]
theorem nt_set (kind depth st h k pp : Nat) (hpk : pp = off h + k) (hh : h ≤ depth) (hk : k < 2 ^ h + 1) (v : Int) (hv : (lvl kind depth h st)[k]? = some v) :
    (ints (fillL (fullZ kind depth st) pp)).set (off h + (k : Int).toNat) [.v (.int .i64 v)] = ints (fillL (fullZ kind depth st) (pp + 1)) := by
  subst hpk
  rw [Int.toNat_natCast, ints_set, fillL_set]
  rw [← hv]; exact flatN_get (fun h => lvl_length kind depth h st) _ h k (by omega) hk
theorem nt_get (kind depth st h k pp : Nat) (hh : h ≤ depth) (hk : k < 2 ^ h + 1) : ∃ v, (ints (fillL (fullZ kind depth st) pp))[off h + (k : Int).toNat]? = some [.v (.int .i64 v)] := by
  have := off_mono (show h + 1 ≤ depth + 1 by omega)
  rw [off_succ] at this
  rw [Int.toNat_natCast]
  exact ⟨_, ints_get _ _ (by rw [fillL_length, fullZ_length]; omega)⟩
theorem belowN_2 (depth st h : Nat) : belowN 2 depth st h = 1 := rfl
theorem getD_bd {xs : List Int} {B : Int} (h : ∀ x ∈ xs, 0 ≤ x ∧ x ≤ B) (hB : 0 ≤ B) (i : Nat) : 0 ≤ xs.getD i 0 ∧ xs.getD i 0 ≤ B := by
  rw [List.getD_eq_getElem?_getD]
  cases hi : xs[i]? with
  | none => exact ⟨Int.le_refl _, hB⟩
  | some x => exact h x (List.mem_of_getElem? hi)
theorem gr_bd {f : Nat → Int} {B : Int} (hf : ∀ a, 0 ≤ f a ∧ f a ≤ B) : ∀ (n a : Nat) (m : Int) (b : Nat) (no : Bool), 0 ≤ m ∧ m ≤ B → 0 ≤ (gr f n a m b no).1 ∧ (gr f n a m b no).1 ≤ B := by
  intro n
  induction n with
  | zero => intro a m b no hm; exact hm
  | succ n ih =>
    intro a m b no hm
    rw [gr]
    split
    · exact ih _ _ _ _ (hf a)
    · exact ih _ _ _ _ hm
theorem lvl_bd (kind depth : Nat) : ∀ h st, ∀ x ∈ lvl kind depth h st, 0 ≤ x ∧ x ≤ ((2 ^ (h + 2) : Nat) : Int) - 2 := by
  intro h
  induction h with
  | zero =>
    intro st x hx
    have := moreZ_le st
    unfold lvl at hx
    split at hx <;> simp at hx <;> rcases hx with rfl | rfl <;> simp <;> omega
  | succ g ih =>
    intro st x hx
    have h4 : 1 ≤ 2 ^ g := Nat.one_le_two_pow
    have h3 : 2 ^ (g + 2) = 4 * 2 ^ g := by rw [Nat.pow_add]; omega
    have h2 : 2 ^ (g + 1 + 2) = 8 * 2 ^ g := by rw [Nat.pow_add, Nat.pow_add]; omega
    rw [h2]
    simp only [h3] at ih
    rw [lvl, List.mem_cons] at hx
    rcases hx with rfl | hx
    · split <;> omega
    · obtain ⟨i, _, rfl⟩ := List.mem_map.1 hx
      refine gr_bd (fun a => ?_) _ _ _ _ _ ⟨Int.le_refl _, by omega⟩
      have b1 := getD_bd (ih 0) (by omega) a
      have b2 := getD_bd (ih 0) (by omega) (i + 1 - a)
      have b3 := getD_bd (ih (belowN kind depth st (g + 1))) (by omega) (i + 1)
      have b4 := moreZ_le st
      unfold valZ
      repeat' split
      all_goals omega
theorem lvl_small (kind depth : Nat) : ∀ h st, h ≤ 6 → SmallL (lvl kind depth h st) := fun h st hh x hx => by
  have h1 := lvl_bd kind depth h st x hx
  have h2 : 2 ^ (h + 2) = 4 * 2 ^ h := by rw [Nat.pow_add]; omega
  rw [h2] at h1
  have := pow_le6 hh
  omega
theorem bestZ_one (first low low2 : List Int) (more : Int) (g k : Nat) : bestZ 1 first low more g k = bestZ 1 first low2 more g k := by
  unfold bestZ
  congr 1
theorem lvl_get0 (kind depth h st : Nat) : (lvl kind depth h st)[0]? = some (if kind = 1 then 1 else 0) := by
  cases h with
  | zero => unfold lvl; split <;> rfl
  | succ g => rfl
theorem lvl_get1 (kind depth st k : Nat) (h0 : k ≠ 0) (hk : k < 2 ^ 0 + 1) : (lvl kind depth 0 st)[k]? = some (if kind = 1 then 0 else moreZ st) := by
  have : k = 1 := by omega
  subst this
  unfold lvl; split <;> rfl
theorem lvl_getS (kind depth g st k : Nat) (h0 : k ≠ 0) (hk : k < 2 ^ (g + 1) + 1) : (lvl kind depth (g + 1) st)[k]? = some (bestZ kind (lvl kind depth g 0) (lvl kind depth g (belowN kind depth st (g + 1))) (moreZ st) g k).1 := by
  obtain ⟨i, rfl⟩ : ∃ i, k = i + 1 := ⟨k - 1, by omega⟩
  rw [lvl, List.getElem?_cons_succ, List.getElem?_map, List.getElem?_range (by omega)]; rfl
def ntR (kind depth : Nat) (p : Nat → Nat) : Nat → List Int := fun s => if s < statesN kind then fillL (fullZ kind depth s) (p s) else []
theorem ntR_row (kind depth : Nat) (p : Nat → Nat) (s g : Nat) (hs : s < statesN kind) (hg : g ≤ depth) (hp : off (g + 1) ≤ p s) : row (ntR kind depth p) s g = lvl kind depth g s := by
  unfold row ntR; rw [if_pos hs]; exact fillL_row kind depth s (p s) g hg hp
theorem ntR_len (kind depth : Nat) (p : Nat → Nat) (s g : Nat) (hs : s < statesN kind) (hg : g ≤ depth) : off g + 2 ^ g + 1 ≤ (ntR kind depth p s).length := by
  unfold ntR; rw [if_pos hs, fillL_length, fullZ_length]
  have := off_mono (show g + 1 ≤ depth + 1 by omega)
  rw [off_succ] at this; omega
theorem fill_len (kind depth st p : Nat) : off (depth + 1) = (fillL (fullZ kind depth st) p).length := by rw [fillL_length, fullZ_length]
theorem nt_row_1_0 (E : EqT) (depth h : Nat) (hh : h ≤ depth) (hd : depth ≤ 6) (K : K) :
    ∀ (d k n : Nat) (p : Nat → Nat) (hp : ∀ s, s ≠ 0 → off h ≤ p s), k + d = 2 ^ h + 1 → d + 60 ≤ n → p 0 = off h + k →
      (∀ j, K (.exit 6) (mkJ 116 [(1, .pt 0 0 0 0 0), (3, .pt 1 0 0 0 0), (6, .v (.int .i64 h)), (46, .v (.int .i64 (depth + 1 : Nat))), (47, .v (.int .i64 h)), (53, .v (.int .i64 (statesN 1))), (54, .v (.int .i64 (0 : Nat)))] j)
        (ntHp 1 depth (fun s => if s = 0 then off h + (2 ^ h + 1) else p s)) []) →
      loopF (run Go.Proofs.Try.prog E (envL Go.Proofs.Try.prog ntEnv) n) 0 0 (loopB Go.Proofs.Try.prog 46 3)
        (mkT 116 [(1, .pt 0 0 0 0 0), (3, .pt 1 0 0 0 0), (6, .v (.int .i64 h)), (7, .v (.int .i64 (0 : Nat))), (8, .sl (2 + 0) 0 1 (off h) (2 ^ h + 1)), (46, .v (.int .i64 (depth + 1 : Nat))), (47, .v (.int .i64 h)), (53, .v (.int .i64 (statesN 1))), (54, .v (.int .i64 (0 : Nat))), (62, .v (.int .i64 (2 ^ h + 1 : Nat))), (63, .v (.int .i64 k))])
        (ntHp 1 depth p) [] K := by
  intro d
  have hp6 := pow_le6 (show h ≤ 6 by omega)
  have ho := off_le6 (show h ≤ 6 by omega)
  induction d with
  | zero =>
    intro k n p hp hi hn hpk hK
    obtain ⟨n, rfl⟩ : ∃ m, n = m + 60 := ⟨n - 60, by omega⟩
    have e : (fun s => if s = 0 then off h + (2 ^ h + 1) else p s) = p := by
      funext s; split
      · rename_i hs; subst hs; omega
      · rfl
    rw [e] at hK
    conv => whnf
    refine cndK_intro (fun h => ?_) (fun h => ?_)
    · exfalso
      simp only [decide_eq_true_eq] at h
      omega
    · conv => whnf
      exact useJ hK rfl
  | succ d ih =>
    intro k n p hp hi hn hpk hK
    obtain ⟨n, rfl⟩ : ∃ m, n = m + 60 := ⟨n - 60, by omega⟩
    have ek : IntKind.i64.wrap ((k : Int) + 1) = ((k + 1 : Nat) : Int) := by rw [wrap64 (by omega) (by omega)]; omega
    conv => whnf
    refine cndK_intro (fun h1 => ?_) (fun h1 => ?_)
    rotate_left
    · exfalso
      simp only [decide_eq_false_iff_not] at h1
      omega
    have hK2 : ∀ j, K (.exit 6) (mkJ 116 [(1, .pt 0 0 0 0 0), (3, .pt 1 0 0 0 0), (6, .v (.int .i64 h)), (46, .v (.int .i64 (depth + 1 : Nat))), (47, .v (.int .i64 h)), (53, .v (.int .i64 (statesN 1))), (54, .v (.int .i64 (0 : Nat)))] j)
        (ntHp 1 depth (fun s => if s = 0 then off h + (2 ^ h + 1) else (fun s => if s = 0 then p s + 1 else p s) s)) [] := fun j => by
      have := hK j
      have e : (fun s => if s = 0 then off h + (2 ^ h + 1) else (fun s => if s = 0 then p s + 1 else p s) s) = (fun s => if s = 0 then off h + (2 ^ h + 1) else p s) := by
        funext s; split <;> simp_all
      rw [e]; exact this
    have next := ih (k + 1) (n + 59) (fun s => if s = 0 then p s + 1 else p s) (fun s hs => by simp [hs]; exact hp s hs) (by omega) (by omega) (by simp [hpk]; omega) hK2
    clear hK hK2 ih
    have hkb : k < 2 ^ h + 1 := by omega
    obtain ⟨ov, hov⟩ := nt_get 1 depth 0 h k (p 0) hh hkb
    conv => whnf
    refine cndK_intro (fun h2 => ?_) (fun h2 => ?_)
    · have hk0 : k = 0 := by simp at h2; omega
      have hv : (lvl 1 depth h 0)[k]? = some (if 1 = 1 then 1 else 0) := by rw [hk0]; exact lvl_get0 1 depth h 0
      conv => whnf
      try (rw [h2]; conv => whnf)
      refine ⟨⟨by omega, by omega⟩, ?_⟩
      conv => whnf
      refine optK_intro _ hov ?_
      conv => whnf
      rw [ek]
      refine wk_mask [false, true, false, true, false, false, true, true, true, false, false, false, false, false, false, false, false, false, false, false, false, false, false, false, false, false, false, false, false, false, false, false, false, false, false, false, false, false, false, false, false, false, false, false, false, false, true, true, false, false, false, false, false, true, true, false, false, false, false, false, false, false, true, true] _ rfl ?_
      first | rw [nt_set 1 depth 0 h k (p 0) hpk hh hkb 1 hv] | rw [nt_set 1 depth 0 h k (p 0) hpk hh hkb 0 hv] | rw [nt_set 1 depth 0 h k (p 0) hpk hh hkb (moreZ 0) hv]
      exact next
    · have hk0 : k ≠ 0 := by simp at h2; omega
      conv => whnf
      try (rw [h2]; conv => whnf)
      refine cndK_intro (fun h3 => ?_) (fun h3 => ?_)
      · have hh0 : h = 0 := by simp at h3; omega
        have hv : (lvl 1 depth h 0)[k]? = some (if 1 = 1 then 0 else moreZ 0) := by
          have hkb2 := hkb
          rw [hh0] at hkb2 ⊢; exact lvl_get1 1 depth 0 k hk0 hkb2
        conv => whnf
        repeat (refine ⟨by rw [ints_length, fillL_length, fullZ_length]; omega, ?_⟩; conv => whnf)
        try (refine ⟨_, morep_pure _ 0 (by decide), ?_⟩; conv => whnf)
        refine ⟨⟨by omega, by omega⟩, ?_⟩
        conv => whnf
        refine optK_intro _ hov ?_
        conv => whnf
        rw [ek]
        refine wk_mask [false, true, false, true, false, false, true, true, true, false, false, false, false, false, false, false, false, false, false, false, false, false, false, false, false, false, false, false, false, false, false, false, false, false, false, false, false, false, false, false, false, false, false, false, false, false, true, true, false, false, false, false, false, true, true, false, false, false, false, false, false, false, true, true] _ rfl ?_
        first | rw [nt_set 1 depth 0 h k (p 0) hpk hh hkb 1 hv] | rw [nt_set 1 depth 0 h k (p 0) hpk hh hkb 0 hv] | rw [nt_set 1 depth 0 h k (p 0) hpk hh hkb (moreZ 0) hv]
        exact next
      · have hh0 : h ≠ 0 := by simp at h3; omega
        obtain ⟨g, rfl⟩ : ∃ g, h = g + 1 := ⟨h - 1, by omega⟩
        conv => whnf
        try (rw [h3]; conv => whnf)
        repeat (refine ⟨by rw [ints_length, fillL_length, fullZ_length]; omega, ?_⟩; conv => whnf)
        repeat rw [ints_full (fill_len 1 depth _ _)]
        have r0 : row (ntR 1 depth p) 0 g = lvl 1 depth g 0 := ntR_row 1 depth p 0 g (by decide) (by omega) (by first | exact hp 0 (by decide) | omega)
        have hbv : (lvl 1 depth (g + 1) 0)[k]? = some (bestZ 1 (row (ntR 1 depth p) 0 g) (row (ntR 1 depth p) (belowN 1 depth 0 (g + 1)) g) (moreZ 0) g k).1 := by
          rw [lvl_getS 1 depth g 0 k hk0 hkb, r0]
          first
            | rw [bestZ_one]; done
            | (rw [ntR_row 1 depth p (belowN 1 depth 0 (g + 1)) g (by first | exact (show 1 < 2 by decide) | exact belowN_lt _ _ _ _ (by decide)) (by omega)
                (by
                  by_cases he : belowN 1 depth 0 (g + 1) = 0
                  · rw [he, hpk]; omega
                  · exact hp _ he)]; done)
            | (rw [bestZ_one 
                (lvl 1 depth g 0) _ (row (ntR 1 depth p) (belowN 1 depth 0 (g + 1)) g)]; done)
        refine ⟨_, bestp_pure 1 depth (statesN 1) (ntR 1 depth p) 0 g k (by decide) hh hd (ntR_len 1 depth p 0 g (by decide) (by omega))
          (fun hne => ntR_len 1 depth p _ g (by first | exact absurd rfl hne | exact (by decide : 1 < 2) | exact belowN_lt _ _ _ _ (by decide)) (by omega)) (by rw [r0]; exact lvl_small 1 depth g 0 (by omega)) (by omega), ?_⟩
        conv => whnf
        refine ⟨⟨by omega, by omega⟩, ?_⟩
        conv => whnf
        refine optK_intro _ hov ?_
        conv => whnf
        rw [ek]
        refine wk_mask [false, true, false, true, false, false, true, true, true, false, false, false, false, false, false, false, false, false, false, false, false, false, false, false, false, false, false, false, false, false, false, false, false, false, false, false, false, false, false, false, false, false, false, false, false, false, true, true, false, false, false, false, false, true, true, false, false, false, false, false, false, false, true, true] _ rfl ?_
        rw [nt_set 1 depth 0 (g + 1) k (p 0) hpk hh hkb _ hbv]
        exact next
theorem nt_row_2_0 (E : EqT) (depth h : Nat) (hh : h ≤ depth) (hd : depth ≤ 6) (K : K) :
    ∀ (d k n : Nat) (p : Nat → Nat) (hp : ∀ s, s ≠ 0 → off h ≤ p s), k + d = 2 ^ h + 1 → d + 60 ≤ n → p 0 = off h + k →
      (∀ j, K (.exit 6) (mkJ 116 [(1, .pt 0 0 0 0 0), (3, .pt 1 0 0 0 0), (6, .v (.int .i64 h)), (46, .v (.int .i64 (depth + 1 : Nat))), (47, .v (.int .i64 h)), (53, .v (.int .i64 (statesN 2))), (54, .v (.int .i64 (0 : Nat)))] j)
        (ntHp 2 depth (fun s => if s = 0 then off h + (2 ^ h + 1) else p s)) []) →
      loopF (run Go.Proofs.Try.prog E (envL Go.Proofs.Try.prog ntEnv) n) 0 0 (loopB Go.Proofs.Try.prog 46 3)
        (mkT 116 [(1, .pt 0 0 0 0 0), (3, .pt 1 0 0 0 0), (6, .v (.int .i64 h)), (7, .v (.int .i64 (0 : Nat))), (8, .sl (2 + 0) 0 1 (off h) (2 ^ h + 1)), (46, .v (.int .i64 (depth + 1 : Nat))), (47, .v (.int .i64 h)), (53, .v (.int .i64 (statesN 2))), (54, .v (.int .i64 (0 : Nat))), (62, .v (.int .i64 (2 ^ h + 1 : Nat))), (63, .v (.int .i64 k))])
        (ntHp 2 depth p) [] K := by
  intro d
  have hp6 := pow_le6 (show h ≤ 6 by omega)
  have ho := off_le6 (show h ≤ 6 by omega)
  induction d with
  | zero =>
    intro k n p hp hi hn hpk hK
    obtain ⟨n, rfl⟩ : ∃ m, n = m + 60 := ⟨n - 60, by omega⟩
    have e : (fun s => if s = 0 then off h + (2 ^ h + 1) else p s) = p := by
      funext s; split
      · rename_i hs; subst hs; omega
      · rfl
    rw [e] at hK
    conv => whnf
    refine cndK_intro (fun h => ?_) (fun h => ?_)
    · exfalso
      simp only [decide_eq_true_eq] at h
      omega
    · conv => whnf
      exact useJ hK rfl
  | succ d ih =>
    intro k n p hp hi hn hpk hK
    obtain ⟨n, rfl⟩ : ∃ m, n = m + 60 := ⟨n - 60, by omega⟩
    have ek : IntKind.i64.wrap ((k : Int) + 1) = ((k + 1 : Nat) : Int) := by rw [wrap64 (by omega) (by omega)]; omega
    conv => whnf
    refine cndK_intro (fun h1 => ?_) (fun h1 => ?_)
    rotate_left
    · exfalso
      simp only [decide_eq_false_iff_not] at h1
      omega
    have hK2 : ∀ j, K (.exit 6) (mkJ 116 [(1, .pt 0 0 0 0 0), (3, .pt 1 0 0 0 0), (6, .v (.int .i64 h)), (46, .v (.int .i64 (depth + 1 : Nat))), (47, .v (.int .i64 h)), (53, .v (.int .i64 (statesN 2))), (54, .v (.int .i64 (0 : Nat)))] j)
        (ntHp 2 depth (fun s => if s = 0 then off h + (2 ^ h + 1) else (fun s => if s = 0 then p s + 1 else p s) s)) [] := fun j => by
      have := hK j
      have e : (fun s => if s = 0 then off h + (2 ^ h + 1) else (fun s => if s = 0 then p s + 1 else p s) s) = (fun s => if s = 0 then off h + (2 ^ h + 1) else p s) := by
        funext s; split <;> simp_all
      rw [e]; exact this
    have next := ih (k + 1) (n + 59) (fun s => if s = 0 then p s + 1 else p s) (fun s hs => by simp [hs]; exact hp s hs) (by omega) (by omega) (by simp [hpk]; omega) hK2
    clear hK hK2 ih
    have hkb : k < 2 ^ h + 1 := by omega
    obtain ⟨ov, hov⟩ := nt_get 2 depth 0 h k (p 0) hh hkb
    conv => whnf
    refine cndK_intro (fun h2 => ?_) (fun h2 => ?_)
    · have hk0 : k = 0 := by simp at h2; omega
      have hv : (lvl 2 depth h 0)[k]? = some (if 2 = 1 then 1 else 0) := by rw [hk0]; exact lvl_get0 2 depth h 0
      conv => whnf
      try (rw [h2]; conv => whnf)
      refine ⟨⟨by omega, by omega⟩, ?_⟩
      conv => whnf
      refine optK_intro _ hov ?_
      conv => whnf
      rw [ek]
      refine wk_mask [false, true, false, true, false, false, true, true, true, false, false, false, false, false, false, false, false, false, false, false, false, false, false, false, false, false, false, false, false, false, false, false, false, false, false, false, false, false, false, false, false, false, false, false, false, false, true, true, false, false, false, false, false, true, true, false, false, false, false, false, false, false, true, true] _ rfl ?_
      first | rw [nt_set 2 depth 0 h k (p 0) hpk hh hkb 1 hv] | rw [nt_set 2 depth 0 h k (p 0) hpk hh hkb 0 hv] | rw [nt_set 2 depth 0 h k (p 0) hpk hh hkb (moreZ 0) hv]
      exact next
    · have hk0 : k ≠ 0 := by simp at h2; omega
      conv => whnf
      try (rw [h2]; conv => whnf)
      refine cndK_intro (fun h3 => ?_) (fun h3 => ?_)
      · have hh0 : h = 0 := by simp at h3; omega
        have hv : (lvl 2 depth h 0)[k]? = some (if 2 = 1 then 0 else moreZ 0) := by
          have hkb2 := hkb
          rw [hh0] at hkb2 ⊢; exact lvl_get1 2 depth 0 k hk0 hkb2
        conv => whnf
        repeat (refine ⟨by rw [ints_length, fillL_length, fullZ_length]; omega, ?_⟩; conv => whnf)
        try (refine ⟨_, morep_pure _ 0 (by decide), ?_⟩; conv => whnf)
        refine ⟨⟨by omega, by omega⟩, ?_⟩
        conv => whnf
        refine optK_intro _ hov ?_
        conv => whnf
        rw [ek]
        refine wk_mask [false, true, false, true, false, false, true, true, true, false, false, false, false, false, false, false, false, false, false, false, false, false, false, false, false, false, false, false, false, false, false, false, false, false, false, false, false, false, false, false, false, false, false, false, false, false, true, true, false, false, false, false, false, true, true, false, false, false, false, false, false, false, true, true] _ rfl ?_
        first | rw [nt_set 2 depth 0 h k (p 0) hpk hh hkb 1 hv] | rw [nt_set 2 depth 0 h k (p 0) hpk hh hkb 0 hv] | rw [nt_set 2 depth 0 h k (p 0) hpk hh hkb (moreZ 0) hv]
        exact next
      · have hh0 : h ≠ 0 := by simp at h3; omega
        obtain ⟨g, rfl⟩ : ∃ g, h = g + 1 := ⟨h - 1, by omega⟩
        conv => whnf
        try (rw [h3]; conv => whnf)
        repeat (refine ⟨by rw [ints_length, fillL_length, fullZ_length]; omega, ?_⟩; conv => whnf)
        repeat rw [ints_full (fill_len 2 depth _ _)]
        have r0 : row (ntR 2 depth p) 0 g = lvl 2 depth g 0 := ntR_row 2 depth p 0 g (by decide) (by omega) (by first | exact hp 0 (by decide) | omega)
        have hbv : (lvl 2 depth (g + 1) 0)[k]? = some (bestZ 2 (row (ntR 2 depth p) 0 g) (row (ntR 2 depth p) (belowN 2 depth 0 (g + 1)) g) (moreZ 0) g k).1 := by
          rw [lvl_getS 2 depth g 0 k hk0 hkb, r0]
          first
            | rw [bestZ_one]; done
            | (rw [ntR_row 2 depth p (belowN 2 depth 0 (g + 1)) g (by first | exact (show 1 < 2 by decide) | exact belowN_lt _ _ _ _ (by decide)) (by omega)
                (by
                  by_cases he : belowN 2 depth 0 (g + 1) = 0
                  · rw [he, hpk]; omega
                  · exact hp _ he)]; done)
            | (rw [bestZ_one 
                (lvl 1 depth g 0) _ (row (ntR 1 depth p) (belowN 1 depth 0 (g + 1)) g)]; done)
        refine ⟨_, bestp_pure 2 depth (statesN 2) (ntR 2 depth p) 0 g k (by decide) hh hd (ntR_len 2 depth p 0 g (by decide) (by omega))
          (fun hne => ntR_len 2 depth p _ g (by first | exact absurd rfl hne | exact (by decide : 1 < 2) | exact belowN_lt _ _ _ _ (by decide)) (by omega)) (by rw [r0]; exact lvl_small 2 depth g 0 (by omega)) (by omega), ?_⟩
        conv => whnf
        refine ⟨⟨by omega, by omega⟩, ?_⟩
        conv => whnf
        refine optK_intro _ hov ?_
        conv => whnf
        rw [ek]
        refine wk_mask [false, true, false, true, false, false, true, true, true, false, false, false, false, false, false, false, false, false, false, false, false, false, false, false, false, false, false, false, false, false, false, false, false, false, false, false, false, false, false, false, false, false, false, false, false, false, true, true, false, false, false, false, false, true, true, false, false, false, false, false, false, false, true, true] _ rfl ?_
        rw [nt_set 2 depth 0 (g + 1) k (p 0) hpk hh hkb _ hbv]
        exact next
theorem nt_row_2_1 (E : EqT) (depth h : Nat) (hh : h ≤ depth) (hd : depth ≤ 6) (K : K) :
    ∀ (d k n : Nat) (p : Nat → Nat) (hp : ∀ s, s ≠ 1 → off h ≤ p s), k + d = 2 ^ h + 1 → d + 60 ≤ n → p 1 = off h + k →
      (∀ j, K (.exit 6) (mkJ 116 [(1, .pt 0 0 0 0 0), (3, .pt 1 0 0 0 0), (6, .v (.int .i64 h)), (46, .v (.int .i64 (depth + 1 : Nat))), (47, .v (.int .i64 h)), (53, .v (.int .i64 (statesN 2))), (54, .v (.int .i64 (1 : Nat)))] j)
        (ntHp 2 depth (fun s => if s = 1 then off h + (2 ^ h + 1) else p s)) []) →
      loopF (run Go.Proofs.Try.prog E (envL Go.Proofs.Try.prog ntEnv) n) 0 0 (loopB Go.Proofs.Try.prog 46 3)
        (mkT 116 [(1, .pt 0 0 0 0 0), (3, .pt 1 0 0 0 0), (6, .v (.int .i64 h)), (7, .v (.int .i64 (1 : Nat))), (8, .sl (2 + 1) 0 1 (off h) (2 ^ h + 1)), (46, .v (.int .i64 (depth + 1 : Nat))), (47, .v (.int .i64 h)), (53, .v (.int .i64 (statesN 2))), (54, .v (.int .i64 (1 : Nat))), (62, .v (.int .i64 (2 ^ h + 1 : Nat))), (63, .v (.int .i64 k))])
        (ntHp 2 depth p) [] K := by
  intro d
  have hp6 := pow_le6 (show h ≤ 6 by omega)
  have ho := off_le6 (show h ≤ 6 by omega)
  induction d with
  | zero =>
    intro k n p hp hi hn hpk hK
    obtain ⟨n, rfl⟩ : ∃ m, n = m + 60 := ⟨n - 60, by omega⟩
    have e : (fun s => if s = 1 then off h + (2 ^ h + 1) else p s) = p := by
      funext s; split
      · rename_i hs; subst hs; omega
      · rfl
    rw [e] at hK
    conv => whnf
    refine cndK_intro (fun h => ?_) (fun h => ?_)
    · exfalso
      simp only [decide_eq_true_eq] at h
      omega
    · conv => whnf
      exact useJ hK rfl
  | succ d ih =>
    intro k n p hp hi hn hpk hK
    obtain ⟨n, rfl⟩ : ∃ m, n = m + 60 := ⟨n - 60, by omega⟩
    have ek : IntKind.i64.wrap ((k : Int) + 1) = ((k + 1 : Nat) : Int) := by rw [wrap64 (by omega) (by omega)]; omega
    conv => whnf
    refine cndK_intro (fun h1 => ?_) (fun h1 => ?_)
    rotate_left
    · exfalso
      simp only [decide_eq_false_iff_not] at h1
      omega
    have hK2 : ∀ j, K (.exit 6) (mkJ 116 [(1, .pt 0 0 0 0 0), (3, .pt 1 0 0 0 0), (6, .v (.int .i64 h)), (46, .v (.int .i64 (depth + 1 : Nat))), (47, .v (.int .i64 h)), (53, .v (.int .i64 (statesN 2))), (54, .v (.int .i64 (1 : Nat)))] j)
        (ntHp 2 depth (fun s => if s = 1 then off h + (2 ^ h + 1) else (fun s => if s = 1 then p s + 1 else p s) s)) [] := fun j => by
      have := hK j
      have e : (fun s => if s = 1 then off h + (2 ^ h + 1) else (fun s => if s = 1 then p s + 1 else p s) s) = (fun s => if s = 1 then off h + (2 ^ h + 1) else p s) := by
        funext s; split <;> simp_all
      rw [e]; exact this
    have next := ih (k + 1) (n + 59) (fun s => if s = 1 then p s + 1 else p s) (fun s hs => by simp [hs]; exact hp s hs) (by omega) (by omega) (by simp [hpk]; omega) hK2
    clear hK hK2 ih
    have hkb : k < 2 ^ h + 1 := by omega
    obtain ⟨ov, hov⟩ := nt_get 2 depth 1 h k (p 1) hh hkb
    conv => whnf
    refine cndK_intro (fun h2 => ?_) (fun h2 => ?_)
    · have hk0 : k = 0 := by simp at h2; omega
      have hv : (lvl 2 depth h 1)[k]? = some (if 2 = 1 then 1 else 0) := by rw [hk0]; exact lvl_get0 2 depth h 1
      conv => whnf
      try (rw [h2]; conv => whnf)
      refine ⟨⟨by omega, by omega⟩, ?_⟩
      conv => whnf
      refine optK_intro _ hov ?_
      conv => whnf
      rw [ek]
      refine wk_mask [false, true, false, true, false, false, true, true, true, false, false, false, false, false, false, false, false, false, false, false, false, false, false, false, false, false, false, false, false, false, false, false, false, false, false, false, false, false, false, false, false, false, false, false, false, false, true, true, false, false, false, false, false, true, true, false, false, false, false, false, false, false, true, true] _ rfl ?_
      first | rw [nt_set 2 depth 1 h k (p 1) hpk hh hkb 1 hv] | rw [nt_set 2 depth 1 h k (p 1) hpk hh hkb 0 hv] | rw [nt_set 2 depth 1 h k (p 1) hpk hh hkb (moreZ 1) hv]
      exact next
    · have hk0 : k ≠ 0 := by simp at h2; omega
      conv => whnf
      try (rw [h2]; conv => whnf)
      refine cndK_intro (fun h3 => ?_) (fun h3 => ?_)
      · have hh0 : h = 0 := by simp at h3; omega
        have hv : (lvl 2 depth h 1)[k]? = some (if 2 = 1 then 0 else moreZ 1) := by
          have hkb2 := hkb
          rw [hh0] at hkb2 ⊢; exact lvl_get1 2 depth 1 k hk0 hkb2
        conv => whnf
        repeat (refine ⟨by rw [ints_length, fillL_length, fullZ_length]; omega, ?_⟩; conv => whnf)
        try (refine ⟨_, morep_pure _ 1 (by decide), ?_⟩; conv => whnf)
        refine ⟨⟨by omega, by omega⟩, ?_⟩
        conv => whnf
        refine optK_intro _ hov ?_
        conv => whnf
        rw [ek]
        refine wk_mask [false, true, false, true, false, false, true, true, true, false, false, false, false, false, false, false, false, false, false, false, false, false, false, false, false, false, false, false, false, false, false, false, false, false, false, false, false, false, false, false, false, false, false, false, false, false, true, true, false, false, false, false, false, true, true, false, false, false, false, false, false, false, true, true] _ rfl ?_
        first | rw [nt_set 2 depth 1 h k (p 1) hpk hh hkb 1 hv] | rw [nt_set 2 depth 1 h k (p 1) hpk hh hkb 0 hv] | rw [nt_set 2 depth 1 h k (p 1) hpk hh hkb (moreZ 1) hv]
        exact next
      · have hh0 : h ≠ 0 := by simp at h3; omega
        obtain ⟨g, rfl⟩ : ∃ g, h = g + 1 := ⟨h - 1, by omega⟩
        conv => whnf
        try (rw [h3]; conv => whnf)
        repeat (refine ⟨by rw [ints_length, fillL_length, fullZ_length]; omega, ?_⟩; conv => whnf)
        repeat rw [ints_full (fill_len 2 depth _ _)]
        have r0 : row (ntR 2 depth p) 0 g = lvl 2 depth g 0 := ntR_row 2 depth p 0 g (by decide) (by omega) (by first | exact hp 0 (by decide) | omega)
        have hbv : (lvl 2 depth (g + 1) 1)[k]? = some (bestZ 2 (row (ntR 2 depth p) 0 g) (row (ntR 2 depth p) (belowN 2 depth 1 (g + 1)) g) (moreZ 1) g k).1 := by
          rw [lvl_getS 2 depth g 1 k hk0 hkb, r0]
          first
            | rw [bestZ_one]; done
            | (rw [ntR_row 2 depth p (belowN 2 depth 1 (g + 1)) g (by first | exact (show 1 < 2 by decide) | exact belowN_lt _ _ _ _ (by decide)) (by omega)
                (by
                  by_cases he : belowN 2 depth 1 (g + 1) = 1
                  · rw [he, hpk]; omega
                  · exact hp _ he)]; done)
            | (rw [bestZ_one 
                (lvl 1 depth g 0) _ (row (ntR 1 depth p) (belowN 1 depth 0 (g + 1)) g)]; done)
        refine ⟨_, bestp_pure 2 depth (statesN 2) (ntR 2 depth p) 1 g k (by decide) hh hd (ntR_len 2 depth p 0 g (by decide) (by omega))
          (fun hne => ntR_len 2 depth p _ g (by first | exact absurd rfl hne | exact (by decide : 1 < 2) | exact belowN_lt _ _ _ _ (by decide)) (by omega)) (by rw [r0]; exact lvl_small 2 depth g 0 (by omega)) (by omega), ?_⟩
        conv => whnf
        refine ⟨⟨by omega, by omega⟩, ?_⟩
        conv => whnf
        refine optK_intro _ hov ?_
        conv => whnf
        rw [ek]
        refine wk_mask [false, true, false, true, false, false, true, true, true, false, false, false, false, false, false, false, false, false, false, false, false, false, false, false, false, false, false, false, false, false, false, false, false, false, false, false, false, false, false, false, false, false, false, false, false, false, true, true, false, false, false, false, false, true, true, false, false, false, false, false, false, false, true, true] _ rfl ?_
        rw [nt_set 2 depth 1 (g + 1) k (p 1) hpk hh hkb _ hbv]
        exact next
theorem nt_row_3_0 (E : EqT) (depth h : Nat) (hh : h ≤ depth) (hd : depth ≤ 6) (K : K) :
    ∀ (d k n : Nat) (p : Nat → Nat) (hp : ∀ s, s ≠ 0 → off h ≤ p s), k + d = 2 ^ h + 1 → d + 60 ≤ n → p 0 = off h + k →
      (∀ j, K (.exit 6) (mkJ 116 [(1, .pt 0 0 0 0 0), (3, .pt 1 0 0 0 0), (6, .v (.int .i64 h)), (46, .v (.int .i64 (depth + 1 : Nat))), (47, .v (.int .i64 h)), (53, .v (.int .i64 (statesN 3))), (54, .v (.int .i64 (0 : Nat)))] j)
        (ntHp 3 depth (fun s => if s = 0 then off h + (2 ^ h + 1) else p s)) []) →
      loopF (run Go.Proofs.Try.prog E (envL Go.Proofs.Try.prog ntEnv) n) 0 0 (loopB Go.Proofs.Try.prog 46 3)
        (mkT 116 [(1, .pt 0 0 0 0 0), (3, .pt 1 0 0 0 0), (6, .v (.int .i64 h)), (7, .v (.int .i64 (0 : Nat))), (8, .sl (2 + 0) 0 1 (off h) (2 ^ h + 1)), (46, .v (.int .i64 (depth + 1 : Nat))), (47, .v (.int .i64 h)), (53, .v (.int .i64 (statesN 3))), (54, .v (.int .i64 (0 : Nat))), (62, .v (.int .i64 (2 ^ h + 1 : Nat))), (63, .v (.int .i64 k))])
        (ntHp 3 depth p) [] K := by
  intro d
  have hp6 := pow_le6 (show h ≤ 6 by omega)
  have ho := off_le6 (show h ≤ 6 by omega)
  induction d with
  | zero =>
    intro k n p hp hi hn hpk hK
    obtain ⟨n, rfl⟩ : ∃ m, n = m + 60 := ⟨n - 60, by omega⟩
    have e : (fun s => if s = 0 then off h + (2 ^ h + 1) else p s) = p := by
      funext s; split
      · rename_i hs; subst hs; omega
      · rfl
    rw [e] at hK
    conv => whnf
    refine cndK_intro (fun h => ?_) (fun h => ?_)
    · exfalso
      simp only [decide_eq_true_eq] at h
      omega
    · conv => whnf
      exact useJ hK rfl
  | succ d ih =>
    intro k n p hp hi hn hpk hK
    obtain ⟨n, rfl⟩ : ∃ m, n = m + 60 := ⟨n - 60, by omega⟩
    have ek : IntKind.i64.wrap ((k : Int) + 1) = ((k + 1 : Nat) : Int) := by rw [wrap64 (by omega) (by omega)]; omega
    conv => whnf
    refine cndK_intro (fun h1 => ?_) (fun h1 => ?_)
    rotate_left
    · exfalso
      simp only [decide_eq_false_iff_not] at h1
      omega
    have hK2 : ∀ j, K (.exit 6) (mkJ 116 [(1, .pt 0 0 0 0 0), (3, .pt 1 0 0 0 0), (6, .v (.int .i64 h)), (46, .v (.int .i64 (depth + 1 : Nat))), (47, .v (.int .i64 h)), (53, .v (.int .i64 (statesN 3))), (54, .v (.int .i64 (0 : Nat)))] j)
        (ntHp 3 depth (fun s => if s = 0 then off h + (2 ^ h + 1) else (fun s => if s = 0 then p s + 1 else p s) s)) [] := fun j => by
      have := hK j
      have e : (fun s => if s = 0 then off h + (2 ^ h + 1) else (fun s => if s = 0 then p s + 1 else p s) s) = (fun s => if s = 0 then off h + (2 ^ h + 1) else p s) := by
        funext s; split <;> simp_all
      rw [e]; exact this
    have next := ih (k + 1) (n + 59) (fun s => if s = 0 then p s + 1 else p s) (fun s hs => by simp [hs]; exact hp s hs) (by omega) (by omega) (by simp [hpk]; omega) hK2
    clear hK hK2 ih
    have hkb : k < 2 ^ h + 1 := by omega
    obtain ⟨ov, hov⟩ := nt_get 3 depth 0 h k (p 0) hh hkb
    conv => whnf
    refine cndK_intro (fun h2 => ?_) (fun h2 => ?_)
    · have hk0 : k = 0 := by simp at h2; omega
      have hv : (lvl 3 depth h 0)[k]? = some (if 3 = 1 then 1 else 0) := by rw [hk0]; exact lvl_get0 3 depth h 0
      conv => whnf
      try (rw [h2]; conv => whnf)
      refine ⟨⟨by omega, by omega⟩, ?_⟩
      conv => whnf
      refine optK_intro _ hov ?_
      conv => whnf
      rw [ek]
      refine wk_mask [false, true, false, true, false, false, true, true, true, false, false, false, false, false, false, false, false, false, false, false, false, false, false, false, false, false, false, false, false, false, false, false, false, false, false, false, false, false, false, false, false, false, false, false, false, false, true, true, false, false, false, false, false, true, true, false, false, false, false, false, false, false, true, true] _ rfl ?_
      first | rw [nt_set 3 depth 0 h k (p 0) hpk hh hkb 1 hv] | rw [nt_set 3 depth 0 h k (p 0) hpk hh hkb 0 hv] | rw [nt_set 3 depth 0 h k (p 0) hpk hh hkb (moreZ 0) hv]
      exact next
    · have hk0 : k ≠ 0 := by simp at h2; omega
      conv => whnf
      try (rw [h2]; conv => whnf)
      refine cndK_intro (fun h3 => ?_) (fun h3 => ?_)
      · have hh0 : h = 0 := by simp at h3; omega
        have hv : (lvl 3 depth h 0)[k]? = some (if 3 = 1 then 0 else moreZ 0) := by
          have hkb2 := hkb
          rw [hh0] at hkb2 ⊢; exact lvl_get1 3 depth 0 k hk0 hkb2
        conv => whnf
        repeat (refine ⟨by rw [ints_length, fillL_length, fullZ_length]; omega, ?_⟩; conv => whnf)
        try (refine ⟨_, morep_pure _ 0 (by decide), ?_⟩; conv => whnf)
        refine ⟨⟨by omega, by omega⟩, ?_⟩
        conv => whnf
        refine optK_intro _ hov ?_
        conv => whnf
        rw [ek]
        refine wk_mask [false, true, false, true, false, false, true, true, true, false, false, false, false, false, false, false, false, false, false, false, false, false, false, false, false, false, false, false, false, false, false, false, false, false, false, false, false, false, false, false, false, false, false, false, false, false, true, true, false, false, false, false, false, true, true, false, false, false, false, false, false, false, true, true] _ rfl ?_
        first | rw [nt_set 3 depth 0 h k (p 0) hpk hh hkb 1 hv] | rw [nt_set 3 depth 0 h k (p 0) hpk hh hkb 0 hv] | rw [nt_set 3 depth 0 h k (p 0) hpk hh hkb (moreZ 0) hv]
        exact next
      · have hh0 : h ≠ 0 := by simp at h3; omega
        obtain ⟨g, rfl⟩ : ∃ g, h = g + 1 := ⟨h - 1, by omega⟩
        conv => whnf
        try (rw [h3]; conv => whnf)
        repeat (refine ⟨by rw [ints_length, fillL_length, fullZ_length]; omega, ?_⟩; conv => whnf)
        repeat rw [ints_full (fill_len 3 depth _ _)]
        have r0 : row (ntR 3 depth p) 0 g = lvl 3 depth g 0 := ntR_row 3 depth p 0 g (by decide) (by omega) (by first | exact hp 0 (by decide) | omega)
        have hbv : (lvl 3 depth (g + 1) 0)[k]? = some (bestZ 3 (row (ntR 3 depth p) 0 g) (row (ntR 3 depth p) (belowN 3 depth 0 (g + 1)) g) (moreZ 0) g k).1 := by
          rw [lvl_getS 3 depth g 0 k hk0 hkb, r0]
          first
            | rw [bestZ_one]; done
            | (rw [ntR_row 3 depth p (belowN 3 depth 0 (g + 1)) g (by first | exact (show 1 < 2 by decide) | exact belowN_lt _ _ _ _ (by decide)) (by omega)
                (by
                  by_cases he : belowN 3 depth 0 (g + 1) = 0
                  · rw [he, hpk]; omega
                  · exact hp _ he)]; done)
            | (rw [bestZ_one 
                (lvl 1 depth g 0) _ (row (ntR 1 depth p) (belowN 1 depth 0 (g + 1)) g)]; done)
        refine ⟨_, bestp_pure 3 depth (statesN 3) (ntR 3 depth p) 0 g k (by decide) hh hd (ntR_len 3 depth p 0 g (by decide) (by omega))
          (fun hne => ntR_len 3 depth p _ g (by first | exact absurd rfl hne | exact (by decide : 1 < 2) | exact belowN_lt _ _ _ _ (by decide)) (by omega)) (by rw [r0]; exact lvl_small 3 depth g 0 (by omega)) (by omega), ?_⟩
        conv => whnf
        refine ⟨⟨by omega, by omega⟩, ?_⟩
        conv => whnf
        refine optK_intro _ hov ?_
        conv => whnf
        rw [ek]
        refine wk_mask [false, true, false, true, false, false, true, true, true, false, false, false, false, false, false, false, false, false, false, false, false, false, false, false, false, false, false, false, false, false, false, false, false, false, false, false, false, false, false, false, false, false, false, false, false, false, true, true, false, false, false, false, false, true, true, false, false, false, false, false, false, false, true, true] _ rfl ?_
        rw [nt_set 3 depth 0 (g + 1) k (p 0) hpk hh hkb _ hbv]
        exact next
theorem nt_row_3_1 (E : EqT) (depth h : Nat) (hh : h ≤ depth) (hd : depth ≤ 6) (K : K) :
    ∀ (d k n : Nat) (p : Nat → Nat) (hp : ∀ s, s ≠ 1 → off h ≤ p s), k + d = 2 ^ h + 1 → d + 60 ≤ n → p 1 = off h + k →
      (∀ j, K (.exit 6) (mkJ 116 [(1, .pt 0 0 0 0 0), (3, .pt 1 0 0 0 0), (6, .v (.int .i64 h)), (46, .v (.int .i64 (depth + 1 : Nat))), (47, .v (.int .i64 h)), (53, .v (.int .i64 (statesN 3))), (54, .v (.int .i64 (1 : Nat)))] j)
        (ntHp 3 depth (fun s => if s = 1 then off h + (2 ^ h + 1) else p s)) []) →
      loopF (run Go.Proofs.Try.prog E (envL Go.Proofs.Try.prog ntEnv) n) 0 0 (loopB Go.Proofs.Try.prog 46 3)
        (mkT 116 [(1, .pt 0 0 0 0 0), (3, .pt 1 0 0 0 0), (6, .v (.int .i64 h)), (7, .v (.int .i64 (1 : Nat))), (8, .sl (2 + 1) 0 1 (off h) (2 ^ h + 1)), (46, .v (.int .i64 (depth + 1 : Nat))), (47, .v (.int .i64 h)), (53, .v (.int .i64 (statesN 3))), (54, .v (.int .i64 (1 : Nat))), (62, .v (.int .i64 (2 ^ h + 1 : Nat))), (63, .v (.int .i64 k))])
        (ntHp 3 depth p) [] K := by
  intro d
  have hp6 := pow_le6 (show h ≤ 6 by omega)
  have ho := off_le6 (show h ≤ 6 by omega)
  induction d with
  | zero =>
    intro k n p hp hi hn hpk hK
    obtain ⟨n, rfl⟩ : ∃ m, n = m + 60 := ⟨n - 60, by omega⟩
    have e : (fun s => if s = 1 then off h + (2 ^ h + 1) else p s) = p := by
      funext s; split
      · rename_i hs; subst hs; omega
      · rfl
    rw [e] at hK
    conv => whnf
    refine cndK_intro (fun h => ?_) (fun h => ?_)
    · exfalso
      simp only [decide_eq_true_eq] at h
      omega
    · conv => whnf
      exact useJ hK rfl
  | succ d ih =>
    intro k n p hp hi hn hpk hK
    obtain ⟨n, rfl⟩ : ∃ m, n = m + 60 := ⟨n - 60, by omega⟩
    have ek : IntKind.i64.wrap ((k : Int) + 1) = ((k + 1 : Nat) : Int) := by rw [wrap64 (by omega) (by omega)]; omega
    conv => whnf
    refine cndK_intro (fun h1 => ?_) (fun h1 => ?_)
    rotate_left
    · exfalso
      simp only [decide_eq_false_iff_not] at h1
      omega
    have hK2 : ∀ j, K (.exit 6) (mkJ 116 [(1, .pt 0 0 0 0 0), (3, .pt 1 0 0 0 0), (6, .v (.int .i64 h)), (46, .v (.int .i64 (depth + 1 : Nat))), (47, .v (.int .i64 h)), (53, .v (.int .i64 (statesN 3))), (54, .v (.int .i64 (1 : Nat)))] j)
        (ntHp 3 depth (fun s => if s = 1 then off h + (2 ^ h + 1) else (fun s => if s = 1 then p s + 1 else p s) s)) [] := fun j => by
      have := hK j
      have e : (fun s => if s = 1 then off h + (2 ^ h + 1) else (fun s => if s = 1 then p s + 1 else p s) s) = (fun s => if s = 1 then off h + (2 ^ h + 1) else p s) := by
        funext s; split <;> simp_all
      rw [e]; exact this
    have next := ih (k + 1) (n + 59) (fun s => if s = 1 then p s + 1 else p s) (fun s hs => by simp [hs]; exact hp s hs) (by omega) (by omega) (by simp [hpk]; omega) hK2
    clear hK hK2 ih
    have hkb : k < 2 ^ h + 1 := by omega
    obtain ⟨ov, hov⟩ := nt_get 3 depth 1 h k (p 1) hh hkb
    conv => whnf
    refine cndK_intro (fun h2 => ?_) (fun h2 => ?_)
    · have hk0 : k = 0 := by simp at h2; omega
      have hv : (lvl 3 depth h 1)[k]? = some (if 3 = 1 then 1 else 0) := by rw [hk0]; exact lvl_get0 3 depth h 1
      conv => whnf
      try (rw [h2]; conv => whnf)
      refine ⟨⟨by omega, by omega⟩, ?_⟩
      conv => whnf
      refine optK_intro _ hov ?_
      conv => whnf
      rw [ek]
      refine wk_mask [false, true, false, true, false, false, true, true, true, false, false, false, false, false, false, false, false, false, false, false, false, false, false, false, false, false, false, false, false, false, false, false, false, false, false, false, false, false, false, false, false, false, false, false, false, false, true, true, false, false, false, false, false, true, true, false, false, false, false, false, false, false, true, true] _ rfl ?_
      first | rw [nt_set 3 depth 1 h k (p 1) hpk hh hkb 1 hv] | rw [nt_set 3 depth 1 h k (p 1) hpk hh hkb 0 hv] | rw [nt_set 3 depth 1 h k (p 1) hpk hh hkb (moreZ 1) hv]
      exact next
    · have hk0 : k ≠ 0 := by simp at h2; omega
      conv => whnf
      try (rw [h2]; conv => whnf)
      refine cndK_intro (fun h3 => ?_) (fun h3 => ?_)
      · have hh0 : h = 0 := by simp at h3; omega
        have hv : (lvl 3 depth h 1)[k]? = some (if 3 = 1 then 0 else moreZ 1) := by
          have hkb2 := hkb
          rw [hh0] at hkb2 ⊢; exact lvl_get1 3 depth 1 k hk0 hkb2
        conv => whnf
        repeat (refine ⟨by rw [ints_length, fillL_length, fullZ_length]; omega, ?_⟩; conv => whnf)
        try (refine ⟨_, morep_pure _ 1 (by decide), ?_⟩; conv => whnf)
        refine ⟨⟨by omega, by omega⟩, ?_⟩
        conv => whnf
        refine optK_intro _ hov ?_
        conv => whnf
        rw [ek]
        refine wk_mask [false, true, false, true, false, false, true, true, true, false, false, false, false, false, false, false, false, false, false, false, false, false, false, false, false, false, false, false, false, false, false, false, false, false, false, false, false, false, false, false, false, false, false, false, false, false, true, true, false, false, false, false, false, true, true, false, false, false, false, false, false, false, true, true] _ rfl ?_
        first | rw [nt_set 3 depth 1 h k (p 1) hpk hh hkb 1 hv] | rw [nt_set 3 depth 1 h k (p 1) hpk hh hkb 0 hv] | rw [nt_set 3 depth 1 h k (p 1) hpk hh hkb (moreZ 1) hv]
        exact next
      · have hh0 : h ≠ 0 := by simp at h3; omega
        obtain ⟨g, rfl⟩ : ∃ g, h = g + 1 := ⟨h - 1, by omega⟩
        conv => whnf
        try (rw [h3]; conv => whnf)
        repeat (refine ⟨by rw [ints_length, fillL_length, fullZ_length]; omega, ?_⟩; conv => whnf)
        repeat rw [ints_full (fill_len 3 depth _ _)]
        have r0 : row (ntR 3 depth p) 0 g = lvl 3 depth g 0 := ntR_row 3 depth p 0 g (by decide) (by omega) (by first | exact hp 0 (by decide) | omega)
        have hbv : (lvl 3 depth (g + 1) 1)[k]? = some (bestZ 3 (row (ntR 3 depth p) 0 g) (row (ntR 3 depth p) (belowN 3 depth 1 (g + 1)) g) (moreZ 1) g k).1 := by
          rw [lvl_getS 3 depth g 1 k hk0 hkb, r0]
          first
            | rw [bestZ_one]; done
            | (rw [ntR_row 3 depth p (belowN 3 depth 1 (g + 1)) g (by first | exact (show 1 < 2 by decide) | exact belowN_lt _ _ _ _ (by decide)) (by omega)
                (by
                  by_cases he : belowN 3 depth 1 (g + 1) = 1
                  · rw [he, hpk]; omega
                  · exact hp _ he)]; done)
            | (rw [bestZ_one 
                (lvl 1 depth g 0) _ (row (ntR 1 depth p) (belowN 1 depth 0 (g + 1)) g)]; done)
        refine ⟨_, bestp_pure 3 depth (statesN 3) (ntR 3 depth p) 1 g k (by decide) hh hd (ntR_len 3 depth p 0 g (by decide) (by omega))
          (fun hne => ntR_len 3 depth p _ g (by first | exact absurd rfl hne | exact (by decide : 1 < 2) | exact belowN_lt _ _ _ _ (by decide)) (by omega)) (by rw [r0]; exact lvl_small 3 depth g 0 (by omega)) (by omega), ?_⟩
        conv => whnf
        refine ⟨⟨by omega, by omega⟩, ?_⟩
        conv => whnf
        refine optK_intro _ hov ?_
        conv => whnf
        rw [ek]
        refine wk_mask [false, true, false, true, false, false, true, true, true, false, false, false, false, false, false, false, false, false, false, false, false, false, false, false, false, false, false, false, false, false, false, false, false, false, false, false, false, false, false, false, false, false, false, false, false, false, true, true, false, false, false, false, false, true, true, false, false, false, false, false, false, false, true, true] _ rfl ?_
        rw [nt_set 3 depth 1 (g + 1) k (p 1) hpk hh hkb _ hbv]
        exact next
theorem nt_row_3_2 (E : EqT) (depth h : Nat) (hh : h ≤ depth) (hd : depth ≤ 6) (K : K) :
    ∀ (d k n : Nat) (p : Nat → Nat) (hp : ∀ s, s ≠ 2 → off h ≤ p s), k + d = 2 ^ h + 1 → d + 60 ≤ n → p 2 = off h + k →
      (∀ j, K (.exit 6) (mkJ 116 [(1, .pt 0 0 0 0 0), (3, .pt 1 0 0 0 0), (6, .v (.int .i64 h)), (46, .v (.int .i64 (depth + 1 : Nat))), (47, .v (.int .i64 h)), (53, .v (.int .i64 (statesN 3))), (54, .v (.int .i64 (2 : Nat)))] j)
        (ntHp 3 depth (fun s => if s = 2 then off h + (2 ^ h + 1) else p s)) []) →
      loopF (run Go.Proofs.Try.prog E (envL Go.Proofs.Try.prog ntEnv) n) 0 0 (loopB Go.Proofs.Try.prog 46 3)
        (mkT 116 [(1, .pt 0 0 0 0 0), (3, .pt 1 0 0 0 0), (6, .v (.int .i64 h)), (7, .v (.int .i64 (2 : Nat))), (8, .sl (2 + 2) 0 1 (off h) (2 ^ h + 1)), (46, .v (.int .i64 (depth + 1 : Nat))), (47, .v (.int .i64 h)), (53, .v (.int .i64 (statesN 3))), (54, .v (.int .i64 (2 : Nat))), (62, .v (.int .i64 (2 ^ h + 1 : Nat))), (63, .v (.int .i64 k))])
        (ntHp 3 depth p) [] K := by
  intro d
  have hp6 := pow_le6 (show h ≤ 6 by omega)
  have ho := off_le6 (show h ≤ 6 by omega)
  induction d with
  | zero =>
    intro k n p hp hi hn hpk hK
    obtain ⟨n, rfl⟩ : ∃ m, n = m + 60 := ⟨n - 60, by omega⟩
    have e : (fun s => if s = 2 then off h + (2 ^ h + 1) else p s) = p := by
      funext s; split
      · rename_i hs; subst hs; omega
      · rfl
    rw [e] at hK
    conv => whnf
    refine cndK_intro (fun h => ?_) (fun h => ?_)
    · exfalso
      simp only [decide_eq_true_eq] at h
      omega
    · conv => whnf
      exact useJ hK rfl
  | succ d ih =>
    intro k n p hp hi hn hpk hK
    obtain ⟨n, rfl⟩ : ∃ m, n = m + 60 := ⟨n - 60, by omega⟩
    have ek : IntKind.i64.wrap ((k : Int) + 1) = ((k + 1 : Nat) : Int) := by rw [wrap64 (by omega) (by omega)]; omega
    conv => whnf
    refine cndK_intro (fun h1 => ?_) (fun h1 => ?_)
    rotate_left
    · exfalso
      simp only [decide_eq_false_iff_not] at h1
      omega
    have hK2 : ∀ j, K (.exit 6) (mkJ 116 [(1, .pt 0 0 0 0 0), (3, .pt 1 0 0 0 0), (6, .v (.int .i64 h)), (46, .v (.int .i64 (depth + 1 : Nat))), (47, .v (.int .i64 h)), (53, .v (.int .i64 (statesN 3))), (54, .v (.int .i64 (2 : Nat)))] j)
        (ntHp 3 depth (fun s => if s = 2 then off h + (2 ^ h + 1) else (fun s => if s = 2 then p s + 1 else p s) s)) [] := fun j => by
      have := hK j
      have e : (fun s => if s = 2 then off h + (2 ^ h + 1) else (fun s => if s = 2 then p s + 1 else p s) s) = (fun s => if s = 2 then off h + (2 ^ h + 1) else p s) := by
        funext s; split <;> simp_all
      rw [e]; exact this
    have next := ih (k + 1) (n + 59) (fun s => if s = 2 then p s + 1 else p s) (fun s hs => by simp [hs]; exact hp s hs) (by omega) (by omega) (by simp [hpk]; omega) hK2
    clear hK hK2 ih
    have hkb : k < 2 ^ h + 1 := by omega
    obtain ⟨ov, hov⟩ := nt_get 3 depth 2 h k (p 2) hh hkb
    conv => whnf
    refine cndK_intro (fun h2 => ?_) (fun h2 => ?_)
    · have hk0 : k = 0 := by simp at h2; omega
      have hv : (lvl 3 depth h 2)[k]? = some (if 3 = 1 then 1 else 0) := by rw [hk0]; exact lvl_get0 3 depth h 2
      conv => whnf
      try (rw [h2]; conv => whnf)
      refine ⟨⟨by omega, by omega⟩, ?_⟩
      conv => whnf
      refine optK_intro _ hov ?_
      conv => whnf
      rw [ek]
      refine wk_mask [false, true, false, true, false, false, true, true, true, false, false, false, false, false, false, false, false, false, false, false, false, false, false, false, false, false, false, false, false, false, false, false, false, false, false, false, false, false, false, false, false, false, false, false, false, false, true, true, false, false, false, false, false, true, true, false, false, false, false, false, false, false, true, true] _ rfl ?_
      first | rw [nt_set 3 depth 2 h k (p 2) hpk hh hkb 1 hv] | rw [nt_set 3 depth 2 h k (p 2) hpk hh hkb 0 hv] | rw [nt_set 3 depth 2 h k (p 2) hpk hh hkb (moreZ 2) hv]
      exact next
    · have hk0 : k ≠ 0 := by simp at h2; omega
      conv => whnf
      try (rw [h2]; conv => whnf)
      refine cndK_intro (fun h3 => ?_) (fun h3 => ?_)
      · have hh0 : h = 0 := by simp at h3; omega
        have hv : (lvl 3 depth h 2)[k]? = some (if 3 = 1 then 0 else moreZ 2) := by
          have hkb2 := hkb
          rw [hh0] at hkb2 ⊢; exact lvl_get1 3 depth 2 k hk0 hkb2
        conv => whnf
        repeat (refine ⟨by rw [ints_length, fillL_length, fullZ_length]; omega, ?_⟩; conv => whnf)
        try (refine ⟨_, morep_pure _ 2 (by decide), ?_⟩; conv => whnf)
        refine ⟨⟨by omega, by omega⟩, ?_⟩
        conv => whnf
        refine optK_intro _ hov ?_
        conv => whnf
        rw [ek]
        refine wk_mask [false, true, false, true, false, false, true, true, true, false, false, false, false, false, false, false, false, false, false, false, false, false, false, false, false, false, false, false, false, false, false, false, false, false, false, false, false, false, false, false, false, false, false, false, false, false, true, true, false, false, false, false, false, true, true, false, false, false, false, false, false, false, true, true] _ rfl ?_
        first | rw [nt_set 3 depth 2 h k (p 2) hpk hh hkb 1 hv] | rw [nt_set 3 depth 2 h k (p 2) hpk hh hkb 0 hv] | rw [nt_set 3 depth 2 h k (p 2) hpk hh hkb (moreZ 2) hv]
        exact next
      · have hh0 : h ≠ 0 := by simp at h3; omega
        obtain ⟨g, rfl⟩ : ∃ g, h = g + 1 := ⟨h - 1, by omega⟩
        conv => whnf
        try (rw [h3]; conv => whnf)
        repeat (refine ⟨by rw [ints_length, fillL_length, fullZ_length]; omega, ?_⟩; conv => whnf)
        repeat rw [ints_full (fill_len 3 depth _ _)]
        have r0 : row (ntR 3 depth p) 0 g = lvl 3 depth g 0 := ntR_row 3 depth p 0 g (by decide) (by omega) (by first | exact hp 0 (by decide) | omega)
        have hbv : (lvl 3 depth (g + 1) 2)[k]? = some (bestZ 3 (row (ntR 3 depth p) 0 g) (row (ntR 3 depth p) (belowN 3 depth 2 (g + 1)) g) (moreZ 2) g k).1 := by
          rw [lvl_getS 3 depth g 2 k hk0 hkb, r0]
          first
            | rw [bestZ_one]; done
            | (rw [ntR_row 3 depth p (belowN 3 depth 2 (g + 1)) g (by first | exact (show 1 < 2 by decide) | exact belowN_lt _ _ _ _ (by decide)) (by omega)
                (by
                  by_cases he : belowN 3 depth 2 (g + 1) = 2
                  · rw [he, hpk]; omega
                  · exact hp _ he)]; done)
            | (rw [bestZ_one 
                (lvl 1 depth g 0) _ (row (ntR 1 depth p) (belowN 1 depth 0 (g + 1)) g)]; done)
        refine ⟨_, bestp_pure 3 depth (statesN 3) (ntR 3 depth p) 2 g k (by decide) hh hd (ntR_len 3 depth p 0 g (by decide) (by omega))
          (fun hne => ntR_len 3 depth p _ g (by first | exact absurd rfl hne | exact (by decide : 1 < 2) | exact belowN_lt _ _ _ _ (by decide)) (by omega)) (by rw [r0]; exact lvl_small 3 depth g 0 (by omega)) (by omega), ?_⟩
        conv => whnf
        refine ⟨⟨by omega, by omega⟩, ?_⟩
        conv => whnf
        refine optK_intro _ hov ?_
        conv => whnf
        rw [ek]
        refine wk_mask [false, true, false, true, false, false, true, true, true, false, false, false, false, false, false, false, false, false, false, false, false, false, false, false, false, false, false, false, false, false, false, false, false, false, false, false, false, false, false, false, false, false, false, false, false, false, true, true, false, false, false, false, false, true, true, false, false, false, false, false, false, false, true, true] _ rfl ?_
        rw [nt_set 3 depth 2 (g + 1) k (p 2) hpk hh hkb _ hbv]
        exact next
theorem nt_row_3_3 (E : EqT) (depth h : Nat) (hh : h ≤ depth) (hd : depth ≤ 6) (K : K) :
    ∀ (d k n : Nat) (p : Nat → Nat) (hp : ∀ s, s ≠ 3 → off h ≤ p s), k + d = 2 ^ h + 1 → d + 60 ≤ n → p 3 = off h + k →
      (∀ j, K (.exit 6) (mkJ 116 [(1, .pt 0 0 0 0 0), (3, .pt 1 0 0 0 0), (6, .v (.int .i64 h)), (46, .v (.int .i64 (depth + 1 : Nat))), (47, .v (.int .i64 h)), (53, .v (.int .i64 (statesN 3))), (54, .v (.int .i64 (3 : Nat)))] j)
        (ntHp 3 depth (fun s => if s = 3 then off h + (2 ^ h + 1) else p s)) []) →
      loopF (run Go.Proofs.Try.prog E (envL Go.Proofs.Try.prog ntEnv) n) 0 0 (loopB Go.Proofs.Try.prog 46 3)
        (mkT 116 [(1, .pt 0 0 0 0 0), (3, .pt 1 0 0 0 0), (6, .v (.int .i64 h)), (7, .v (.int .i64 (3 : Nat))), (8, .sl (2 + 3) 0 1 (off h) (2 ^ h + 1)), (46, .v (.int .i64 (depth + 1 : Nat))), (47, .v (.int .i64 h)), (53, .v (.int .i64 (statesN 3))), (54, .v (.int .i64 (3 : Nat))), (62, .v (.int .i64 (2 ^ h + 1 : Nat))), (63, .v (.int .i64 k))])
        (ntHp 3 depth p) [] K := by
  intro d
  have hp6 := pow_le6 (show h ≤ 6 by omega)
  have ho := off_le6 (show h ≤ 6 by omega)
  induction d with
  | zero =>
    intro k n p hp hi hn hpk hK
    obtain ⟨n, rfl⟩ : ∃ m, n = m + 60 := ⟨n - 60, by omega⟩
    have e : (fun s => if s = 3 then off h + (2 ^ h + 1) else p s) = p := by
      funext s; split
      · rename_i hs; subst hs; omega
      · rfl
    rw [e] at hK
    conv => whnf
    refine cndK_intro (fun h => ?_) (fun h => ?_)
    · exfalso
      simp only [decide_eq_true_eq] at h
      omega
    · conv => whnf
      exact useJ hK rfl
  | succ d ih =>
    intro k n p hp hi hn hpk hK
    obtain ⟨n, rfl⟩ : ∃ m, n = m + 60 := ⟨n - 60, by omega⟩
    have ek : IntKind.i64.wrap ((k : Int) + 1) = ((k + 1 : Nat) : Int) := by rw [wrap64 (by omega) (by omega)]; omega
    conv => whnf
    refine cndK_intro (fun h1 => ?_) (fun h1 => ?_)
    rotate_left
    · exfalso
      simp only [decide_eq_false_iff_not] at h1
      omega
    have hK2 : ∀ j, K (.exit 6) (mkJ 116 [(1, .pt 0 0 0 0 0), (3, .pt 1 0 0 0 0), (6, .v (.int .i64 h)), (46, .v (.int .i64 (depth + 1 : Nat))), (47, .v (.int .i64 h)), (53, .v (.int .i64 (statesN 3))), (54, .v (.int .i64 (3 : Nat)))] j)
        (ntHp 3 depth (fun s => if s = 3 then off h + (2 ^ h + 1) else (fun s => if s = 3 then p s + 1 else p s) s)) [] := fun j => by
      have := hK j
      have e : (fun s => if s = 3 then off h + (2 ^ h + 1) else (fun s => if s = 3 then p s + 1 else p s) s) = (fun s => if s = 3 then off h + (2 ^ h + 1) else p s) := by
        funext s; split <;> simp_all
      rw [e]; exact this
    have next := ih (k + 1) (n + 59) (fun s => if s = 3 then p s + 1 else p s) (fun s hs => by simp [hs]; exact hp s hs) (by omega) (by omega) (by simp [hpk]; omega) hK2
    clear hK hK2 ih
    have hkb : k < 2 ^ h + 1 := by omega
    obtain ⟨ov, hov⟩ := nt_get 3 depth 3 h k (p 3) hh hkb
    conv => whnf
    refine cndK_intro (fun h2 => ?_) (fun h2 => ?_)
    · have hk0 : k = 0 := by simp at h2; omega
      have hv : (lvl 3 depth h 3)[k]? = some (if 3 = 1 then 1 else 0) := by rw [hk0]; exact lvl_get0 3 depth h 3
      conv => whnf
      try (rw [h2]; conv => whnf)
      refine ⟨⟨by omega, by omega⟩, ?_⟩
      conv => whnf
      refine optK_intro _ hov ?_
      conv => whnf
      rw [ek]
      refine wk_mask [false, true, false, true, false, false, true, true, true, false, false, false, false, false, false, false, false, false, false, false, false, false, false, false, false, false, false, false, false, false, false, false, false, false, false, false, false, false, false, false, false, false, false, false, false, false, true, true, false, false, false, false, false, true, true, false, false, false, false, false, false, false, true, true] _ rfl ?_
      first | rw [nt_set 3 depth 3 h k (p 3) hpk hh hkb 1 hv] | rw [nt_set 3 depth 3 h k (p 3) hpk hh hkb 0 hv] | rw [nt_set 3 depth 3 h k (p 3) hpk hh hkb (moreZ 3) hv]
      exact next
    · have hk0 : k ≠ 0 := by simp at h2; omega
      conv => whnf
      try (rw [h2]; conv => whnf)
      refine cndK_intro (fun h3 => ?_) (fun h3 => ?_)
      · have hh0 : h = 0 := by simp at h3; omega
        have hv : (lvl 3 depth h 3)[k]? = some (if 3 = 1 then 0 else moreZ 3) := by
          have hkb2 := hkb
          rw [hh0] at hkb2 ⊢; exact lvl_get1 3 depth 3 k hk0 hkb2
        conv => whnf
        repeat (refine ⟨by rw [ints_length, fillL_length, fullZ_length]; omega, ?_⟩; conv => whnf)
        try (refine ⟨_, morep_pure _ 3 (by decide), ?_⟩; conv => whnf)
        refine ⟨⟨by omega, by omega⟩, ?_⟩
        conv => whnf
        refine optK_intro _ hov ?_
        conv => whnf
        rw [ek]
        refine wk_mask [false, true, false, true, false, false, true, true, true, false, false, false, false, false, false, false, false, false, false, false, false, false, false, false, false, false, false, false, false, false, false, false, false, false, false, false, false, false, false, false, false, false, false, false, false, false, true, true, false, false, false, false, false, true, true, false, false, false, false, false, false, false, true, true] _ rfl ?_
        first | rw [nt_set 3 depth 3 h k (p 3) hpk hh hkb 1 hv] | rw [nt_set 3 depth 3 h k (p 3) hpk hh hkb 0 hv] | rw [nt_set 3 depth 3 h k (p 3) hpk hh hkb (moreZ 3) hv]
        exact next
      · have hh0 : h ≠ 0 := by simp at h3; omega
        obtain ⟨g, rfl⟩ : ∃ g, h = g + 1 := ⟨h - 1, by omega⟩
        conv => whnf
        try (rw [h3]; conv => whnf)
        repeat (refine ⟨by rw [ints_length, fillL_length, fullZ_length]; omega, ?_⟩; conv => whnf)
        repeat rw [ints_full (fill_len 3 depth _ _)]
        have r0 : row (ntR 3 depth p) 0 g = lvl 3 depth g 0 := ntR_row 3 depth p 0 g (by decide) (by omega) (by first | exact hp 0 (by decide) | omega)
        have hbv : (lvl 3 depth (g + 1) 3)[k]? = some (bestZ 3 (row (ntR 3 depth p) 0 g) (row (ntR 3 depth p) (belowN 3 depth 3 (g + 1)) g) (moreZ 3) g k).1 := by
          rw [lvl_getS 3 depth g 3 k hk0 hkb, r0]
          first
            | rw [bestZ_one]; done
            | (rw [ntR_row 3 depth p (belowN 3 depth 3 (g + 1)) g (by first | exact (show 1 < 2 by decide) | exact belowN_lt _ _ _ _ (by decide)) (by omega)
                (by
                  by_cases he : belowN 3 depth 3 (g + 1) = 3
                  · rw [he, hpk]; omega
                  · exact hp _ he)]; done)
            | (rw [bestZ_one 
                (lvl 1 depth g 0) _ (row (ntR 1 depth p) (belowN 1 depth 0 (g + 1)) g)]; done)
        refine ⟨_, bestp_pure 3 depth (statesN 3) (ntR 3 depth p) 3 g k (by decide) hh hd (ntR_len 3 depth p 0 g (by decide) (by omega))
          (fun hne => ntR_len 3 depth p _ g (by first | exact absurd rfl hne | exact (by decide : 1 < 2) | exact belowN_lt _ _ _ _ (by decide)) (by omega)) (by rw [r0]; exact lvl_small 3 depth g 0 (by omega)) (by omega), ?_⟩
        conv => whnf
        refine ⟨⟨by omega, by omega⟩, ?_⟩
        conv => whnf
        refine optK_intro _ hov ?_
        conv => whnf
        rw [ek]
        refine wk_mask [false, true, false, true, false, false, true, true, true, false, false, false, false, false, false, false, false, false, false, false, false, false, false, false, false, false, false, false, false, false, false, false, false, false, false, false, false, false, false, false, false, false, false, false, false, false, true, true, false, false, false, false, false, true, true, false, false, false, false, false, false, false, true, true] _ rfl ?_
        rw [nt_set 3 depth 3 (g + 1) k (p 3) hpk hh hkb _ hbv]
        exact next
end Go.YtoeophdffhmpmaaE
