/- R4: headendref10: TablesOf. R5: headendref10: TablesOf, the end. R6: headendref10: asked, Worst, WitnessOf, Witness. Q1: headendref10.Great, SameTables; slices.Equal, EqualFunc, Clone. Q2: slices.Clone; headendref10.Tables, SameTables, CheckTables; plan.Tables, CheckTables. Q3: headendref10.Great, CheckTables; plan.Tables, CheckTables. Q4: plan.Tables: the loops. Q5: headendref10.Great. Q6: plan.Tables, plan.CheckTables: contracts. N1: plan.within, CheckNeed; headendref10.ValidNeed, CheckNeed. -/
import Derived.Test.YtoeophdffhmpmaaG4

section
set_option linter.unusedVariables false
set_option linter.unusedSimpArgs false
set_option maxRecDepth 100000
set_option maxHeartbeats 4000000
namespace Go.YtoeophdffhmpmaaE
open Go Go.RowKit

def rowsZ (kind d s h : Nat) : List (List Int) := (List.range h).map fun g => lvl kind d g s
def TZ (kind d : Nat) : List (List (List Int)) := (List.range (statesN kind)).map fun s => rowsZ kind d s (d + 1)
theorem rowsZ_succ (kind d s h : Nat) : rowsZ kind d s (h + 1) = rowsZ kind d s h ++ [lvl kind d h s] := by simp [rowsZ, List.range_succ]
def toEnv : List Nat := [79, 80, 81]
theorem wk_cv {nb nl : Nat} {ts : List A} {hp : List Blk} {lp : List Lp} {k : List A → List Blk → List Lp → Prop} (b d : Nat) (bs : List Nat) (hp1 : List Blk) {fz fz1 nx : Bool} {ver es : Nat} {els els2 : List (List A)}
    (hb : hp.getD b .hole = .rw fz nx ver es els) (hc : RowsF (convD d hp) els els2) (hbs : ∀ x ∈ blocksW (blocksD d hp) els, x ∈ bs) (hf : freezeK hp bs fun hp => hp = hp1) (hb1 : hp1.getD b .hole = .rw fz1 nx ver es els)
    (hk : ∃ ts2 hp2 lp2, Wk nb nl ts (hp1.set b (.rw fz1 false ver es els2)) lp ts2 hp2 lp2 ∧ k ts2 hp2 lp2) : ∃ ts2 hp2 lp2, Wk nb nl ts hp lp ts2 hp2 lp2 ∧ k ts2 hp2 lp2 := by
  obtain ⟨ts2, hp2, lp2, h1, h2⟩ := hk
  exact ⟨ts2, hp2, lp2, .trans (.cv b d bs hb hc hbs hf hb1) h1, h2⟩
theorem rowsF_snoc' (f : A → (A → Prop) → Prop) (L : List (List Int)) (xs : List Int) (p v len : Nat) (h1 : ∀ e, f (.ro e) (fun x => x = .ro e)) (h2 : f (.sl p v 1 0 len) (fun x => x = .ro (ints xs))) :
    RowsF f (nest2 L ++ [[.sl p v 1 0 len]]) (nest2 (L ++ [xs])) := by
  refine ⟨by simp [nest2], fun i hi => ?_⟩
  have e : nest2 (L ++ [xs]) = nest2 L ++ [[.ro (ints xs)]] := by simp [nest2]
  rw [e]
  by_cases h : i < (nest2 L).length
  · have e1 : ∀ x : List A, (nest2 L ++ [x]).getD i [] = (nest2 L).getD i [] := fun x => by simp [List.getD_eq_getElem?_getD, List.getElem?_append_left h]
    rw [e1, e1]
    have hn : i < L.length := by simpa [nest2] using h
    have e2 : (nest2 L).getD i [] = [.ro (ints L[i])] := by simp [List.getD_eq_getElem?_getD, nest2, hn]
    rw [e2]
    refine ⟨rfl, fun j hj => ?_⟩
    have : j = 0 := by simp at hj; omega
    subst this
    exact h1 (ints L[i])
  · have hi' : i = (nest2 L).length := by simp [nest2] at hi h ⊢; omega
    have e1 : ∀ x : List A, (nest2 L ++ [x]).getD i [] = x := fun x => by simp [List.getD_eq_getElem?_getD, hi']
    rw [e1, e1]
    refine ⟨rfl, fun j hj => ?_⟩
    have : j = 0 := by simp at hj; omega
    subst this
    exact h2
theorem rowsF_snoc (hp : List Blk) (L : List (List Int)) (xs : List Int) (p v len : Nat) {fz : Bool} (hb : hp.getD p .hole = .rw fz false v 1 (ints xs)) (hl : len = xs.length) :
    RowsF (convD 0 hp) (nest2 L ++ [[.sl p v 1 0 len]]) (nest2 (L ++ [xs])) := by
  refine rowsF_snoc' _ L xs p v len (fun e => rfl) ?_
  change conv1 hp (.sl p v 1 0 len) fun x => x = .ro (ints xs)
  unfold conv1
  dsimp only
  rw [hb]
  dsimp only
  rw [show (v == v && 1 == 1) = true by simp]
  refine ⟨by rw [ints_length]; omega, ?_⟩
  rw [ints_full hl]
theorem blocksW_snoc (L : List (List Int)) (p v len : Nat) : blocksW blocks1 (nest2 L ++ [[.sl p v 1 0 len]]) = [p] := by
  induction L with
  | nil => rfl
  | cons x L ih => exact ih
theorem nest_last (L : List (List Int)) (a : List A) (n : Nat) (h : n = L.length) : (nest2 L ++ [a])[n]? = some a := by subst h; simp [nest2]
theorem rowsZ_length (kind d s h : Nat) : (rowsZ kind d s h).length = h := by simp [rowsZ]
theorem to_rows (hp : List Blk) (L : List (List Int)) (xs : List Int) (p v len n : Nat) {fz : Bool} (hb : hp.getD p .hole = .rw fz false v 1 (ints xs)) (hl : len = xs.length) (hn : n = L.length + 1) :
    RowsF (convD 1 hp) (((nest2 L ++ [[A.sl p v 1 0 len]]).drop 0).take n) (nest2 (L ++ [xs])) := by
  rw [List.drop_zero, List.take_of_length_le (by simp [nest2]; omega)]
  refine rowsF_snoc' _ L xs p v len (fun e => rfl) ?_
  change (match hp.getD p .hole with
        | .rw _ nx ver' es' els => match nx with
          | false => chk (v == ver' && 1 == es') (0 + len ≤ els.length ∧ A.ro ((els.drop 0).take len) = .ro (ints xs))
          | true => _
        | _ => False)
  rw [hb]
  show chk (v == v && 1 == 1) _
  rw [show (v == v && 1 == 1) = true by simp]
  refine ⟨by rw [ints_length]; omega, ?_⟩
  rw [ints_full hl]
theorem rowsZ_get (kind d s g : Nat) (x : List Int) : (rowsZ kind d s (g + 1) ++ [x])[g]? = some (lvl kind d g s) := by
  rw [List.getElem?_append_left (by rw [rowsZ_length]; omega)]
  simp [rowsZ]
theorem to_repl (kind d h s : Nat) : List.replicate ((2 ^ h + 1 : Nat) : Int).toNat [A.v (.int .i64 0)] = ints (fillL (lvl kind d h s) 0) := by
  rw [fillL_none, lvl_length, Int.toNat_natCast]; simp [ints]
theorem to_set (kind d st h k pp : Nat) (hpk : pp = k) (v : Int) (hv : (lvl kind d h st)[k]? = some v) :
    (ints (fillL (lvl kind d h st) pp)).set (0 + (k : Int).toNat) [.v (.int .i64 v)] = ints (fillL (lvl kind d h st) (pp + 1)) := by
  subst hpk
  rw [Int.toNat_natCast, Nat.zero_add, ints_set, fillL_set _ _ _ hv]
theorem to_get (kind d st h k pp : Nat) (hk : k < 2 ^ h + 1) : ∃ v, (ints (fillL (lvl kind d h st) pp))[0 + (k : Int).toNat]? = some [.v (.int .i64 v)] := by
  rw [Int.toNat_natCast, Nat.zero_add]
  exact ⟨_, ints_get _ _ (by rw [fillL_length, lvl_length]; omega)⟩
def toHp1 (d h : Nat) : List Blk := [.bx false [.v (.int .u8 1), .v (.int .i64 d), .v (.int .i64 0), .v (.int .u64 0), .v (.int .u64 0), .v (.int .u64 0)], .rw false true 0 1 [[.sl 2 0 1 0 h]], .rw false false 0 1 (nest2 (rowsZ 1 d 0 h))]
def toHm1 (d h : Nat) : List Blk := [.bx false [.v (.int .u8 1), .v (.int .i64 d), .v (.int .i64 0), .v (.int .u64 0), .v (.int .u64 0), .v (.int .u64 0)], .rw false true 0 1 [[.sl 2 1 1 0 (h + 1)]], .rw false true 1 1 (nest2 (rowsZ 1 d 0 h) ++ [[A.sl 3 0 1 0 (2 ^ h + 1)]]), .rw false false 0 1 (ints (lvl 1 d h 0)), .rw false true 0 1 [[.sl 3 0 1 0 (2 ^ h + 1)]]]
def toHf1 (d h : Nat) (p : Nat → Nat) : List Blk := [.bx false [.v (.int .u8 1), .v (.int .i64 d), .v (.int .i64 0), .v (.int .u64 0), .v (.int .u64 0), .v (.int .u64 0)], .rw false true 0 1 [[.sl 2 1 1 0 (h + 1)]], .rw false true 1 1 (nest2 (rowsZ 1 d 0 h) ++ [[A.sl 3 0 1 0 (2 ^ h + 1)]]), .rw false false 0 1 (ints (fillL (lvl 1 d h 0) (p 0))), .rw false true 0 1 [[.sl 3 0 1 0 (2 ^ h + 1)]]]
def toHp2 (d h : Nat) : List Blk := [.bx false [.v (.int .u8 2), .v (.int .i64 d), .v (.int .i64 0), .v (.int .u64 0), .v (.int .u64 0), .v (.int .u64 0)], .rw false true 0 1 [[.sl 2 0 1 0 h], [.sl 3 0 1 0 h]], .rw false false 0 1 (nest2 (rowsZ 2 d 0 h)), .rw false false 0 1 (nest2 (rowsZ 2 d 1 h))]
def toHm2 (d h : Nat) : List Blk := [.bx false [.v (.int .u8 2), .v (.int .i64 d), .v (.int .i64 0), .v (.int .u64 0), .v (.int .u64 0), .v (.int .u64 0)], .rw false true 0 1 [[.sl 2 1 1 0 (h + 1)], [.sl 3 1 1 0 (h + 1)]], .rw false true 1 1 (nest2 (rowsZ 2 d 0 h) ++ [[A.sl 4 0 1 0 (2 ^ h + 1)]]), .rw false true 1 1 (nest2 (rowsZ 2 d 1 h) ++ [[A.sl 6 0 1 0 (2 ^ h + 1)]]), .rw false false 0 1 (ints (lvl 2 d h 0)), .rw false true 0 1 [[.sl 4 0 1 0 (2 ^ h + 1)]], .rw false false 0 1 (ints (lvl 2 d h 1)), .rw false true 0 1 [[.sl 6 0 1 0 (2 ^ h + 1)]]]
def toHf2 (d h : Nat) (p : Nat → Nat) : List Blk := [.bx false [.v (.int .u8 2), .v (.int .i64 d), .v (.int .i64 0), .v (.int .u64 0), .v (.int .u64 0), .v (.int .u64 0)], .rw false true 0 1 [[.sl 2 1 1 0 (h + 1)], [.sl 3 1 1 0 (h + 1)]], .rw false true 1 1 (nest2 (rowsZ 2 d 0 h) ++ [[A.sl 4 0 1 0 (2 ^ h + 1)]]), .rw false true 1 1 (nest2 (rowsZ 2 d 1 h) ++ [[A.sl 6 0 1 0 (2 ^ h + 1)]]), .rw false false 0 1 (ints (fillL (lvl 2 d h 0) (p 0))), .rw false true 0 1 [[.sl 4 0 1 0 (2 ^ h + 1)]], .rw false false 0 1 (ints (fillL (lvl 2 d h 1) (p 1))), .rw false true 0 1 [[.sl 6 0 1 0 (2 ^ h + 1)]]]
def toHp3 (d h : Nat) : List Blk := [.bx false [.v (.int .u8 3), .v (.int .i64 d), .v (.int .i64 0), .v (.int .u64 0), .v (.int .u64 0), .v (.int .u64 0)], .rw false true 0 1 [[.sl 2 0 1 0 h], [.sl 3 0 1 0 h], [.sl 4 0 1 0 h], [.sl 5 0 1 0 h]], .rw false false 0 1 (nest2 (rowsZ 3 d 0 h)), .rw false false 0 1 (nest2 (rowsZ 3 d 1 h)), .rw false false 0 1 (nest2 (rowsZ 3 d 2 h)), .rw false false 0 1 (nest2 (rowsZ 3 d 3 h))]
def toHm3 (d h : Nat) : List Blk := [.bx false [.v (.int .u8 3), .v (.int .i64 d), .v (.int .i64 0), .v (.int .u64 0), .v (.int .u64 0), .v (.int .u64 0)], .rw false true 0 1 [[.sl 2 1 1 0 (h + 1)], [.sl 3 1 1 0 (h + 1)], [.sl 4 1 1 0 (h + 1)], [.sl 5 1 1 0 (h + 1)]], .rw false true 1 1 (nest2 (rowsZ 3 d 0 h) ++ [[A.sl 6 0 1 0 (2 ^ h + 1)]]), .rw false true 1 1 (nest2 (rowsZ 3 d 1 h) ++ [[A.sl 8 0 1 0 (2 ^ h + 1)]]), .rw false true 1 1 (nest2 (rowsZ 3 d 2 h) ++ [[A.sl 10 0 1 0 (2 ^ h + 1)]]), .rw false true 1 1 (nest2 (rowsZ 3 d 3 h) ++ [[A.sl 12 0 1 0 (2 ^ h + 1)]]), .rw false false 0 1 (ints (lvl 3 d h 0)), .rw false true 0 1 [[.sl 6 0 1 0 (2 ^ h + 1)]], .rw false false 0 1 (ints (lvl 3 d h 1)), .rw false true 0 1 [[.sl 8 0 1 0 (2 ^ h + 1)]], .rw false false 0 1 (ints (lvl 3 d h 2)), .rw false true 0 1 [[.sl 10 0 1 0 (2 ^ h + 1)]], .rw false false 0 1 (ints (lvl 3 d h 3)), .rw false true 0 1 [[.sl 12 0 1 0 (2 ^ h + 1)]]]
def toHf3 (d h : Nat) (p : Nat → Nat) : List Blk := [.bx false [.v (.int .u8 3), .v (.int .i64 d), .v (.int .i64 0), .v (.int .u64 0), .v (.int .u64 0), .v (.int .u64 0)], .rw false true 0 1 [[.sl 2 1 1 0 (h + 1)], [.sl 3 1 1 0 (h + 1)], [.sl 4 1 1 0 (h + 1)], [.sl 5 1 1 0 (h + 1)]], .rw false true 1 1 (nest2 (rowsZ 3 d 0 h) ++ [[A.sl 6 0 1 0 (2 ^ h + 1)]]), .rw false true 1 1 (nest2 (rowsZ 3 d 1 h) ++ [[A.sl 8 0 1 0 (2 ^ h + 1)]]), .rw false true 1 1 (nest2 (rowsZ 3 d 2 h) ++ [[A.sl 10 0 1 0 (2 ^ h + 1)]]), .rw false true 1 1 (nest2 (rowsZ 3 d 3 h) ++ [[A.sl 12 0 1 0 (2 ^ h + 1)]]), .rw false false 0 1 (ints (fillL (lvl 3 d h 0) (p 0))), .rw false true 0 1 [[.sl 6 0 1 0 (2 ^ h + 1)]], .rw false false 0 1 (ints (fillL (lvl 3 d h 1) (p 1))), .rw false true 0 1 [[.sl 8 0 1 0 (2 ^ h + 1)]], .rw false false 0 1 (ints (fillL (lvl 3 d h 2) (p 2))), .rw false true 0 1 [[.sl 10 0 1 0 (2 ^ h + 1)]], .rw false false 0 1 (ints (fillL (lvl 3 d h 3) (p 3))), .rw false true 0 1 [[.sl 12 0 1 0 (2 ^ h + 1)]]]
theorem to_end_1 (d h : Nat) {k : List A → List Blk → List Lp → Prop} (i : Int) (hk : k (mkT 90 [(1, .pt 0 0 0 0 0), (3, .sl 1 0 1 0 1), (4, .v (.int .i64 i))]) (toHp1 d (h + 1)) []) :
    ∃ ts2 hp2 lp2, Wk 0 0 (mkT 90 [(1, .pt 0 0 0 0 0), (3, .sl 1 0 1 0 1), (4, .v (.int .i64 i))]) (toHm1 d h) [] ts2 hp2 lp2 ∧ k ts2 hp2 lp2 := by
  refine wk_cv 2 0 [3] [.bx false [.v (.int .u8 1), .v (.int .i64 d), .v (.int .i64 0), .v (.int .u64 0), .v (.int .u64 0), .v (.int .u64 0)], .rw false true 0 1 [[.sl 2 1 1 0 (h + 1)]], .rw false true 1 1 (nest2 (rowsZ 1 d 0 h) ++ [[A.sl 3 0 1 0 (2 ^ h + 1)]]), .rw true false 0 1 (ints (lvl 1 d h 0)), .rw false true 0 1 [[.sl 3 0 1 0 (2 ^ h + 1)]]] rfl (rowsF_snoc _ (rowsZ 1 d 0 h) (lvl 1 d h 0) 3 0 (2 ^ h + 1) rfl (lvl_length ..).symm) (fun x hx => by rw [← blocksW_snoc (rowsZ 1 d 0 h) 3 0 (2 ^ h + 1)]; exact hx) rfl rfl ?_
  refine gc_step ⟨[false, true, false, true, true], [0,1,2], 0⟩ (mkT 90 [(1, .pt 0 0 0 0 0), (3, .sl 1 0 1 0 1), (4, .v (.int .i64 i))]) (toHp1 d (h + 1)) [] (fun k hk => ?_) hk
  unfold toHp1 at hk
  rw [rowsZ_succ 1 d 0 h] at hk
  exact hk
def toHz1 (d : Nat) : List Blk := [.bx false [.v (.int .u8 1), .v (.int .i64 d), .v (.int .i64 0), .v (.int .u64 0), .v (.int .u64 0), .v (.int .u64 0)], .rw false true 0 1 [[.sl 3 0 1 0 1]], .rw false false 0 1 (ints (lvl 1 d 0 0)), .rw false true 0 1 (nest2 (rowsZ 1 d 0 0) ++ [[A.sl 2 0 1 0 (2 ^ 0 + 1)]])]
theorem to_endz_1 (d : Nat) {k : List A → List Blk → List Lp → Prop} (i : Int) (hk : k (mkT 90 [(1, .pt 0 0 0 0 0), (3, .sl 1 0 1 0 1), (4, .v (.int .i64 i))]) (toHp1 d 1) []) :
    ∃ ts2 hp2 lp2, Wk 0 0 (mkT 90 [(1, .pt 0 0 0 0 0), (3, .sl 1 0 1 0 1), (4, .v (.int .i64 i))]) (toHz1 d) [] ts2 hp2 lp2 ∧ k ts2 hp2 lp2 := by
  refine wk_cv 3 0 [2] [.bx false [.v (.int .u8 1), .v (.int .i64 d), .v (.int .i64 0), .v (.int .u64 0), .v (.int .u64 0), .v (.int .u64 0)], .rw false true 0 1 [[.sl 3 0 1 0 1]], .rw true false 0 1 (ints (lvl 1 d 0 0)), .rw false true 0 1 (nest2 (rowsZ 1 d 0 0) ++ [[A.sl 2 0 1 0 (2 ^ 0 + 1)]])] rfl (rowsF_snoc _ (rowsZ 1 d 0 0) (lvl 1 d 0 0) 2 0 (2 ^ 0 + 1) rfl (lvl_length ..).symm) (fun x hx => by rw [← blocksW_snoc (rowsZ 1 d 0 0) 2 0 (2 ^ 0 + 1)]; exact hx) rfl rfl ?_
  refine gc_step ⟨[false, true, false, true, true], [0,1,3], 0⟩ (mkT 90 [(1, .pt 0 0 0 0 0), (3, .sl 1 0 1 0 1), (4, .v (.int .i64 i))]) (toHp1 d 1) [] (fun k hk => ?_) hk
  unfold toHp1 at hk
  rw [rowsZ_succ 1 d 0 0] at hk
  exact hk
theorem to_end_2 (d h : Nat) {k : List A → List Blk → List Lp → Prop} (i : Int) (hk : k (mkT 90 [(1, .pt 0 0 0 0 0), (3, .sl 1 0 1 0 2), (4, .v (.int .i64 i))]) (toHp2 d (h + 1)) []) :
    ∃ ts2 hp2 lp2, Wk 0 0 (mkT 90 [(1, .pt 0 0 0 0 0), (3, .sl 1 0 1 0 2), (4, .v (.int .i64 i))]) (toHm2 d h) [] ts2 hp2 lp2 ∧ k ts2 hp2 lp2 := by
  refine wk_cv 2 0 [4] [.bx false [.v (.int .u8 2), .v (.int .i64 d), .v (.int .i64 0), .v (.int .u64 0), .v (.int .u64 0), .v (.int .u64 0)], .rw false true 0 1 [[.sl 2 1 1 0 (h + 1)], [.sl 3 1 1 0 (h + 1)]], .rw false true 1 1 (nest2 (rowsZ 2 d 0 h) ++ [[A.sl 4 0 1 0 (2 ^ h + 1)]]), .rw false true 1 1 (nest2 (rowsZ 2 d 1 h) ++ [[A.sl 6 0 1 0 (2 ^ h + 1)]]), .rw true false 0 1 (ints (lvl 2 d h 0)), .rw false true 0 1 [[.sl 4 0 1 0 (2 ^ h + 1)]], .rw false false 0 1 (ints (lvl 2 d h 1)), .rw false true 0 1 [[.sl 6 0 1 0 (2 ^ h + 1)]]] rfl (rowsF_snoc _ (rowsZ 2 d 0 h) (lvl 2 d h 0) 4 0 (2 ^ h + 1) rfl (lvl_length ..).symm) (fun x hx => by rw [← blocksW_snoc (rowsZ 2 d 0 h) 4 0 (2 ^ h + 1)]; exact hx) rfl rfl ?_
  refine wk_cv 3 0 [6] [.bx false [.v (.int .u8 2), .v (.int .i64 d), .v (.int .i64 0), .v (.int .u64 0), .v (.int .u64 0), .v (.int .u64 0)], .rw false true 0 1 [[.sl 2 1 1 0 (h + 1)], [.sl 3 1 1 0 (h + 1)]], .rw false false 1 1 (nest2 (rowsZ 2 d 0 h ++ [lvl 2 d h 0])), .rw false true 1 1 (nest2 (rowsZ 2 d 1 h) ++ [[A.sl 6 0 1 0 (2 ^ h + 1)]]), .rw true false 0 1 (ints (lvl 2 d h 0)), .rw false true 0 1 [[.sl 4 0 1 0 (2 ^ h + 1)]], .rw true false 0 1 (ints (lvl 2 d h 1)), .rw false true 0 1 [[.sl 6 0 1 0 (2 ^ h + 1)]]] rfl (rowsF_snoc _ (rowsZ 2 d 1 h) (lvl 2 d h 1) 6 0 (2 ^ h + 1) rfl (lvl_length ..).symm) (fun x hx => by rw [← blocksW_snoc (rowsZ 2 d 1 h) 6 0 (2 ^ h + 1)]; exact hx) rfl rfl ?_
  refine gc_step ⟨[false, true, false, true, true], [0,1,2,3], 0⟩ (mkT 90 [(1, .pt 0 0 0 0 0), (3, .sl 1 0 1 0 2), (4, .v (.int .i64 i))]) (toHp2 d (h + 1)) [] (fun k hk => ?_) hk
  unfold toHp2 at hk
  rw [rowsZ_succ 2 d 0 h] at hk
  rw [rowsZ_succ 2 d 1 h] at hk
  exact hk
def toHz2 (d : Nat) : List Blk := [.bx false [.v (.int .u8 2), .v (.int .i64 d), .v (.int .i64 0), .v (.int .u64 0), .v (.int .u64 0), .v (.int .u64 0)], .rw false true 0 1 [[.sl 3 0 1 0 1], [.sl 5 0 1 0 1]], .rw false false 0 1 (ints (lvl 2 d 0 0)), .rw false true 0 1 (nest2 (rowsZ 2 d 0 0) ++ [[A.sl 2 0 1 0 (2 ^ 0 + 1)]]), .rw false false 0 1 (ints (lvl 2 d 0 1)), .rw false true 0 1 (nest2 (rowsZ 2 d 1 0) ++ [[A.sl 4 0 1 0 (2 ^ 0 + 1)]])]
theorem to_endz_2 (d : Nat) {k : List A → List Blk → List Lp → Prop} (i : Int) (hk : k (mkT 90 [(1, .pt 0 0 0 0 0), (3, .sl 1 0 1 0 2), (4, .v (.int .i64 i))]) (toHp2 d 1) []) :
    ∃ ts2 hp2 lp2, Wk 0 0 (mkT 90 [(1, .pt 0 0 0 0 0), (3, .sl 1 0 1 0 2), (4, .v (.int .i64 i))]) (toHz2 d) [] ts2 hp2 lp2 ∧ k ts2 hp2 lp2 := by
  refine wk_cv 3 0 [2] [.bx false [.v (.int .u8 2), .v (.int .i64 d), .v (.int .i64 0), .v (.int .u64 0), .v (.int .u64 0), .v (.int .u64 0)], .rw false true 0 1 [[.sl 3 0 1 0 1], [.sl 5 0 1 0 1]], .rw true false 0 1 (ints (lvl 2 d 0 0)), .rw false true 0 1 (nest2 (rowsZ 2 d 0 0) ++ [[A.sl 2 0 1 0 (2 ^ 0 + 1)]]), .rw false false 0 1 (ints (lvl 2 d 0 1)), .rw false true 0 1 (nest2 (rowsZ 2 d 1 0) ++ [[A.sl 4 0 1 0 (2 ^ 0 + 1)]])] rfl (rowsF_snoc _ (rowsZ 2 d 0 0) (lvl 2 d 0 0) 2 0 (2 ^ 0 + 1) rfl (lvl_length ..).symm) (fun x hx => by rw [← blocksW_snoc (rowsZ 2 d 0 0) 2 0 (2 ^ 0 + 1)]; exact hx) rfl rfl ?_
  refine wk_cv 5 0 [4] [.bx false [.v (.int .u8 2), .v (.int .i64 d), .v (.int .i64 0), .v (.int .u64 0), .v (.int .u64 0), .v (.int .u64 0)], .rw false true 0 1 [[.sl 3 0 1 0 1], [.sl 5 0 1 0 1]], .rw true false 0 1 (ints (lvl 2 d 0 0)), .rw false false 0 1 (nest2 (rowsZ 2 d 0 0 ++ [lvl 2 d 0 0])), .rw true false 0 1 (ints (lvl 2 d 0 1)), .rw false true 0 1 (nest2 (rowsZ 2 d 1 0) ++ [[A.sl 4 0 1 0 (2 ^ 0 + 1)]])] rfl (rowsF_snoc _ (rowsZ 2 d 1 0) (lvl 2 d 0 1) 4 0 (2 ^ 0 + 1) rfl (lvl_length ..).symm) (fun x hx => by rw [← blocksW_snoc (rowsZ 2 d 1 0) 4 0 (2 ^ 0 + 1)]; exact hx) rfl rfl ?_
  refine gc_step ⟨[false, true, false, true, true], [0,1,3,5], 0⟩ (mkT 90 [(1, .pt 0 0 0 0 0), (3, .sl 1 0 1 0 2), (4, .v (.int .i64 i))]) (toHp2 d 1) [] (fun k hk => ?_) hk
  unfold toHp2 at hk
  rw [rowsZ_succ 2 d 0 0] at hk
  rw [rowsZ_succ 2 d 1 0] at hk
  exact hk
theorem to_end_3 (d h : Nat) {k : List A → List Blk → List Lp → Prop} (i : Int) (hk : k (mkT 90 [(1, .pt 0 0 0 0 0), (3, .sl 1 0 1 0 4), (4, .v (.int .i64 i))]) (toHp3 d (h + 1)) []) :
    ∃ ts2 hp2 lp2, Wk 0 0 (mkT 90 [(1, .pt 0 0 0 0 0), (3, .sl 1 0 1 0 4), (4, .v (.int .i64 i))]) (toHm3 d h) [] ts2 hp2 lp2 ∧ k ts2 hp2 lp2 := by
  refine wk_cv 2 0 [6] [.bx false [.v (.int .u8 3), .v (.int .i64 d), .v (.int .i64 0), .v (.int .u64 0), .v (.int .u64 0), .v (.int .u64 0)], .rw false true 0 1 [[.sl 2 1 1 0 (h + 1)], [.sl 3 1 1 0 (h + 1)], [.sl 4 1 1 0 (h + 1)], [.sl 5 1 1 0 (h + 1)]], .rw false true 1 1 (nest2 (rowsZ 3 d 0 h) ++ [[A.sl 6 0 1 0 (2 ^ h + 1)]]), .rw false true 1 1 (nest2 (rowsZ 3 d 1 h) ++ [[A.sl 8 0 1 0 (2 ^ h + 1)]]), .rw false true 1 1 (nest2 (rowsZ 3 d 2 h) ++ [[A.sl 10 0 1 0 (2 ^ h + 1)]]), .rw false true 1 1 (nest2 (rowsZ 3 d 3 h) ++ [[A.sl 12 0 1 0 (2 ^ h + 1)]]), .rw true false 0 1 (ints (lvl 3 d h 0)), .rw false true 0 1 [[.sl 6 0 1 0 (2 ^ h + 1)]], .rw false false 0 1 (ints (lvl 3 d h 1)), .rw false true 0 1 [[.sl 8 0 1 0 (2 ^ h + 1)]], .rw false false 0 1 (ints (lvl 3 d h 2)), .rw false true 0 1 [[.sl 10 0 1 0 (2 ^ h + 1)]], .rw false false 0 1 (ints (lvl 3 d h 3)), .rw false true 0 1 [[.sl 12 0 1 0 (2 ^ h + 1)]]] rfl (rowsF_snoc _ (rowsZ 3 d 0 h) (lvl 3 d h 0) 6 0 (2 ^ h + 1) rfl (lvl_length ..).symm) (fun x hx => by rw [← blocksW_snoc (rowsZ 3 d 0 h) 6 0 (2 ^ h + 1)]; exact hx) rfl rfl ?_
  refine wk_cv 3 0 [8] [.bx false [.v (.int .u8 3), .v (.int .i64 d), .v (.int .i64 0), .v (.int .u64 0), .v (.int .u64 0), .v (.int .u64 0)], .rw false true 0 1 [[.sl 2 1 1 0 (h + 1)], [.sl 3 1 1 0 (h + 1)], [.sl 4 1 1 0 (h + 1)], [.sl 5 1 1 0 (h + 1)]], .rw false false 1 1 (nest2 (rowsZ 3 d 0 h ++ [lvl 3 d h 0])), .rw false true 1 1 (nest2 (rowsZ 3 d 1 h) ++ [[A.sl 8 0 1 0 (2 ^ h + 1)]]), .rw false true 1 1 (nest2 (rowsZ 3 d 2 h) ++ [[A.sl 10 0 1 0 (2 ^ h + 1)]]), .rw false true 1 1 (nest2 (rowsZ 3 d 3 h) ++ [[A.sl 12 0 1 0 (2 ^ h + 1)]]), .rw true false 0 1 (ints (lvl 3 d h 0)), .rw false true 0 1 [[.sl 6 0 1 0 (2 ^ h + 1)]], .rw true false 0 1 (ints (lvl 3 d h 1)), .rw false true 0 1 [[.sl 8 0 1 0 (2 ^ h + 1)]], .rw false false 0 1 (ints (lvl 3 d h 2)), .rw false true 0 1 [[.sl 10 0 1 0 (2 ^ h + 1)]], .rw false false 0 1 (ints (lvl 3 d h 3)), .rw false true 0 1 [[.sl 12 0 1 0 (2 ^ h + 1)]]] rfl (rowsF_snoc _ (rowsZ 3 d 1 h) (lvl 3 d h 1) 8 0 (2 ^ h + 1) rfl (lvl_length ..).symm) (fun x hx => by rw [← blocksW_snoc (rowsZ 3 d 1 h) 8 0 (2 ^ h + 1)]; exact hx) rfl rfl ?_
  refine wk_cv 4 0 [10] [.bx false [.v (.int .u8 3), .v (.int .i64 d), .v (.int .i64 0), .v (.int .u64 0), .v (.int .u64 0), .v (.int .u64 0)], .rw false true 0 1 [[.sl 2 1 1 0 (h + 1)], [.sl 3 1 1 0 (h + 1)], [.sl 4 1 1 0 (h + 1)], [.sl 5 1 1 0 (h + 1)]], .rw false false 1 1 (nest2 (rowsZ 3 d 0 h ++ [lvl 3 d h 0])), .rw false false 1 1 (nest2 (rowsZ 3 d 1 h ++ [lvl 3 d h 1])), .rw false true 1 1 (nest2 (rowsZ 3 d 2 h) ++ [[A.sl 10 0 1 0 (2 ^ h + 1)]]), .rw false true 1 1 (nest2 (rowsZ 3 d 3 h) ++ [[A.sl 12 0 1 0 (2 ^ h + 1)]]), .rw true false 0 1 (ints (lvl 3 d h 0)), .rw false true 0 1 [[.sl 6 0 1 0 (2 ^ h + 1)]], .rw true false 0 1 (ints (lvl 3 d h 1)), .rw false true 0 1 [[.sl 8 0 1 0 (2 ^ h + 1)]], .rw true false 0 1 (ints (lvl 3 d h 2)), .rw false true 0 1 [[.sl 10 0 1 0 (2 ^ h + 1)]], .rw false false 0 1 (ints (lvl 3 d h 3)), .rw false true 0 1 [[.sl 12 0 1 0 (2 ^ h + 1)]]] rfl (rowsF_snoc _ (rowsZ 3 d 2 h) (lvl 3 d h 2) 10 0 (2 ^ h + 1) rfl (lvl_length ..).symm) (fun x hx => by rw [← blocksW_snoc (rowsZ 3 d 2 h) 10 0 (2 ^ h + 1)]; exact hx) rfl rfl ?_
  refine wk_cv 5 0 [12] [.bx false [.v (.int .u8 3), .v (.int .i64 d), .v (.int .i64 0), .v (.int .u64 0), .v (.int .u64 0), .v (.int .u64 0)], .rw false true 0 1 [[.sl 2 1 1 0 (h + 1)], [.sl 3 1 1 0 (h + 1)], [.sl 4 1 1 0 (h + 1)], [.sl 5 1 1 0 (h + 1)]], .rw false false 1 1 (nest2 (rowsZ 3 d 0 h ++ [lvl 3 d h 0])), .rw false false 1 1 (nest2 (rowsZ 3 d 1 h ++ [lvl 3 d h 1])), .rw false false 1 1 (nest2 (rowsZ 3 d 2 h ++ [lvl 3 d h 2])), .rw false true 1 1 (nest2 (rowsZ 3 d 3 h) ++ [[A.sl 12 0 1 0 (2 ^ h + 1)]]), .rw true false 0 1 (ints (lvl 3 d h 0)), .rw false true 0 1 [[.sl 6 0 1 0 (2 ^ h + 1)]], .rw true false 0 1 (ints (lvl 3 d h 1)), .rw false true 0 1 [[.sl 8 0 1 0 (2 ^ h + 1)]], .rw true false 0 1 (ints (lvl 3 d h 2)), .rw false true 0 1 [[.sl 10 0 1 0 (2 ^ h + 1)]], .rw true false 0 1 (ints (lvl 3 d h 3)), .rw false true 0 1 [[.sl 12 0 1 0 (2 ^ h + 1)]]] rfl (rowsF_snoc _ (rowsZ 3 d 3 h) (lvl 3 d h 3) 12 0 (2 ^ h + 1) rfl (lvl_length ..).symm) (fun x hx => by rw [← blocksW_snoc (rowsZ 3 d 3 h) 12 0 (2 ^ h + 1)]; exact hx) rfl rfl ?_
  refine gc_step ⟨[false, true, false, true, true], [0,1,2,3,4,5], 0⟩ (mkT 90 [(1, .pt 0 0 0 0 0), (3, .sl 1 0 1 0 4), (4, .v (.int .i64 i))]) (toHp3 d (h + 1)) [] (fun k hk => ?_) hk
  unfold toHp3 at hk
  rw [rowsZ_succ 3 d 0 h] at hk
  rw [rowsZ_succ 3 d 1 h] at hk
  rw [rowsZ_succ 3 d 2 h] at hk
  rw [rowsZ_succ 3 d 3 h] at hk
  exact hk
def toHz3 (d : Nat) : List Blk := [.bx false [.v (.int .u8 3), .v (.int .i64 d), .v (.int .i64 0), .v (.int .u64 0), .v (.int .u64 0), .v (.int .u64 0)], .rw false true 0 1 [[.sl 3 0 1 0 1], [.sl 5 0 1 0 1], [.sl 7 0 1 0 1], [.sl 9 0 1 0 1]], .rw false false 0 1 (ints (lvl 3 d 0 0)), .rw false true 0 1 (nest2 (rowsZ 3 d 0 0) ++ [[A.sl 2 0 1 0 (2 ^ 0 + 1)]]), .rw false false 0 1 (ints (lvl 3 d 0 1)), .rw false true 0 1 (nest2 (rowsZ 3 d 1 0) ++ [[A.sl 4 0 1 0 (2 ^ 0 + 1)]]), .rw false false 0 1 (ints (lvl 3 d 0 2)), .rw false true 0 1 (nest2 (rowsZ 3 d 2 0) ++ [[A.sl 6 0 1 0 (2 ^ 0 + 1)]]), .rw false false 0 1 (ints (lvl 3 d 0 3)), .rw false true 0 1 (nest2 (rowsZ 3 d 3 0) ++ [[A.sl 8 0 1 0 (2 ^ 0 + 1)]])]
theorem to_endz_3 (d : Nat) {k : List A → List Blk → List Lp → Prop} (i : Int) (hk : k (mkT 90 [(1, .pt 0 0 0 0 0), (3, .sl 1 0 1 0 4), (4, .v (.int .i64 i))]) (toHp3 d 1) []) :
    ∃ ts2 hp2 lp2, Wk 0 0 (mkT 90 [(1, .pt 0 0 0 0 0), (3, .sl 1 0 1 0 4), (4, .v (.int .i64 i))]) (toHz3 d) [] ts2 hp2 lp2 ∧ k ts2 hp2 lp2 := by
  refine wk_cv 3 0 [2] [.bx false [.v (.int .u8 3), .v (.int .i64 d), .v (.int .i64 0), .v (.int .u64 0), .v (.int .u64 0), .v (.int .u64 0)], .rw false true 0 1 [[.sl 3 0 1 0 1], [.sl 5 0 1 0 1], [.sl 7 0 1 0 1], [.sl 9 0 1 0 1]], .rw true false 0 1 (ints (lvl 3 d 0 0)), .rw false true 0 1 (nest2 (rowsZ 3 d 0 0) ++ [[A.sl 2 0 1 0 (2 ^ 0 + 1)]]), .rw false false 0 1 (ints (lvl 3 d 0 1)), .rw false true 0 1 (nest2 (rowsZ 3 d 1 0) ++ [[A.sl 4 0 1 0 (2 ^ 0 + 1)]]), .rw false false 0 1 (ints (lvl 3 d 0 2)), .rw false true 0 1 (nest2 (rowsZ 3 d 2 0) ++ [[A.sl 6 0 1 0 (2 ^ 0 + 1)]]), .rw false false 0 1 (ints (lvl 3 d 0 3)), .rw false true 0 1 (nest2 (rowsZ 3 d 3 0) ++ [[A.sl 8 0 1 0 (2 ^ 0 + 1)]])] rfl (rowsF_snoc _ (rowsZ 3 d 0 0) (lvl 3 d 0 0) 2 0 (2 ^ 0 + 1) rfl (lvl_length ..).symm) (fun x hx => by rw [← blocksW_snoc (rowsZ 3 d 0 0) 2 0 (2 ^ 0 + 1)]; exact hx) rfl rfl ?_
  refine wk_cv 5 0 [4] [.bx false [.v (.int .u8 3), .v (.int .i64 d), .v (.int .i64 0), .v (.int .u64 0), .v (.int .u64 0), .v (.int .u64 0)], .rw false true 0 1 [[.sl 3 0 1 0 1], [.sl 5 0 1 0 1], [.sl 7 0 1 0 1], [.sl 9 0 1 0 1]], .rw true false 0 1 (ints (lvl 3 d 0 0)), .rw false false 0 1 (nest2 (rowsZ 3 d 0 0 ++ [lvl 3 d 0 0])), .rw true false 0 1 (ints (lvl 3 d 0 1)), .rw false true 0 1 (nest2 (rowsZ 3 d 1 0) ++ [[A.sl 4 0 1 0 (2 ^ 0 + 1)]]), .rw false false 0 1 (ints (lvl 3 d 0 2)), .rw false true 0 1 (nest2 (rowsZ 3 d 2 0) ++ [[A.sl 6 0 1 0 (2 ^ 0 + 1)]]), .rw false false 0 1 (ints (lvl 3 d 0 3)), .rw false true 0 1 (nest2 (rowsZ 3 d 3 0) ++ [[A.sl 8 0 1 0 (2 ^ 0 + 1)]])] rfl (rowsF_snoc _ (rowsZ 3 d 1 0) (lvl 3 d 0 1) 4 0 (2 ^ 0 + 1) rfl (lvl_length ..).symm) (fun x hx => by rw [← blocksW_snoc (rowsZ 3 d 1 0) 4 0 (2 ^ 0 + 1)]; exact hx) rfl rfl ?_
  refine wk_cv 7 0 [6] [.bx false [.v (.int .u8 3), .v (.int .i64 d), .v (.int .i64 0), .v (.int .u64 0), .v (.int .u64 0), .v (.int .u64 0)], .rw false true 0 1 [[.sl 3 0 1 0 1], [.sl 5 0 1 0 1], [.sl 7 0 1 0 1], [.sl 9 0 1 0 1]], .rw true false 0 1 (ints (lvl 3 d 0 0)), .rw false false 0 1 (nest2 (rowsZ 3 d 0 0 ++ [lvl 3 d 0 0])), .rw true false 0 1 (ints (lvl 3 d 0 1)), .rw false false 0 1 (nest2 (rowsZ 3 d 1 0 ++ [lvl 3 d 0 1])), .rw true false 0 1 (ints (lvl 3 d 0 2)), .rw false true 0 1 (nest2 (rowsZ 3 d 2 0) ++ [[A.sl 6 0 1 0 (2 ^ 0 + 1)]]), .rw false false 0 1 (ints (lvl 3 d 0 3)), .rw false true 0 1 (nest2 (rowsZ 3 d 3 0) ++ [[A.sl 8 0 1 0 (2 ^ 0 + 1)]])] rfl (rowsF_snoc _ (rowsZ 3 d 2 0) (lvl 3 d 0 2) 6 0 (2 ^ 0 + 1) rfl (lvl_length ..).symm) (fun x hx => by rw [← blocksW_snoc (rowsZ 3 d 2 0) 6 0 (2 ^ 0 + 1)]; exact hx) rfl rfl ?_
  refine wk_cv 9 0 [8] [.bx false [.v (.int .u8 3), .v (.int .i64 d), .v (.int .i64 0), .v (.int .u64 0), .v (.int .u64 0), .v (.int .u64 0)], .rw false true 0 1 [[.sl 3 0 1 0 1], [.sl 5 0 1 0 1], [.sl 7 0 1 0 1], [.sl 9 0 1 0 1]], .rw true false 0 1 (ints (lvl 3 d 0 0)), .rw false false 0 1 (nest2 (rowsZ 3 d 0 0 ++ [lvl 3 d 0 0])), .rw true false 0 1 (ints (lvl 3 d 0 1)), .rw false false 0 1 (nest2 (rowsZ 3 d 1 0 ++ [lvl 3 d 0 1])), .rw true false 0 1 (ints (lvl 3 d 0 2)), .rw false false 0 1 (nest2 (rowsZ 3 d 2 0 ++ [lvl 3 d 0 2])), .rw true false 0 1 (ints (lvl 3 d 0 3)), .rw false true 0 1 (nest2 (rowsZ 3 d 3 0) ++ [[A.sl 8 0 1 0 (2 ^ 0 + 1)]])] rfl (rowsF_snoc _ (rowsZ 3 d 3 0) (lvl 3 d 0 3) 8 0 (2 ^ 0 + 1) rfl (lvl_length ..).symm) (fun x hx => by rw [← blocksW_snoc (rowsZ 3 d 3 0) 8 0 (2 ^ 0 + 1)]; exact hx) rfl rfl ?_
  refine gc_step ⟨[false, true, false, true, true], [0,1,3,5,7,9], 0⟩ (mkT 90 [(1, .pt 0 0 0 0 0), (3, .sl 1 0 1 0 4), (4, .v (.int .i64 i))]) (toHp3 d 1) [] (fun k hk => ?_) hk
  unfold toHp3 at hk
  rw [rowsZ_succ 3 d 0 0] at hk
  rw [rowsZ_succ 3 d 1 0] at hk
  rw [rowsZ_succ 3 d 2 0] at hk
  rw [rowsZ_succ 3 d 3 0] at hk
  exact hk
theorem wk_then {nb nl : Nat} {ts : List A} {hp : List Blk} {lp : List Lp} {k : List A → List Blk → List Lp → Prop} {ts1 : List A} {hp1 : List Blk} {lp1 : List Lp} (h1 : Wk nb nl ts hp lp ts1 hp1 lp1)
    (h2 : ∃ ts2 hp2 lp2, Wk nb nl ts1 hp1 lp1 ts2 hp2 lp2 ∧ k ts2 hp2 lp2) : ∃ ts2 hp2 lp2, Wk nb nl ts hp lp ts2 hp2 lp2 ∧ k ts2 hp2 lp2 := by
  obtain ⟨ts2, hp2, lp2, h3, h4⟩ := h2
  exact ⟨ts2, hp2, lp2, .trans h1 h3, h4⟩
theorem to_row_1_0 (E : EqT) (d h : Nat) (h1 : 1 ≤ h) (hh : h ≤ d) (hd : d ≤ 6) (K : K) :
    ∀ (c k n : Nat) (p : Nat → Nat), k + c = 2 ^ h + 1 → c + 60 ≤ n → p 0 = k →
      (∀ j, K (.exit 6) (mkJ 90 [(1, .pt 0 0 0 0 0), (3, .sl 1 0 1 0 1), (4, .v (.int .i64 h)), (6, .v (.int .i64 (0 : Nat)))] j) (toHf1 d h (fun s => if s = 0 then 2 ^ h + 1 else p s)) []) →
      loopF (run Go.Proofs.Try.prog E (envL Go.Proofs.Try.prog toEnv) n) 0 0 (loopB Go.Proofs.Try.prog 42 3) (mkT 90 [(1, .pt 0 0 0 0 0), (3, .sl 1 0 1 0 1), (4, .v (.int .i64 h)), (6, .v (.int .i64 (0 : Nat))), (7, .v (.int .i64 k))]) (toHf1 d h p) [] K := by
  intro c
  have hp6 := pow_le6 (show h ≤ 6 by omega)
  have eu : IntKind.u64.wrap (h : Int) = (h : Int) := by simp [IntKind.wrap, IntKind.bits, IntKind.signed]; omega
  have es : IntKind.i64.wrap (1 * 2 ^ min (IntKind.u64.wrap (h : Int)).toNat IntKind.i64.bits) = ((2 ^ h : Nat) : Int) := by rw [eu]; exact shl1 (by omega)
  induction c with
  | zero =>
    intro k n p hi hn hpk hK
    obtain ⟨n, rfl⟩ : ∃ m, n = m + 60 := ⟨n - 60, by omega⟩
    have e : (fun s => if s = 0 then 2 ^ h + 1 else p s) = p := by
      funext s; split
      · rename_i hs; subst hs; omega
      · rfl
    rw [e] at hK
    conv => whnf
    refine ⟨by rw [eu]; omega, ?_⟩
    conv => whnf
    rw [es]
    refine cndK_intro (fun h => ?_) (fun h => ?_)
    · exfalso
      simp only [decide_eq_true_eq] at h
      omega
    · conv => whnf
      exact useJ hK rfl
  | succ c ih =>
    intro k n p hi hn hpk hK
    obtain ⟨n, rfl⟩ : ∃ m, n = m + 60 := ⟨n - 60, by omega⟩
    have ek : IntKind.i64.wrap ((k : Int) + 1) = ((k + 1 : Nat) : Int) := by rw [wrap64 (by omega) (by omega)]; omega
    have hK2 : ∀ j, K (.exit 6) (mkJ 90 [(1, .pt 0 0 0 0 0), (3, .sl 1 0 1 0 1), (4, .v (.int .i64 h)), (6, .v (.int .i64 (0 : Nat)))] j)
        (toHf1 d h (fun s => if s = 0 then 2 ^ h + 1 else (fun s => if s = 0 then p s + 1 else p s) s)) [] := fun j => by
      have := hK j
      have e : (fun s => if s = 0 then 2 ^ h + 1 else (fun s => if s = 0 then p s + 1 else p s) s) = (fun s => if s = 0 then 2 ^ h + 1 else p s) := by
        funext s; split <;> simp_all
      rw [e]; exact this
    have next := ih (k + 1) (n + 59) (fun s => if s = 0 then p s + 1 else p s) (by omega) (by omega) (by simp [hpk]) hK2
    clear hK hK2 ih
    have hkb : k < 2 ^ h + 1 := by omega
    obtain ⟨ov, hov⟩ := to_get 1 d 0 h k (p 0) hkb
    conv => whnf
    refine ⟨by rw [eu]; omega, ?_⟩
    conv => whnf
    rw [es]
    refine cndK_intro (fun h2 => ?_) (fun h2 => ?_)
    rotate_left
    · exfalso
      simp only [decide_eq_false_iff_not] at h2
      omega
    conv => whnf
    refine cndK_intro (fun h3 => ?_) (fun h3 => ?_)
    · have hk0 : k = 0 := by simp at h3; omega
      have hv : (lvl 1 d h 0)[k]? = some (if (1 : Nat) = 1 then 1 - (k : Int) else (k : Int) * ([0, 1, 1, 2] : List Int).getD 0 0) := by
        rw [hk0]; exact lvl_get0 1 d h 0
      conv => whnf
      try (rw [h3]; conv => whnf)
      refine Or.inl ⟨14, by kernel_rfl, ?_⟩
      conv => whnf
      refine ⟨⟨by decide, by decide⟩, ?_⟩
      conv => whnf
      refine ⟨⟨by omega, by omega⟩, ?_⟩
      conv => whnf
      refine optK_intro _ (nest_last (rowsZ 1 d 0 h) _ _ (by rw [rowsZ_length]; simp)) ?_
      conv => whnf
      refine ⟨_, start_pure 1 0 k (by decide) (by omega) (by omega), ?_⟩
      conv => whnf
      refine ⟨⟨by omega, by omega⟩, ?_⟩
      conv => whnf
      refine optK_intro _ hov ?_
      conv => whnf
      rw [ek]
      refine wk_mask [false, true, false, true, true, false, true, true] _ rfl ?_
      rw [to_set 1 d 0 h k (p 0) hpk _ hv]
      exact next
    · have h0 : ((h : Int) == 0) = false := by simp; omega
      conv => whnf
      try (rw [h3]; conv => whnf)
      rw [h0]
      conv => whnf
      refine Or.inl ⟨18, by kernel_rfl, ?_⟩
      conv => whnf
      refine ⟨⟨by decide, by decide⟩, ?_⟩
      conv => whnf
      refine ⟨⟨by omega, by omega⟩, ?_⟩
      conv => whnf
      refine optK_intro _ (nest_last (rowsZ 1 d 0 h) _ _ (by rw [rowsZ_length]; simp)) ?_
      conv => whnf
      refine ⟨Nat.le_refl _, Or.inl ?_⟩
      conv => whnf
      refine ⟨by simp [nest2, rowsZ], Or.inr ⟨_, to_rows (toHf1 d h p) (rowsZ 1 d 0 h) (fillL (lvl 1 d h 0) (p 0)) 3 0 (2 ^ h + 1) (h + 1) rfl (by rw [fillL_length, lvl_length]) (by rw [rowsZ_length]), ?_⟩⟩
      conv => whnf

      obtain ⟨g, rfl⟩ : ∃ g, h = g + 1 := ⟨h - 1, by omega⟩
      have hall : ∀ b, b < 1 → RowAt [rowsZ 1 d 0 (g + 1) ++ [fillL (lvl 1 d (g + 1) 0) (p 0)]] b g (lvl 1 d g b) := fun b hb => by
        match b, hb with
        | 0, _ => exact ⟨_, rfl, rowsZ_get ..⟩
      have hk0 : k ≠ 0 := by simp at h3; omega
      refine ⟨_, best3_pure 1 d 0 g k [rowsZ 1 d 0 (g + 1) ++ [fillL (lvl 1 d (g + 1) 0) (p 0)]] (lvl 1 d g 0) (lvl 1 d g (belowN 1 d 0 (g + 1))) (by decide) (by decide) (by decide) (by decide) hh hd (hall 0 (by decide))
        (fun hne => hall _ (by first | exact absurd rfl hne | exact (by decide : 1 < 2) | exact belowN_lt _ _ _ _ (by decide))) (lvl_length ..) (fun _ => lvl_length ..) (lvl_small 1 d g 0 (by omega)) (fun _ => lvl_small 1 d g _ (by omega)) (by omega), ?_⟩
      conv => whnf
      refine ⟨⟨by omega, by omega⟩, ?_⟩
      conv => whnf
      refine optK_intro _ hov ?_
      conv => whnf
      rw [ek]
      refine wk_mask [false, true, false, true, true, false, true, true] _ rfl ?_
      rw [to_set 1 d 0 (g + 1) k (p 0) hpk _ (lvl_getS 1 d g 0 k hk0 hkb)]
      exact next
theorem to_row_2_0 (E : EqT) (d h : Nat) (h1 : 1 ≤ h) (hh : h ≤ d) (hd : d ≤ 6) (K : K) :
    ∀ (c k n : Nat) (p : Nat → Nat), k + c = 2 ^ h + 1 → c + 60 ≤ n → p 0 = k →
      (∀ j, K (.exit 6) (mkJ 90 [(1, .pt 0 0 0 0 0), (3, .sl 1 0 1 0 2), (4, .v (.int .i64 h)), (6, .v (.int .i64 (0 : Nat)))] j) (toHf2 d h (fun s => if s = 0 then 2 ^ h + 1 else p s)) []) →
      loopF (run Go.Proofs.Try.prog E (envL Go.Proofs.Try.prog toEnv) n) 0 0 (loopB Go.Proofs.Try.prog 42 3) (mkT 90 [(1, .pt 0 0 0 0 0), (3, .sl 1 0 1 0 2), (4, .v (.int .i64 h)), (6, .v (.int .i64 (0 : Nat))), (7, .v (.int .i64 k))]) (toHf2 d h p) [] K := by
  intro c
  have hp6 := pow_le6 (show h ≤ 6 by omega)
  have eu : IntKind.u64.wrap (h : Int) = (h : Int) := by simp [IntKind.wrap, IntKind.bits, IntKind.signed]; omega
  have es : IntKind.i64.wrap (1 * 2 ^ min (IntKind.u64.wrap (h : Int)).toNat IntKind.i64.bits) = ((2 ^ h : Nat) : Int) := by rw [eu]; exact shl1 (by omega)
  induction c with
  | zero =>
    intro k n p hi hn hpk hK
    obtain ⟨n, rfl⟩ : ∃ m, n = m + 60 := ⟨n - 60, by omega⟩
    have e : (fun s => if s = 0 then 2 ^ h + 1 else p s) = p := by
      funext s; split
      · rename_i hs; subst hs; omega
      · rfl
    rw [e] at hK
    conv => whnf
    refine ⟨by rw [eu]; omega, ?_⟩
    conv => whnf
    rw [es]
    refine cndK_intro (fun h => ?_) (fun h => ?_)
    · exfalso
      simp only [decide_eq_true_eq] at h
      omega
    · conv => whnf
      exact useJ hK rfl
  | succ c ih =>
    intro k n p hi hn hpk hK
    obtain ⟨n, rfl⟩ : ∃ m, n = m + 60 := ⟨n - 60, by omega⟩
    have ek : IntKind.i64.wrap ((k : Int) + 1) = ((k + 1 : Nat) : Int) := by rw [wrap64 (by omega) (by omega)]; omega
    have hK2 : ∀ j, K (.exit 6) (mkJ 90 [(1, .pt 0 0 0 0 0), (3, .sl 1 0 1 0 2), (4, .v (.int .i64 h)), (6, .v (.int .i64 (0 : Nat)))] j)
        (toHf2 d h (fun s => if s = 0 then 2 ^ h + 1 else (fun s => if s = 0 then p s + 1 else p s) s)) [] := fun j => by
      have := hK j
      have e : (fun s => if s = 0 then 2 ^ h + 1 else (fun s => if s = 0 then p s + 1 else p s) s) = (fun s => if s = 0 then 2 ^ h + 1 else p s) := by
        funext s; split <;> simp_all
      rw [e]; exact this
    have next := ih (k + 1) (n + 59) (fun s => if s = 0 then p s + 1 else p s) (by omega) (by omega) (by simp [hpk]) hK2
    clear hK hK2 ih
    have hkb : k < 2 ^ h + 1 := by omega
    obtain ⟨ov, hov⟩ := to_get 2 d 0 h k (p 0) hkb
    conv => whnf
    refine ⟨by rw [eu]; omega, ?_⟩
    conv => whnf
    rw [es]
    refine cndK_intro (fun h2 => ?_) (fun h2 => ?_)
    rotate_left
    · exfalso
      simp only [decide_eq_false_iff_not] at h2
      omega
    conv => whnf
    refine cndK_intro (fun h3 => ?_) (fun h3 => ?_)
    · have hk0 : k = 0 := by simp at h3; omega
      have hv : (lvl 2 d h 0)[k]? = some (if (2 : Nat) = 1 then 1 - (k : Int) else (k : Int) * ([0, 1, 1, 2] : List Int).getD 0 0) := by
        rw [hk0]; exact lvl_get0 2 d h 0
      conv => whnf
      try (rw [h3]; conv => whnf)
      refine Or.inl ⟨14, by kernel_rfl, ?_⟩
      conv => whnf
      refine ⟨⟨by decide, by decide⟩, ?_⟩
      conv => whnf
      refine ⟨⟨by omega, by omega⟩, ?_⟩
      conv => whnf
      refine optK_intro _ (nest_last (rowsZ 2 d 0 h) _ _ (by rw [rowsZ_length]; simp)) ?_
      conv => whnf
      refine ⟨_, start_pure 2 0 k (by decide) (by omega) (by omega), ?_⟩
      conv => whnf
      refine ⟨⟨by omega, by omega⟩, ?_⟩
      conv => whnf
      refine optK_intro _ hov ?_
      conv => whnf
      rw [ek]
      refine wk_mask [false, true, false, true, true, false, true, true] _ rfl ?_
      rw [to_set 2 d 0 h k (p 0) hpk _ hv]
      exact next
    · have h0 : ((h : Int) == 0) = false := by simp; omega
      conv => whnf
      try (rw [h3]; conv => whnf)
      rw [h0]
      conv => whnf
      refine Or.inl ⟨18, by kernel_rfl, ?_⟩
      conv => whnf
      refine ⟨⟨by decide, by decide⟩, ?_⟩
      conv => whnf
      refine ⟨⟨by omega, by omega⟩, ?_⟩
      conv => whnf
      refine optK_intro _ (nest_last (rowsZ 2 d 0 h) _ _ (by rw [rowsZ_length]; simp)) ?_
      conv => whnf
      refine ⟨Nat.le_refl _, Or.inl ?_⟩
      conv => whnf
      refine ⟨by simp [nest2, rowsZ], Or.inr ⟨_, to_rows (toHf2 d h p) (rowsZ 2 d 0 h) (fillL (lvl 2 d h 0) (p 0)) 4 0 (2 ^ h + 1) (h + 1) rfl (by rw [fillL_length, lvl_length]) (by rw [rowsZ_length]), ?_⟩⟩
      conv => whnf
      refine ⟨by simp [nest2, rowsZ], Or.inr ⟨_, to_rows (toHf2 d h p) (rowsZ 2 d 1 h) (fillL (lvl 2 d h 1) (p 1)) 6 0 (2 ^ h + 1) (h + 1) rfl (by rw [fillL_length, lvl_length]) (by rw [rowsZ_length]), ?_⟩⟩
      conv => whnf

      obtain ⟨g, rfl⟩ : ∃ g, h = g + 1 := ⟨h - 1, by omega⟩
      have hall : ∀ b, b < 2 → RowAt [rowsZ 2 d 0 (g + 1) ++ [fillL (lvl 2 d (g + 1) 0) (p 0)], rowsZ 2 d 1 (g + 1) ++ [fillL (lvl 2 d (g + 1) 1) (p 1)]] b g (lvl 2 d g b) := fun b hb => by
        match b, hb with
        | 0, _ => exact ⟨_, rfl, rowsZ_get ..⟩
        | 1, _ => exact ⟨_, rfl, rowsZ_get ..⟩
      have hk0 : k ≠ 0 := by simp at h3; omega
      refine ⟨_, best3_pure 2 d 0 g k [rowsZ 2 d 0 (g + 1) ++ [fillL (lvl 2 d (g + 1) 0) (p 0)], rowsZ 2 d 1 (g + 1) ++ [fillL (lvl 2 d (g + 1) 1) (p 1)]] (lvl 2 d g 0) (lvl 2 d g (belowN 2 d 0 (g + 1))) (by decide) (by decide) (by decide) (by decide) hh hd (hall 0 (by decide))
        (fun hne => hall _ (by first | exact absurd rfl hne | exact (by decide : 1 < 2) | exact belowN_lt _ _ _ _ (by decide))) (lvl_length ..) (fun _ => lvl_length ..) (lvl_small 2 d g 0 (by omega)) (fun _ => lvl_small 2 d g _ (by omega)) (by omega), ?_⟩
      conv => whnf
      refine ⟨⟨by omega, by omega⟩, ?_⟩
      conv => whnf
      refine optK_intro _ hov ?_
      conv => whnf
      rw [ek]
      refine wk_mask [false, true, false, true, true, false, true, true] _ rfl ?_
      rw [to_set 2 d 0 (g + 1) k (p 0) hpk _ (lvl_getS 2 d g 0 k hk0 hkb)]
      exact next
theorem to_row_2_1 (E : EqT) (d h : Nat) (h1 : 1 ≤ h) (hh : h ≤ d) (hd : d ≤ 6) (K : K) :
    ∀ (c k n : Nat) (p : Nat → Nat), k + c = 2 ^ h + 1 → c + 60 ≤ n → p 1 = k →
      (∀ j, K (.exit 6) (mkJ 90 [(1, .pt 0 0 0 0 0), (3, .sl 1 0 1 0 2), (4, .v (.int .i64 h)), (6, .v (.int .i64 (1 : Nat)))] j) (toHf2 d h (fun s => if s = 1 then 2 ^ h + 1 else p s)) []) →
      loopF (run Go.Proofs.Try.prog E (envL Go.Proofs.Try.prog toEnv) n) 0 0 (loopB Go.Proofs.Try.prog 42 3) (mkT 90 [(1, .pt 0 0 0 0 0), (3, .sl 1 0 1 0 2), (4, .v (.int .i64 h)), (6, .v (.int .i64 (1 : Nat))), (7, .v (.int .i64 k))]) (toHf2 d h p) [] K := by
  intro c
  have hp6 := pow_le6 (show h ≤ 6 by omega)
  have eu : IntKind.u64.wrap (h : Int) = (h : Int) := by simp [IntKind.wrap, IntKind.bits, IntKind.signed]; omega
  have es : IntKind.i64.wrap (1 * 2 ^ min (IntKind.u64.wrap (h : Int)).toNat IntKind.i64.bits) = ((2 ^ h : Nat) : Int) := by rw [eu]; exact shl1 (by omega)
  induction c with
  | zero =>
    intro k n p hi hn hpk hK
    obtain ⟨n, rfl⟩ : ∃ m, n = m + 60 := ⟨n - 60, by omega⟩
    have e : (fun s => if s = 1 then 2 ^ h + 1 else p s) = p := by
      funext s; split
      · rename_i hs; subst hs; omega
      · rfl
    rw [e] at hK
    conv => whnf
    refine ⟨by rw [eu]; omega, ?_⟩
    conv => whnf
    rw [es]
    refine cndK_intro (fun h => ?_) (fun h => ?_)
    · exfalso
      simp only [decide_eq_true_eq] at h
      omega
    · conv => whnf
      exact useJ hK rfl
  | succ c ih =>
    intro k n p hi hn hpk hK
    obtain ⟨n, rfl⟩ : ∃ m, n = m + 60 := ⟨n - 60, by omega⟩
    have ek : IntKind.i64.wrap ((k : Int) + 1) = ((k + 1 : Nat) : Int) := by rw [wrap64 (by omega) (by omega)]; omega
    have hK2 : ∀ j, K (.exit 6) (mkJ 90 [(1, .pt 0 0 0 0 0), (3, .sl 1 0 1 0 2), (4, .v (.int .i64 h)), (6, .v (.int .i64 (1 : Nat)))] j)
        (toHf2 d h (fun s => if s = 1 then 2 ^ h + 1 else (fun s => if s = 1 then p s + 1 else p s) s)) [] := fun j => by
      have := hK j
      have e : (fun s => if s = 1 then 2 ^ h + 1 else (fun s => if s = 1 then p s + 1 else p s) s) = (fun s => if s = 1 then 2 ^ h + 1 else p s) := by
        funext s; split <;> simp_all
      rw [e]; exact this
    have next := ih (k + 1) (n + 59) (fun s => if s = 1 then p s + 1 else p s) (by omega) (by omega) (by simp [hpk]) hK2
    clear hK hK2 ih
    have hkb : k < 2 ^ h + 1 := by omega
    obtain ⟨ov, hov⟩ := to_get 2 d 1 h k (p 1) hkb
    conv => whnf
    refine ⟨by rw [eu]; omega, ?_⟩
    conv => whnf
    rw [es]
    refine cndK_intro (fun h2 => ?_) (fun h2 => ?_)
    rotate_left
    · exfalso
      simp only [decide_eq_false_iff_not] at h2
      omega
    conv => whnf
    refine cndK_intro (fun h3 => ?_) (fun h3 => ?_)
    · have hk0 : k = 0 := by simp at h3; omega
      have hv : (lvl 2 d h 1)[k]? = some (if (2 : Nat) = 1 then 1 - (k : Int) else (k : Int) * ([0, 1, 1, 2] : List Int).getD 1 0) := by
        rw [hk0]; exact lvl_get0 2 d h 1
      conv => whnf
      try (rw [h3]; conv => whnf)
      refine Or.inl ⟨14, by kernel_rfl, ?_⟩
      conv => whnf
      refine ⟨⟨by decide, by decide⟩, ?_⟩
      conv => whnf
      refine ⟨⟨by omega, by omega⟩, ?_⟩
      conv => whnf
      refine optK_intro _ (nest_last (rowsZ 2 d 1 h) _ _ (by rw [rowsZ_length]; simp)) ?_
      conv => whnf
      refine ⟨_, start_pure 2 1 k (by decide) (by omega) (by omega), ?_⟩
      conv => whnf
      refine ⟨⟨by omega, by omega⟩, ?_⟩
      conv => whnf
      refine optK_intro _ hov ?_
      conv => whnf
      rw [ek]
      refine wk_mask [false, true, false, true, true, false, true, true] _ rfl ?_
      rw [to_set 2 d 1 h k (p 1) hpk _ hv]
      exact next
    · have h0 : ((h : Int) == 0) = false := by simp; omega
      conv => whnf
      try (rw [h3]; conv => whnf)
      rw [h0]
      conv => whnf
      refine Or.inl ⟨18, by kernel_rfl, ?_⟩
      conv => whnf
      refine ⟨⟨by decide, by decide⟩, ?_⟩
      conv => whnf
      refine ⟨⟨by omega, by omega⟩, ?_⟩
      conv => whnf
      refine optK_intro _ (nest_last (rowsZ 2 d 1 h) _ _ (by rw [rowsZ_length]; simp)) ?_
      conv => whnf
      refine ⟨Nat.le_refl _, Or.inl ?_⟩
      conv => whnf
      refine ⟨by simp [nest2, rowsZ], Or.inr ⟨_, to_rows (toHf2 d h p) (rowsZ 2 d 0 h) (fillL (lvl 2 d h 0) (p 0)) 4 0 (2 ^ h + 1) (h + 1) rfl (by rw [fillL_length, lvl_length]) (by rw [rowsZ_length]), ?_⟩⟩
      conv => whnf
      refine ⟨by simp [nest2, rowsZ], Or.inr ⟨_, to_rows (toHf2 d h p) (rowsZ 2 d 1 h) (fillL (lvl 2 d h 1) (p 1)) 6 0 (2 ^ h + 1) (h + 1) rfl (by rw [fillL_length, lvl_length]) (by rw [rowsZ_length]), ?_⟩⟩
      conv => whnf

      obtain ⟨g, rfl⟩ : ∃ g, h = g + 1 := ⟨h - 1, by omega⟩
      have hall : ∀ b, b < 2 → RowAt [rowsZ 2 d 0 (g + 1) ++ [fillL (lvl 2 d (g + 1) 0) (p 0)], rowsZ 2 d 1 (g + 1) ++ [fillL (lvl 2 d (g + 1) 1) (p 1)]] b g (lvl 2 d g b) := fun b hb => by
        match b, hb with
        | 0, _ => exact ⟨_, rfl, rowsZ_get ..⟩
        | 1, _ => exact ⟨_, rfl, rowsZ_get ..⟩
      have hk0 : k ≠ 0 := by simp at h3; omega
      refine ⟨_, best3_pure 2 d 1 g k [rowsZ 2 d 0 (g + 1) ++ [fillL (lvl 2 d (g + 1) 0) (p 0)], rowsZ 2 d 1 (g + 1) ++ [fillL (lvl 2 d (g + 1) 1) (p 1)]] (lvl 2 d g 0) (lvl 2 d g (belowN 2 d 1 (g + 1))) (by decide) (by decide) (by decide) (by decide) hh hd (hall 0 (by decide))
        (fun hne => hall _ (by first | exact absurd rfl hne | exact (by decide : 1 < 2) | exact belowN_lt _ _ _ _ (by decide))) (lvl_length ..) (fun _ => lvl_length ..) (lvl_small 2 d g 0 (by omega)) (fun _ => lvl_small 2 d g _ (by omega)) (by omega), ?_⟩
      conv => whnf
      refine ⟨⟨by omega, by omega⟩, ?_⟩
      conv => whnf
      refine optK_intro _ hov ?_
      conv => whnf
      rw [ek]
      refine wk_mask [false, true, false, true, true, false, true, true] _ rfl ?_
      rw [to_set 2 d 1 (g + 1) k (p 1) hpk _ (lvl_getS 2 d g 1 k hk0 hkb)]
      exact next
theorem to_row_3_0 (E : EqT) (d h : Nat) (h1 : 1 ≤ h) (hh : h ≤ d) (hd : d ≤ 6) (K : K) :
    ∀ (c k n : Nat) (p : Nat → Nat), k + c = 2 ^ h + 1 → c + 60 ≤ n → p 0 = k →
      (∀ j, K (.exit 6) (mkJ 90 [(1, .pt 0 0 0 0 0), (3, .sl 1 0 1 0 4), (4, .v (.int .i64 h)), (6, .v (.int .i64 (0 : Nat)))] j) (toHf3 d h (fun s => if s = 0 then 2 ^ h + 1 else p s)) []) →
      loopF (run Go.Proofs.Try.prog E (envL Go.Proofs.Try.prog toEnv) n) 0 0 (loopB Go.Proofs.Try.prog 42 3) (mkT 90 [(1, .pt 0 0 0 0 0), (3, .sl 1 0 1 0 4), (4, .v (.int .i64 h)), (6, .v (.int .i64 (0 : Nat))), (7, .v (.int .i64 k))]) (toHf3 d h p) [] K := by
  intro c
  have hp6 := pow_le6 (show h ≤ 6 by omega)
  have eu : IntKind.u64.wrap (h : Int) = (h : Int) := by simp [IntKind.wrap, IntKind.bits, IntKind.signed]; omega
  have es : IntKind.i64.wrap (1 * 2 ^ min (IntKind.u64.wrap (h : Int)).toNat IntKind.i64.bits) = ((2 ^ h : Nat) : Int) := by rw [eu]; exact shl1 (by omega)
  induction c with
  | zero =>
    intro k n p hi hn hpk hK
    obtain ⟨n, rfl⟩ : ∃ m, n = m + 60 := ⟨n - 60, by omega⟩
    have e : (fun s => if s = 0 then 2 ^ h + 1 else p s) = p := by
      funext s; split
      · rename_i hs; subst hs; omega
      · rfl
    rw [e] at hK
    conv => whnf
    refine ⟨by rw [eu]; omega, ?_⟩
    conv => whnf
    rw [es]
    refine cndK_intro (fun h => ?_) (fun h => ?_)
    · exfalso
      simp only [decide_eq_true_eq] at h
      omega
    · conv => whnf
      exact useJ hK rfl
  | succ c ih =>
    intro k n p hi hn hpk hK
    obtain ⟨n, rfl⟩ : ∃ m, n = m + 60 := ⟨n - 60, by omega⟩
    have ek : IntKind.i64.wrap ((k : Int) + 1) = ((k + 1 : Nat) : Int) := by rw [wrap64 (by omega) (by omega)]; omega
    have hK2 : ∀ j, K (.exit 6) (mkJ 90 [(1, .pt 0 0 0 0 0), (3, .sl 1 0 1 0 4), (4, .v (.int .i64 h)), (6, .v (.int .i64 (0 : Nat)))] j)
        (toHf3 d h (fun s => if s = 0 then 2 ^ h + 1 else (fun s => if s = 0 then p s + 1 else p s) s)) [] := fun j => by
      have := hK j
      have e : (fun s => if s = 0 then 2 ^ h + 1 else (fun s => if s = 0 then p s + 1 else p s) s) = (fun s => if s = 0 then 2 ^ h + 1 else p s) := by
        funext s; split <;> simp_all
      rw [e]; exact this
    have next := ih (k + 1) (n + 59) (fun s => if s = 0 then p s + 1 else p s) (by omega) (by omega) (by simp [hpk]) hK2
    clear hK hK2 ih
    have hkb : k < 2 ^ h + 1 := by omega
    obtain ⟨ov, hov⟩ := to_get 3 d 0 h k (p 0) hkb
    conv => whnf
    refine ⟨by rw [eu]; omega, ?_⟩
    conv => whnf
    rw [es]
    refine cndK_intro (fun h2 => ?_) (fun h2 => ?_)
    rotate_left
    · exfalso
      simp only [decide_eq_false_iff_not] at h2
      omega
    conv => whnf
    refine cndK_intro (fun h3 => ?_) (fun h3 => ?_)
    · have hk0 : k = 0 := by simp at h3; omega
      have hv : (lvl 3 d h 0)[k]? = some (if (3 : Nat) = 1 then 1 - (k : Int) else (k : Int) * ([0, 1, 1, 2] : List Int).getD 0 0) := by
        rw [hk0]; exact lvl_get0 3 d h 0
      conv => whnf
      try (rw [h3]; conv => whnf)
      refine Or.inl ⟨14, by kernel_rfl, ?_⟩
      conv => whnf
      refine ⟨⟨by decide, by decide⟩, ?_⟩
      conv => whnf
      refine ⟨⟨by omega, by omega⟩, ?_⟩
      conv => whnf
      refine optK_intro _ (nest_last (rowsZ 3 d 0 h) _ _ (by rw [rowsZ_length]; simp)) ?_
      conv => whnf
      refine ⟨_, start_pure 3 0 k (by decide) (by omega) (by omega), ?_⟩
      conv => whnf
      refine ⟨⟨by omega, by omega⟩, ?_⟩
      conv => whnf
      refine optK_intro _ hov ?_
      conv => whnf
      rw [ek]
      refine wk_mask [false, true, false, true, true, false, true, true] _ rfl ?_
      rw [to_set 3 d 0 h k (p 0) hpk _ hv]
      exact next
    · have h0 : ((h : Int) == 0) = false := by simp; omega
      conv => whnf
      try (rw [h3]; conv => whnf)
      rw [h0]
      conv => whnf
      refine Or.inl ⟨18, by kernel_rfl, ?_⟩
      conv => whnf
      refine ⟨⟨by decide, by decide⟩, ?_⟩
      conv => whnf
      refine ⟨⟨by omega, by omega⟩, ?_⟩
      conv => whnf
      refine optK_intro _ (nest_last (rowsZ 3 d 0 h) _ _ (by rw [rowsZ_length]; simp)) ?_
      conv => whnf
      refine ⟨Nat.le_refl _, Or.inl ?_⟩
      conv => whnf
      refine ⟨by simp [nest2, rowsZ], Or.inr ⟨_, to_rows (toHf3 d h p) (rowsZ 3 d 0 h) (fillL (lvl 3 d h 0) (p 0)) 6 0 (2 ^ h + 1) (h + 1) rfl (by rw [fillL_length, lvl_length]) (by rw [rowsZ_length]), ?_⟩⟩
      conv => whnf
      refine ⟨by simp [nest2, rowsZ], Or.inr ⟨_, to_rows (toHf3 d h p) (rowsZ 3 d 1 h) (fillL (lvl 3 d h 1) (p 1)) 8 0 (2 ^ h + 1) (h + 1) rfl (by rw [fillL_length, lvl_length]) (by rw [rowsZ_length]), ?_⟩⟩
      conv => whnf
      refine ⟨by simp [nest2, rowsZ], Or.inr ⟨_, to_rows (toHf3 d h p) (rowsZ 3 d 2 h) (fillL (lvl 3 d h 2) (p 2)) 10 0 (2 ^ h + 1) (h + 1) rfl (by rw [fillL_length, lvl_length]) (by rw [rowsZ_length]), ?_⟩⟩
      conv => whnf
      refine ⟨by simp [nest2, rowsZ], Or.inr ⟨_, to_rows (toHf3 d h p) (rowsZ 3 d 3 h) (fillL (lvl 3 d h 3) (p 3)) 12 0 (2 ^ h + 1) (h + 1) rfl (by rw [fillL_length, lvl_length]) (by rw [rowsZ_length]), ?_⟩⟩
      conv => whnf

      obtain ⟨g, rfl⟩ : ∃ g, h = g + 1 := ⟨h - 1, by omega⟩
      have hall : ∀ b, b < 4 → RowAt [rowsZ 3 d 0 (g + 1) ++ [fillL (lvl 3 d (g + 1) 0) (p 0)], rowsZ 3 d 1 (g + 1) ++ [fillL (lvl 3 d (g + 1) 1) (p 1)], rowsZ 3 d 2 (g + 1) ++ [fillL (lvl 3 d (g + 1) 2) (p 2)], rowsZ 3 d 3 (g + 1) ++ [fillL (lvl 3 d (g + 1) 3) (p 3)]] b g (lvl 3 d g b) := fun b hb => by
        match b, hb with
        | 0, _ => exact ⟨_, rfl, rowsZ_get ..⟩
        | 1, _ => exact ⟨_, rfl, rowsZ_get ..⟩
        | 2, _ => exact ⟨_, rfl, rowsZ_get ..⟩
        | 3, _ => exact ⟨_, rfl, rowsZ_get ..⟩
      have hk0 : k ≠ 0 := by simp at h3; omega
      refine ⟨_, best3_pure 3 d 0 g k [rowsZ 3 d 0 (g + 1) ++ [fillL (lvl 3 d (g + 1) 0) (p 0)], rowsZ 3 d 1 (g + 1) ++ [fillL (lvl 3 d (g + 1) 1) (p 1)], rowsZ 3 d 2 (g + 1) ++ [fillL (lvl 3 d (g + 1) 2) (p 2)], rowsZ 3 d 3 (g + 1) ++ [fillL (lvl 3 d (g + 1) 3) (p 3)]] (lvl 3 d g 0) (lvl 3 d g (belowN 3 d 0 (g + 1))) (by decide) (by decide) (by decide) (by decide) hh hd (hall 0 (by decide))
        (fun hne => hall _ (by first | exact absurd rfl hne | exact (by decide : 1 < 2) | exact belowN_lt _ _ _ _ (by decide))) (lvl_length ..) (fun _ => lvl_length ..) (lvl_small 3 d g 0 (by omega)) (fun _ => lvl_small 3 d g _ (by omega)) (by omega), ?_⟩
      conv => whnf
      refine ⟨⟨by omega, by omega⟩, ?_⟩
      conv => whnf
      refine optK_intro _ hov ?_
      conv => whnf
      rw [ek]
      refine wk_mask [false, true, false, true, true, false, true, true] _ rfl ?_
      rw [to_set 3 d 0 (g + 1) k (p 0) hpk _ (lvl_getS 3 d g 0 k hk0 hkb)]
      exact next
theorem to_row_3_1 (E : EqT) (d h : Nat) (h1 : 1 ≤ h) (hh : h ≤ d) (hd : d ≤ 6) (K : K) :
    ∀ (c k n : Nat) (p : Nat → Nat), k + c = 2 ^ h + 1 → c + 60 ≤ n → p 1 = k →
      (∀ j, K (.exit 6) (mkJ 90 [(1, .pt 0 0 0 0 0), (3, .sl 1 0 1 0 4), (4, .v (.int .i64 h)), (6, .v (.int .i64 (1 : Nat)))] j) (toHf3 d h (fun s => if s = 1 then 2 ^ h + 1 else p s)) []) →
      loopF (run Go.Proofs.Try.prog E (envL Go.Proofs.Try.prog toEnv) n) 0 0 (loopB Go.Proofs.Try.prog 42 3) (mkT 90 [(1, .pt 0 0 0 0 0), (3, .sl 1 0 1 0 4), (4, .v (.int .i64 h)), (6, .v (.int .i64 (1 : Nat))), (7, .v (.int .i64 k))]) (toHf3 d h p) [] K := by
  intro c
  have hp6 := pow_le6 (show h ≤ 6 by omega)
  have eu : IntKind.u64.wrap (h : Int) = (h : Int) := by simp [IntKind.wrap, IntKind.bits, IntKind.signed]; omega
  have es : IntKind.i64.wrap (1 * 2 ^ min (IntKind.u64.wrap (h : Int)).toNat IntKind.i64.bits) = ((2 ^ h : Nat) : Int) := by rw [eu]; exact shl1 (by omega)
  induction c with
  | zero =>
    intro k n p hi hn hpk hK
    obtain ⟨n, rfl⟩ : ∃ m, n = m + 60 := ⟨n - 60, by omega⟩
    have e : (fun s => if s = 1 then 2 ^ h + 1 else p s) = p := by
      funext s; split
      · rename_i hs; subst hs; omega
      · rfl
    rw [e] at hK
    conv => whnf
    refine ⟨by rw [eu]; omega, ?_⟩
    conv => whnf
    rw [es]
    refine cndK_intro (fun h => ?_) (fun h => ?_)
    · exfalso
      simp only [decide_eq_true_eq] at h
      omega
    · conv => whnf
      exact useJ hK rfl
  | succ c ih =>
    intro k n p hi hn hpk hK
    obtain ⟨n, rfl⟩ : ∃ m, n = m + 60 := ⟨n - 60, by omega⟩
    have ek : IntKind.i64.wrap ((k : Int) + 1) = ((k + 1 : Nat) : Int) := by rw [wrap64 (by omega) (by omega)]; omega
    have hK2 : ∀ j, K (.exit 6) (mkJ 90 [(1, .pt 0 0 0 0 0), (3, .sl 1 0 1 0 4), (4, .v (.int .i64 h)), (6, .v (.int .i64 (1 : Nat)))] j)
        (toHf3 d h (fun s => if s = 1 then 2 ^ h + 1 else (fun s => if s = 1 then p s + 1 else p s) s)) [] := fun j => by
      have := hK j
      have e : (fun s => if s = 1 then 2 ^ h + 1 else (fun s => if s = 1 then p s + 1 else p s) s) = (fun s => if s = 1 then 2 ^ h + 1 else p s) := by
        funext s; split <;> simp_all
      rw [e]; exact this
    have next := ih (k + 1) (n + 59) (fun s => if s = 1 then p s + 1 else p s) (by omega) (by omega) (by simp [hpk]) hK2
    clear hK hK2 ih
    have hkb : k < 2 ^ h + 1 := by omega
    obtain ⟨ov, hov⟩ := to_get 3 d 1 h k (p 1) hkb
    conv => whnf
    refine ⟨by rw [eu]; omega, ?_⟩
    conv => whnf
    rw [es]
    refine cndK_intro (fun h2 => ?_) (fun h2 => ?_)
    rotate_left
    · exfalso
      simp only [decide_eq_false_iff_not] at h2
      omega
    conv => whnf
    refine cndK_intro (fun h3 => ?_) (fun h3 => ?_)
    · have hk0 : k = 0 := by simp at h3; omega
      have hv : (lvl 3 d h 1)[k]? = some (if (3 : Nat) = 1 then 1 - (k : Int) else (k : Int) * ([0, 1, 1, 2] : List Int).getD 1 0) := by
        rw [hk0]; exact lvl_get0 3 d h 1
      conv => whnf
      try (rw [h3]; conv => whnf)
      refine Or.inl ⟨14, by kernel_rfl, ?_⟩
      conv => whnf
      refine ⟨⟨by decide, by decide⟩, ?_⟩
      conv => whnf
      refine ⟨⟨by omega, by omega⟩, ?_⟩
      conv => whnf
      refine optK_intro _ (nest_last (rowsZ 3 d 1 h) _ _ (by rw [rowsZ_length]; simp)) ?_
      conv => whnf
      refine ⟨_, start_pure 3 1 k (by decide) (by omega) (by omega), ?_⟩
      conv => whnf
      refine ⟨⟨by omega, by omega⟩, ?_⟩
      conv => whnf
      refine optK_intro _ hov ?_
      conv => whnf
      rw [ek]
      refine wk_mask [false, true, false, true, true, false, true, true] _ rfl ?_
      rw [to_set 3 d 1 h k (p 1) hpk _ hv]
      exact next
    · have h0 : ((h : Int) == 0) = false := by simp; omega
      conv => whnf
      try (rw [h3]; conv => whnf)
      rw [h0]
      conv => whnf
      refine Or.inl ⟨18, by kernel_rfl, ?_⟩
      conv => whnf
      refine ⟨⟨by decide, by decide⟩, ?_⟩
      conv => whnf
      refine ⟨⟨by omega, by omega⟩, ?_⟩
      conv => whnf
      refine optK_intro _ (nest_last (rowsZ 3 d 1 h) _ _ (by rw [rowsZ_length]; simp)) ?_
      conv => whnf
      refine ⟨Nat.le_refl _, Or.inl ?_⟩
      conv => whnf
      refine ⟨by simp [nest2, rowsZ], Or.inr ⟨_, to_rows (toHf3 d h p) (rowsZ 3 d 0 h) (fillL (lvl 3 d h 0) (p 0)) 6 0 (2 ^ h + 1) (h + 1) rfl (by rw [fillL_length, lvl_length]) (by rw [rowsZ_length]), ?_⟩⟩
      conv => whnf
      refine ⟨by simp [nest2, rowsZ], Or.inr ⟨_, to_rows (toHf3 d h p) (rowsZ 3 d 1 h) (fillL (lvl 3 d h 1) (p 1)) 8 0 (2 ^ h + 1) (h + 1) rfl (by rw [fillL_length, lvl_length]) (by rw [rowsZ_length]), ?_⟩⟩
      conv => whnf
      refine ⟨by simp [nest2, rowsZ], Or.inr ⟨_, to_rows (toHf3 d h p) (rowsZ 3 d 2 h) (fillL (lvl 3 d h 2) (p 2)) 10 0 (2 ^ h + 1) (h + 1) rfl (by rw [fillL_length, lvl_length]) (by rw [rowsZ_length]), ?_⟩⟩
      conv => whnf
      refine ⟨by simp [nest2, rowsZ], Or.inr ⟨_, to_rows (toHf3 d h p) (rowsZ 3 d 3 h) (fillL (lvl 3 d h 3) (p 3)) 12 0 (2 ^ h + 1) (h + 1) rfl (by rw [fillL_length, lvl_length]) (by rw [rowsZ_length]), ?_⟩⟩
      conv => whnf

      obtain ⟨g, rfl⟩ : ∃ g, h = g + 1 := ⟨h - 1, by omega⟩
      have hall : ∀ b, b < 4 → RowAt [rowsZ 3 d 0 (g + 1) ++ [fillL (lvl 3 d (g + 1) 0) (p 0)], rowsZ 3 d 1 (g + 1) ++ [fillL (lvl 3 d (g + 1) 1) (p 1)], rowsZ 3 d 2 (g + 1) ++ [fillL (lvl 3 d (g + 1) 2) (p 2)], rowsZ 3 d 3 (g + 1) ++ [fillL (lvl 3 d (g + 1) 3) (p 3)]] b g (lvl 3 d g b) := fun b hb => by
        match b, hb with
        | 0, _ => exact ⟨_, rfl, rowsZ_get ..⟩
        | 1, _ => exact ⟨_, rfl, rowsZ_get ..⟩
        | 2, _ => exact ⟨_, rfl, rowsZ_get ..⟩
        | 3, _ => exact ⟨_, rfl, rowsZ_get ..⟩
      have hk0 : k ≠ 0 := by simp at h3; omega
      refine ⟨_, best3_pure 3 d 1 g k [rowsZ 3 d 0 (g + 1) ++ [fillL (lvl 3 d (g + 1) 0) (p 0)], rowsZ 3 d 1 (g + 1) ++ [fillL (lvl 3 d (g + 1) 1) (p 1)], rowsZ 3 d 2 (g + 1) ++ [fillL (lvl 3 d (g + 1) 2) (p 2)], rowsZ 3 d 3 (g + 1) ++ [fillL (lvl 3 d (g + 1) 3) (p 3)]] (lvl 3 d g 0) (lvl 3 d g (belowN 3 d 1 (g + 1))) (by decide) (by decide) (by decide) (by decide) hh hd (hall 0 (by decide))
        (fun hne => hall _ (by first | exact absurd rfl hne | exact (by decide : 1 < 2) | exact belowN_lt _ _ _ _ (by decide))) (lvl_length ..) (fun _ => lvl_length ..) (lvl_small 3 d g 0 (by omega)) (fun _ => lvl_small 3 d g _ (by omega)) (by omega), ?_⟩
      conv => whnf
      refine ⟨⟨by omega, by omega⟩, ?_⟩
      conv => whnf
      refine optK_intro _ hov ?_
      conv => whnf
      rw [ek]
      refine wk_mask [false, true, false, true, true, false, true, true] _ rfl ?_
      rw [to_set 3 d 1 (g + 1) k (p 1) hpk _ (lvl_getS 3 d g 1 k hk0 hkb)]
      exact next
theorem to_row_3_2 (E : EqT) (d h : Nat) (h1 : 1 ≤ h) (hh : h ≤ d) (hd : d ≤ 6) (K : K) :
    ∀ (c k n : Nat) (p : Nat → Nat), k + c = 2 ^ h + 1 → c + 60 ≤ n → p 2 = k →
      (∀ j, K (.exit 6) (mkJ 90 [(1, .pt 0 0 0 0 0), (3, .sl 1 0 1 0 4), (4, .v (.int .i64 h)), (6, .v (.int .i64 (2 : Nat)))] j) (toHf3 d h (fun s => if s = 2 then 2 ^ h + 1 else p s)) []) →
      loopF (run Go.Proofs.Try.prog E (envL Go.Proofs.Try.prog toEnv) n) 0 0 (loopB Go.Proofs.Try.prog 42 3) (mkT 90 [(1, .pt 0 0 0 0 0), (3, .sl 1 0 1 0 4), (4, .v (.int .i64 h)), (6, .v (.int .i64 (2 : Nat))), (7, .v (.int .i64 k))]) (toHf3 d h p) [] K := by
  intro c
  have hp6 := pow_le6 (show h ≤ 6 by omega)
  have eu : IntKind.u64.wrap (h : Int) = (h : Int) := by simp [IntKind.wrap, IntKind.bits, IntKind.signed]; omega
  have es : IntKind.i64.wrap (1 * 2 ^ min (IntKind.u64.wrap (h : Int)).toNat IntKind.i64.bits) = ((2 ^ h : Nat) : Int) := by rw [eu]; exact shl1 (by omega)
  induction c with
  | zero =>
    intro k n p hi hn hpk hK
    obtain ⟨n, rfl⟩ : ∃ m, n = m + 60 := ⟨n - 60, by omega⟩
    have e : (fun s => if s = 2 then 2 ^ h + 1 else p s) = p := by
      funext s; split
      · rename_i hs; subst hs; omega
      · rfl
    rw [e] at hK
    conv => whnf
    refine ⟨by rw [eu]; omega, ?_⟩
    conv => whnf
    rw [es]
    refine cndK_intro (fun h => ?_) (fun h => ?_)
    · exfalso
      simp only [decide_eq_true_eq] at h
      omega
    · conv => whnf
      exact useJ hK rfl
  | succ c ih =>
    intro k n p hi hn hpk hK
    obtain ⟨n, rfl⟩ : ∃ m, n = m + 60 := ⟨n - 60, by omega⟩
    have ek : IntKind.i64.wrap ((k : Int) + 1) = ((k + 1 : Nat) : Int) := by rw [wrap64 (by omega) (by omega)]; omega
    have hK2 : ∀ j, K (.exit 6) (mkJ 90 [(1, .pt 0 0 0 0 0), (3, .sl 1 0 1 0 4), (4, .v (.int .i64 h)), (6, .v (.int .i64 (2 : Nat)))] j)
        (toHf3 d h (fun s => if s = 2 then 2 ^ h + 1 else (fun s => if s = 2 then p s + 1 else p s) s)) [] := fun j => by
      have := hK j
      have e : (fun s => if s = 2 then 2 ^ h + 1 else (fun s => if s = 2 then p s + 1 else p s) s) = (fun s => if s = 2 then 2 ^ h + 1 else p s) := by
        funext s; split <;> simp_all
      rw [e]; exact this
    have next := ih (k + 1) (n + 59) (fun s => if s = 2 then p s + 1 else p s) (by omega) (by omega) (by simp [hpk]) hK2
    clear hK hK2 ih
    have hkb : k < 2 ^ h + 1 := by omega
    obtain ⟨ov, hov⟩ := to_get 3 d 2 h k (p 2) hkb
    conv => whnf
    refine ⟨by rw [eu]; omega, ?_⟩
    conv => whnf
    rw [es]
    refine cndK_intro (fun h2 => ?_) (fun h2 => ?_)
    rotate_left
    · exfalso
      simp only [decide_eq_false_iff_not] at h2
      omega
    conv => whnf
    refine cndK_intro (fun h3 => ?_) (fun h3 => ?_)
    · have hk0 : k = 0 := by simp at h3; omega
      have hv : (lvl 3 d h 2)[k]? = some (if (3 : Nat) = 1 then 1 - (k : Int) else (k : Int) * ([0, 1, 1, 2] : List Int).getD 2 0) := by
        rw [hk0]; exact lvl_get0 3 d h 2
      conv => whnf
      try (rw [h3]; conv => whnf)
      refine Or.inl ⟨14, by kernel_rfl, ?_⟩
      conv => whnf
      refine ⟨⟨by decide, by decide⟩, ?_⟩
      conv => whnf
      refine ⟨⟨by omega, by omega⟩, ?_⟩
      conv => whnf
      refine optK_intro _ (nest_last (rowsZ 3 d 2 h) _ _ (by rw [rowsZ_length]; simp)) ?_
      conv => whnf
      refine ⟨_, start_pure 3 2 k (by decide) (by omega) (by omega), ?_⟩
      conv => whnf
      refine ⟨⟨by omega, by omega⟩, ?_⟩
      conv => whnf
      refine optK_intro _ hov ?_
      conv => whnf
      rw [ek]
      refine wk_mask [false, true, false, true, true, false, true, true] _ rfl ?_
      rw [to_set 3 d 2 h k (p 2) hpk _ hv]
      exact next
    · have h0 : ((h : Int) == 0) = false := by simp; omega
      conv => whnf
      try (rw [h3]; conv => whnf)
      rw [h0]
      conv => whnf
      refine Or.inl ⟨18, by kernel_rfl, ?_⟩
      conv => whnf
      refine ⟨⟨by decide, by decide⟩, ?_⟩
      conv => whnf
      refine ⟨⟨by omega, by omega⟩, ?_⟩
      conv => whnf
      refine optK_intro _ (nest_last (rowsZ 3 d 2 h) _ _ (by rw [rowsZ_length]; simp)) ?_
      conv => whnf
      refine ⟨Nat.le_refl _, Or.inl ?_⟩
      conv => whnf
      refine ⟨by simp [nest2, rowsZ], Or.inr ⟨_, to_rows (toHf3 d h p) (rowsZ 3 d 0 h) (fillL (lvl 3 d h 0) (p 0)) 6 0 (2 ^ h + 1) (h + 1) rfl (by rw [fillL_length, lvl_length]) (by rw [rowsZ_length]), ?_⟩⟩
      conv => whnf
      refine ⟨by simp [nest2, rowsZ], Or.inr ⟨_, to_rows (toHf3 d h p) (rowsZ 3 d 1 h) (fillL (lvl 3 d h 1) (p 1)) 8 0 (2 ^ h + 1) (h + 1) rfl (by rw [fillL_length, lvl_length]) (by rw [rowsZ_length]), ?_⟩⟩
      conv => whnf
      refine ⟨by simp [nest2, rowsZ], Or.inr ⟨_, to_rows (toHf3 d h p) (rowsZ 3 d 2 h) (fillL (lvl 3 d h 2) (p 2)) 10 0 (2 ^ h + 1) (h + 1) rfl (by rw [fillL_length, lvl_length]) (by rw [rowsZ_length]), ?_⟩⟩
      conv => whnf
      refine ⟨by simp [nest2, rowsZ], Or.inr ⟨_, to_rows (toHf3 d h p) (rowsZ 3 d 3 h) (fillL (lvl 3 d h 3) (p 3)) 12 0 (2 ^ h + 1) (h + 1) rfl (by rw [fillL_length, lvl_length]) (by rw [rowsZ_length]), ?_⟩⟩
      conv => whnf

      obtain ⟨g, rfl⟩ : ∃ g, h = g + 1 := ⟨h - 1, by omega⟩
      have hall : ∀ b, b < 4 → RowAt [rowsZ 3 d 0 (g + 1) ++ [fillL (lvl 3 d (g + 1) 0) (p 0)], rowsZ 3 d 1 (g + 1) ++ [fillL (lvl 3 d (g + 1) 1) (p 1)], rowsZ 3 d 2 (g + 1) ++ [fillL (lvl 3 d (g + 1) 2) (p 2)], rowsZ 3 d 3 (g + 1) ++ [fillL (lvl 3 d (g + 1) 3) (p 3)]] b g (lvl 3 d g b) := fun b hb => by
        match b, hb with
        | 0, _ => exact ⟨_, rfl, rowsZ_get ..⟩
        | 1, _ => exact ⟨_, rfl, rowsZ_get ..⟩
        | 2, _ => exact ⟨_, rfl, rowsZ_get ..⟩
        | 3, _ => exact ⟨_, rfl, rowsZ_get ..⟩
      have hk0 : k ≠ 0 := by simp at h3; omega
      refine ⟨_, best3_pure 3 d 2 g k [rowsZ 3 d 0 (g + 1) ++ [fillL (lvl 3 d (g + 1) 0) (p 0)], rowsZ 3 d 1 (g + 1) ++ [fillL (lvl 3 d (g + 1) 1) (p 1)], rowsZ 3 d 2 (g + 1) ++ [fillL (lvl 3 d (g + 1) 2) (p 2)], rowsZ 3 d 3 (g + 1) ++ [fillL (lvl 3 d (g + 1) 3) (p 3)]] (lvl 3 d g 0) (lvl 3 d g (belowN 3 d 2 (g + 1))) (by decide) (by decide) (by decide) (by decide) hh hd (hall 0 (by decide))
        (fun hne => hall _ (by first | exact absurd rfl hne | exact (by decide : 1 < 2) | exact belowN_lt _ _ _ _ (by decide))) (lvl_length ..) (fun _ => lvl_length ..) (lvl_small 3 d g 0 (by omega)) (fun _ => lvl_small 3 d g _ (by omega)) (by omega), ?_⟩
      conv => whnf
      refine ⟨⟨by omega, by omega⟩, ?_⟩
      conv => whnf
      refine optK_intro _ hov ?_
      conv => whnf
      rw [ek]
      refine wk_mask [false, true, false, true, true, false, true, true] _ rfl ?_
      rw [to_set 3 d 2 (g + 1) k (p 2) hpk _ (lvl_getS 3 d g 2 k hk0 hkb)]
      exact next
theorem to_row_3_3 (E : EqT) (d h : Nat) (h1 : 1 ≤ h) (hh : h ≤ d) (hd : d ≤ 6) (K : K) :
    ∀ (c k n : Nat) (p : Nat → Nat), k + c = 2 ^ h + 1 → c + 60 ≤ n → p 3 = k →
      (∀ j, K (.exit 6) (mkJ 90 [(1, .pt 0 0 0 0 0), (3, .sl 1 0 1 0 4), (4, .v (.int .i64 h)), (6, .v (.int .i64 (3 : Nat)))] j) (toHf3 d h (fun s => if s = 3 then 2 ^ h + 1 else p s)) []) →
      loopF (run Go.Proofs.Try.prog E (envL Go.Proofs.Try.prog toEnv) n) 0 0 (loopB Go.Proofs.Try.prog 42 3) (mkT 90 [(1, .pt 0 0 0 0 0), (3, .sl 1 0 1 0 4), (4, .v (.int .i64 h)), (6, .v (.int .i64 (3 : Nat))), (7, .v (.int .i64 k))]) (toHf3 d h p) [] K := by
  intro c
  have hp6 := pow_le6 (show h ≤ 6 by omega)
  have eu : IntKind.u64.wrap (h : Int) = (h : Int) := by simp [IntKind.wrap, IntKind.bits, IntKind.signed]; omega
  have es : IntKind.i64.wrap (1 * 2 ^ min (IntKind.u64.wrap (h : Int)).toNat IntKind.i64.bits) = ((2 ^ h : Nat) : Int) := by rw [eu]; exact shl1 (by omega)
  induction c with
  | zero =>
    intro k n p hi hn hpk hK
    obtain ⟨n, rfl⟩ : ∃ m, n = m + 60 := ⟨n - 60, by omega⟩
    have e : (fun s => if s = 3 then 2 ^ h + 1 else p s) = p := by
      funext s; split
      · rename_i hs; subst hs; omega
      · rfl
    rw [e] at hK
    conv => whnf
    refine ⟨by rw [eu]; omega, ?_⟩
    conv => whnf
    rw [es]
    refine cndK_intro (fun h => ?_) (fun h => ?_)
    · exfalso
      simp only [decide_eq_true_eq] at h
      omega
    · conv => whnf
      exact useJ hK rfl
  | succ c ih =>
    intro k n p hi hn hpk hK
    obtain ⟨n, rfl⟩ : ∃ m, n = m + 60 := ⟨n - 60, by omega⟩
    have ek : IntKind.i64.wrap ((k : Int) + 1) = ((k + 1 : Nat) : Int) := by rw [wrap64 (by omega) (by omega)]; omega
    have hK2 : ∀ j, K (.exit 6) (mkJ 90 [(1, .pt 0 0 0 0 0), (3, .sl 1 0 1 0 4), (4, .v (.int .i64 h)), (6, .v (.int .i64 (3 : Nat)))] j)
        (toHf3 d h (fun s => if s = 3 then 2 ^ h + 1 else (fun s => if s = 3 then p s + 1 else p s) s)) [] := fun j => by
      have := hK j
      have e : (fun s => if s = 3 then 2 ^ h + 1 else (fun s => if s = 3 then p s + 1 else p s) s) = (fun s => if s = 3 then 2 ^ h + 1 else p s) := by
        funext s; split <;> simp_all
      rw [e]; exact this
    have next := ih (k + 1) (n + 59) (fun s => if s = 3 then p s + 1 else p s) (by omega) (by omega) (by simp [hpk]) hK2
    clear hK hK2 ih
    have hkb : k < 2 ^ h + 1 := by omega
    obtain ⟨ov, hov⟩ := to_get 3 d 3 h k (p 3) hkb
    conv => whnf
    refine ⟨by rw [eu]; omega, ?_⟩
    conv => whnf
    rw [es]
    refine cndK_intro (fun h2 => ?_) (fun h2 => ?_)
    rotate_left
    · exfalso
      simp only [decide_eq_false_iff_not] at h2
      omega
    conv => whnf
    refine cndK_intro (fun h3 => ?_) (fun h3 => ?_)
    · have hk0 : k = 0 := by simp at h3; omega
      have hv : (lvl 3 d h 3)[k]? = some (if (3 : Nat) = 1 then 1 - (k : Int) else (k : Int) * ([0, 1, 1, 2] : List Int).getD 3 0) := by
        rw [hk0]; exact lvl_get0 3 d h 3
      conv => whnf
      try (rw [h3]; conv => whnf)
      refine Or.inl ⟨14, by kernel_rfl, ?_⟩
      conv => whnf
      refine ⟨⟨by decide, by decide⟩, ?_⟩
      conv => whnf
      refine ⟨⟨by omega, by omega⟩, ?_⟩
      conv => whnf
      refine optK_intro _ (nest_last (rowsZ 3 d 3 h) _ _ (by rw [rowsZ_length]; simp)) ?_
      conv => whnf
      refine ⟨_, start_pure 3 3 k (by decide) (by omega) (by omega), ?_⟩
      conv => whnf
      refine ⟨⟨by omega, by omega⟩, ?_⟩
      conv => whnf
      refine optK_intro _ hov ?_
      conv => whnf
      rw [ek]
      refine wk_mask [false, true, false, true, true, false, true, true] _ rfl ?_
      rw [to_set 3 d 3 h k (p 3) hpk _ hv]
      exact next
    · have h0 : ((h : Int) == 0) = false := by simp; omega
      conv => whnf
      try (rw [h3]; conv => whnf)
      rw [h0]
      conv => whnf
      refine Or.inl ⟨18, by kernel_rfl, ?_⟩
      conv => whnf
      refine ⟨⟨by decide, by decide⟩, ?_⟩
      conv => whnf
      refine ⟨⟨by omega, by omega⟩, ?_⟩
      conv => whnf
      refine optK_intro _ (nest_last (rowsZ 3 d 3 h) _ _ (by rw [rowsZ_length]; simp)) ?_
      conv => whnf
      refine ⟨Nat.le_refl _, Or.inl ?_⟩
      conv => whnf
      refine ⟨by simp [nest2, rowsZ], Or.inr ⟨_, to_rows (toHf3 d h p) (rowsZ 3 d 0 h) (fillL (lvl 3 d h 0) (p 0)) 6 0 (2 ^ h + 1) (h + 1) rfl (by rw [fillL_length, lvl_length]) (by rw [rowsZ_length]), ?_⟩⟩
      conv => whnf
      refine ⟨by simp [nest2, rowsZ], Or.inr ⟨_, to_rows (toHf3 d h p) (rowsZ 3 d 1 h) (fillL (lvl 3 d h 1) (p 1)) 8 0 (2 ^ h + 1) (h + 1) rfl (by rw [fillL_length, lvl_length]) (by rw [rowsZ_length]), ?_⟩⟩
      conv => whnf
      refine ⟨by simp [nest2, rowsZ], Or.inr ⟨_, to_rows (toHf3 d h p) (rowsZ 3 d 2 h) (fillL (lvl 3 d h 2) (p 2)) 10 0 (2 ^ h + 1) (h + 1) rfl (by rw [fillL_length, lvl_length]) (by rw [rowsZ_length]), ?_⟩⟩
      conv => whnf
      refine ⟨by simp [nest2, rowsZ], Or.inr ⟨_, to_rows (toHf3 d h p) (rowsZ 3 d 3 h) (fillL (lvl 3 d h 3) (p 3)) 12 0 (2 ^ h + 1) (h + 1) rfl (by rw [fillL_length, lvl_length]) (by rw [rowsZ_length]), ?_⟩⟩
      conv => whnf

      obtain ⟨g, rfl⟩ : ∃ g, h = g + 1 := ⟨h - 1, by omega⟩
      have hall : ∀ b, b < 4 → RowAt [rowsZ 3 d 0 (g + 1) ++ [fillL (lvl 3 d (g + 1) 0) (p 0)], rowsZ 3 d 1 (g + 1) ++ [fillL (lvl 3 d (g + 1) 1) (p 1)], rowsZ 3 d 2 (g + 1) ++ [fillL (lvl 3 d (g + 1) 2) (p 2)], rowsZ 3 d 3 (g + 1) ++ [fillL (lvl 3 d (g + 1) 3) (p 3)]] b g (lvl 3 d g b) := fun b hb => by
        match b, hb with
        | 0, _ => exact ⟨_, rfl, rowsZ_get ..⟩
        | 1, _ => exact ⟨_, rfl, rowsZ_get ..⟩
        | 2, _ => exact ⟨_, rfl, rowsZ_get ..⟩
        | 3, _ => exact ⟨_, rfl, rowsZ_get ..⟩
      have hk0 : k ≠ 0 := by simp at h3; omega
      refine ⟨_, best3_pure 3 d 3 g k [rowsZ 3 d 0 (g + 1) ++ [fillL (lvl 3 d (g + 1) 0) (p 0)], rowsZ 3 d 1 (g + 1) ++ [fillL (lvl 3 d (g + 1) 1) (p 1)], rowsZ 3 d 2 (g + 1) ++ [fillL (lvl 3 d (g + 1) 2) (p 2)], rowsZ 3 d 3 (g + 1) ++ [fillL (lvl 3 d (g + 1) 3) (p 3)]] (lvl 3 d g 0) (lvl 3 d g (belowN 3 d 3 (g + 1))) (by decide) (by decide) (by decide) (by decide) hh hd (hall 0 (by decide))
        (fun hne => hall _ (by first | exact absurd rfl hne | exact (by decide : 1 < 2) | exact belowN_lt _ _ _ _ (by decide))) (lvl_length ..) (fun _ => lvl_length ..) (lvl_small 3 d g 0 (by omega)) (fun _ => lvl_small 3 d g _ (by omega)) (by omega), ?_⟩
      conv => whnf
      refine ⟨⟨by omega, by omega⟩, ?_⟩
      conv => whnf
      refine optK_intro _ hov ?_
      conv => whnf
      rw [ek]
      refine wk_mask [false, true, false, true, true, false, true, true] _ rfl ?_
      rw [to_set 3 d 3 (g + 1) k (p 3) hpk _ (lvl_getS 3 d g 3 k hk0 hkb)]
      exact next
theorem to_loop_1 (E : EqT) (d : Nat) (hd : d ≤ 6) (K : K) : ∀ (c h n : Nat), h + c = d + 1 → 1 ≤ h → c + 300 ≤ n →
      (∀ j, K (.exit 0) (mkJ 90 [(1, .pt 0 0 0 0 0), (3, .sl 1 0 1 0 1)] j) (toHp1 d (d + 1)) []) →
      loopF (run Go.Proofs.Try.prog E (envL Go.Proofs.Try.prog toEnv) n) 0 0 (loopB Go.Proofs.Try.prog 42 0) (mkT 90 [(1, .pt 0 0 0 0 0), (3, .sl 1 0 1 0 1), (4, .v (.int .i64 h))]) (toHp1 d h) [] K := by
  intro c
  induction c with
  | zero =>
    intro h n hi hh hn hK
    obtain ⟨n, rfl⟩ : ∃ m, n = m + 300 := ⟨n - 300, by omega⟩
    obtain rfl : h = d + 1 := by omega
    conv => whnf
    refine cndK_intro (fun h => ?_) (fun h => ?_)
    · exfalso
      simp only [decide_eq_true_eq] at h
      omega
    · conv => whnf
      exact useJ hK rfl
  | succ c ih =>
    intro h n hi hh hn hK
    obtain ⟨n, rfl⟩ : ∃ m, n = m + 300 := ⟨n - 300, by omega⟩
    have hp6 := pow_le6 (show h ≤ 6 by omega)
    have eu : IntKind.u64.wrap (h : Int) = (h : Int) := by simp [IntKind.wrap, IntKind.bits, IntKind.signed]; omega
    have es : IntKind.i64.wrap (1 * 2 ^ min (IntKind.u64.wrap (h : Int)).toNat IntKind.i64.bits) = ((2 ^ h : Nat) : Int) := by rw [eu]; exact shl1 (by omega)
    have e1 : IntKind.i64.wrap (1 + ((2 ^ h : Nat) : Int)) = ((2 ^ h + 1 : Nat) : Int) := by rw [wrap64 (by omega) (by omega)]; omega
    have eh : IntKind.i64.wrap ((h : Int) + 1) = ((h + 1 : Nat) : Int) := by rw [wrap64 (by omega) (by omega)]; omega
    have next := ih (h + 1) (n + 299) (by omega) (by omega) (by omega) hK
    clear ih hK
    conv => whnf
    refine cndK_intro (fun h2 => ?_) (fun h2 => ?_)
    rotate_left
    · exfalso
      simp only [decide_eq_false_iff_not] at h2
      omega
    conv => whnf
    refine wk_none ?_
    conv => whnf
    refine Or.inl ⟨12, by kernel_rfl, ?_⟩
    conv => whnf
    refine ⟨⟨by decide, by decide⟩, ?_⟩
    conv => whnf
    refine ⟨by rw [eu]; omega, ?_⟩
    conv => whnf
    rw [es, e1]
    refine ⟨⟨by omega, by omega, by show ((2 ^ h + 1 : Nat) : Int) * ((8 : Nat) : Int) ≤ 70368744177664; omega⟩, ?_⟩
    conv => whnf
    rw [to_repl 1 d h 0]
    refine ⟨by rw [ints_length, fillL_length, lvl_length]; simp, ?_⟩
    conv => whnf
    refine ⟨Nat.le_refl 1, ?_⟩
    conv => whnf
    refine ⟨⟨rfl, by rw [nest2_length, rowsZ_length]; exact Nat.le_refl _, by show ((h + 1 : Nat) : Int) * ((24 : Nat) : Int) ≤ 70368744177664; omega, by simp [cellsOf]⟩,
      nest2 (rowsZ 1 d 0 h) ++ [[A.sl 3 0 1 0 (2 ^ h + 1)]], by rw [List.take_of_length_le (by rw [nest2_length, rowsZ_length]; exact Nat.le_refl _)]; rfl, ?_⟩
    conv => whnf
    refine ⟨⟨by decide, by decide⟩, ?_⟩
    conv => whnf
    refine wk_none ?_
    conv => whnf
    refine wk_mask [false, true, false, true, true, false, true] (mkT 90 [(1, .pt 0 0 0 0 0), (3, .sl 1 0 1 0 1), (4, .v (.int .i64 h)), (6, .v (.int .i64 (0 : Nat)))]) rfl ?_
    conv => whnf
    refine wk_mask [false, true, false, true, true, false, true, true] (mkT 90 [(1, .pt 0 0 0 0 0), (3, .sl 1 0 1 0 1), (4, .v (.int .i64 h)), (6, .v (.int .i64 (0 : Nat))), (7, .v (.int .i64 (0 : Nat)))]) rfl ?_
    refine to_row_1_0 E d h hh (by omega) hd _ (2 ^ h + 1) 0 (n + 287) (fun _ => 0) (by omega) (by omega) rfl fun j => ?_
    rw [show toHf1 d h _ = toHm1 d h from by simp [toHf1, toHm1, fillL_all, lvl_length]]
    conv => whnf
    refine wk_none ?_
    conv => whnf
    rw [eh]
    refine wk_then (ts1 := (mkT 90 [(1, .pt 0 0 0 0 0), (3, .sl 1 0 1 0 1), (4, .v (.int .i64 (h + 1 : Nat)))])) (hp1 := toHm1 d h) (lp1 := []) (Wk.mask [false, true, false, true, true]) ?_
    exact to_end_1 d h _ next
theorem to_loop_2 (E : EqT) (d : Nat) (hd : d ≤ 6) (K : K) : ∀ (c h n : Nat), h + c = d + 1 → 1 ≤ h → c + 300 ≤ n →
      (∀ j, K (.exit 0) (mkJ 90 [(1, .pt 0 0 0 0 0), (3, .sl 1 0 1 0 2)] j) (toHp2 d (d + 1)) []) →
      loopF (run Go.Proofs.Try.prog E (envL Go.Proofs.Try.prog toEnv) n) 0 0 (loopB Go.Proofs.Try.prog 42 0) (mkT 90 [(1, .pt 0 0 0 0 0), (3, .sl 1 0 1 0 2), (4, .v (.int .i64 h))]) (toHp2 d h) [] K := by
  intro c
  induction c with
  | zero =>
    intro h n hi hh hn hK
    obtain ⟨n, rfl⟩ : ∃ m, n = m + 300 := ⟨n - 300, by omega⟩
    obtain rfl : h = d + 1 := by omega
    conv => whnf
    refine cndK_intro (fun h => ?_) (fun h => ?_)
    · exfalso
      simp only [decide_eq_true_eq] at h
      omega
    · conv => whnf
      exact useJ hK rfl
  | succ c ih =>
    intro h n hi hh hn hK
    obtain ⟨n, rfl⟩ : ∃ m, n = m + 300 := ⟨n - 300, by omega⟩
    have hp6 := pow_le6 (show h ≤ 6 by omega)
    have eu : IntKind.u64.wrap (h : Int) = (h : Int) := by simp [IntKind.wrap, IntKind.bits, IntKind.signed]; omega
    have es : IntKind.i64.wrap (1 * 2 ^ min (IntKind.u64.wrap (h : Int)).toNat IntKind.i64.bits) = ((2 ^ h : Nat) : Int) := by rw [eu]; exact shl1 (by omega)
    have e1 : IntKind.i64.wrap (1 + ((2 ^ h : Nat) : Int)) = ((2 ^ h + 1 : Nat) : Int) := by rw [wrap64 (by omega) (by omega)]; omega
    have eh : IntKind.i64.wrap ((h : Int) + 1) = ((h + 1 : Nat) : Int) := by rw [wrap64 (by omega) (by omega)]; omega
    have next := ih (h + 1) (n + 299) (by omega) (by omega) (by omega) hK
    clear ih hK
    conv => whnf
    refine cndK_intro (fun h2 => ?_) (fun h2 => ?_)
    rotate_left
    · exfalso
      simp only [decide_eq_false_iff_not] at h2
      omega
    conv => whnf
    refine wk_none ?_
    conv => whnf
    refine Or.inl ⟨12, by kernel_rfl, ?_⟩
    conv => whnf
    refine ⟨⟨by decide, by decide⟩, ?_⟩
    conv => whnf
    refine ⟨by rw [eu]; omega, ?_⟩
    conv => whnf
    rw [es, e1]
    refine ⟨⟨by omega, by omega, by show ((2 ^ h + 1 : Nat) : Int) * ((8 : Nat) : Int) ≤ 70368744177664; omega⟩, ?_⟩
    conv => whnf
    rw [to_repl 2 d h 0]
    refine ⟨by rw [ints_length, fillL_length, lvl_length]; simp, ?_⟩
    conv => whnf
    refine ⟨Nat.le_refl 1, ?_⟩
    conv => whnf
    refine ⟨⟨rfl, by rw [nest2_length, rowsZ_length]; exact Nat.le_refl _, by show ((h + 1 : Nat) : Int) * ((24 : Nat) : Int) ≤ 70368744177664; omega, by simp [cellsOf]⟩,
      nest2 (rowsZ 2 d 0 h) ++ [[A.sl 4 0 1 0 (2 ^ h + 1)]], by rw [List.take_of_length_le (by rw [nest2_length, rowsZ_length]; exact Nat.le_refl _)]; rfl, ?_⟩
    conv => whnf
    refine ⟨⟨by decide, by decide⟩, ?_⟩
    conv => whnf
    refine wk_none ?_
    conv => whnf
    refine Or.inl ⟨12, by kernel_rfl, ?_⟩
    conv => whnf
    refine ⟨⟨by decide, by decide⟩, ?_⟩
    conv => whnf
    refine ⟨by rw [eu]; omega, ?_⟩
    conv => whnf
    rw [es, e1]
    refine ⟨⟨by omega, by omega, by show ((2 ^ h + 1 : Nat) : Int) * ((8 : Nat) : Int) ≤ 70368744177664; omega⟩, ?_⟩
    conv => whnf
    rw [to_repl 2 d h 1]
    refine ⟨by rw [ints_length, fillL_length, lvl_length]; simp, ?_⟩
    conv => whnf
    refine ⟨Nat.le_refl 1, ?_⟩
    conv => whnf
    refine ⟨⟨rfl, by rw [nest2_length, rowsZ_length]; exact Nat.le_refl _, by show ((h + 1 : Nat) : Int) * ((24 : Nat) : Int) ≤ 70368744177664; omega, by simp [cellsOf]⟩,
      nest2 (rowsZ 2 d 1 h) ++ [[A.sl 6 0 1 0 (2 ^ h + 1)]], by rw [List.take_of_length_le (by rw [nest2_length, rowsZ_length]; exact Nat.le_refl _)]; rfl, ?_⟩
    conv => whnf
    refine ⟨⟨by decide, by decide⟩, ?_⟩
    conv => whnf
    refine wk_none ?_
    conv => whnf
    refine wk_mask [false, true, false, true, true, false, true] (mkT 90 [(1, .pt 0 0 0 0 0), (3, .sl 1 0 1 0 2), (4, .v (.int .i64 h)), (6, .v (.int .i64 (0 : Nat)))]) rfl ?_
    conv => whnf
    refine wk_mask [false, true, false, true, true, false, true, true] (mkT 90 [(1, .pt 0 0 0 0 0), (3, .sl 1 0 1 0 2), (4, .v (.int .i64 h)), (6, .v (.int .i64 (0 : Nat))), (7, .v (.int .i64 (0 : Nat)))]) rfl ?_
    refine to_row_2_0 E d h hh (by omega) hd _ (2 ^ h + 1) 0 (n + 287) (fun _ => 0) (by omega) (by omega) rfl fun j => ?_
    conv => whnf
    refine wk_mask [false, true, false, true, true, false, true] (mkT 90 [(1, .pt 0 0 0 0 0), (3, .sl 1 0 1 0 2), (4, .v (.int .i64 h)), (6, .v (.int .i64 (1 : Nat)))]) rfl ?_
    conv => whnf
    refine wk_mask [false, true, false, true, true, false, true, true] (mkT 90 [(1, .pt 0 0 0 0 0), (3, .sl 1 0 1 0 2), (4, .v (.int .i64 h)), (6, .v (.int .i64 (1 : Nat))), (7, .v (.int .i64 (0 : Nat)))]) rfl ?_
    refine to_row_2_1 E d h hh (by omega) hd _ (2 ^ h + 1) 0 (n + 286) (fun s => if s = 0 then 2 ^ h + 1 else (fun _ => 0) s) (by omega) (by omega) rfl fun j => ?_
    rw [show toHf2 d h _ = toHm2 d h from by simp [toHf2, toHm2, fillL_all, lvl_length]]
    conv => whnf
    refine wk_none ?_
    conv => whnf
    rw [eh]
    refine wk_then (ts1 := (mkT 90 [(1, .pt 0 0 0 0 0), (3, .sl 1 0 1 0 2), (4, .v (.int .i64 (h + 1 : Nat)))])) (hp1 := toHm2 d h) (lp1 := []) (Wk.mask [false, true, false, true, true]) ?_
    exact to_end_2 d h _ next
theorem to_loop_3 (E : EqT) (d : Nat) (hd : d ≤ 6) (K : K) : ∀ (c h n : Nat), h + c = d + 1 → 1 ≤ h → c + 300 ≤ n →
      (∀ j, K (.exit 0) (mkJ 90 [(1, .pt 0 0 0 0 0), (3, .sl 1 0 1 0 4)] j) (toHp3 d (d + 1)) []) →
      loopF (run Go.Proofs.Try.prog E (envL Go.Proofs.Try.prog toEnv) n) 0 0 (loopB Go.Proofs.Try.prog 42 0) (mkT 90 [(1, .pt 0 0 0 0 0), (3, .sl 1 0 1 0 4), (4, .v (.int .i64 h))]) (toHp3 d h) [] K := by
  intro c
  induction c with
  | zero =>
    intro h n hi hh hn hK
    obtain ⟨n, rfl⟩ : ∃ m, n = m + 300 := ⟨n - 300, by omega⟩
    obtain rfl : h = d + 1 := by omega
    conv => whnf
    refine cndK_intro (fun h => ?_) (fun h => ?_)
    · exfalso
      simp only [decide_eq_true_eq] at h
      omega
    · conv => whnf
      exact useJ hK rfl
  | succ c ih =>
    intro h n hi hh hn hK
    obtain ⟨n, rfl⟩ : ∃ m, n = m + 300 := ⟨n - 300, by omega⟩
    have hp6 := pow_le6 (show h ≤ 6 by omega)
    have eu : IntKind.u64.wrap (h : Int) = (h : Int) := by simp [IntKind.wrap, IntKind.bits, IntKind.signed]; omega
    have es : IntKind.i64.wrap (1 * 2 ^ min (IntKind.u64.wrap (h : Int)).toNat IntKind.i64.bits) = ((2 ^ h : Nat) : Int) := by rw [eu]; exact shl1 (by omega)
    have e1 : IntKind.i64.wrap (1 + ((2 ^ h : Nat) : Int)) = ((2 ^ h + 1 : Nat) : Int) := by rw [wrap64 (by omega) (by omega)]; omega
    have eh : IntKind.i64.wrap ((h : Int) + 1) = ((h + 1 : Nat) : Int) := by rw [wrap64 (by omega) (by omega)]; omega
    have next := ih (h + 1) (n + 299) (by omega) (by omega) (by omega) hK
    clear ih hK
    conv => whnf
    refine cndK_intro (fun h2 => ?_) (fun h2 => ?_)
    rotate_left
    · exfalso
      simp only [decide_eq_false_iff_not] at h2
      omega
    conv => whnf
    refine wk_none ?_
    conv => whnf
    refine Or.inl ⟨12, by kernel_rfl, ?_⟩
    conv => whnf
    refine ⟨⟨by decide, by decide⟩, ?_⟩
    conv => whnf
    refine ⟨by rw [eu]; omega, ?_⟩
    conv => whnf
    rw [es, e1]
    refine ⟨⟨by omega, by omega, by show ((2 ^ h + 1 : Nat) : Int) * ((8 : Nat) : Int) ≤ 70368744177664; omega⟩, ?_⟩
    conv => whnf
    rw [to_repl 3 d h 0]
    refine ⟨by rw [ints_length, fillL_length, lvl_length]; simp, ?_⟩
    conv => whnf
    refine ⟨Nat.le_refl 1, ?_⟩
    conv => whnf
    refine ⟨⟨rfl, by rw [nest2_length, rowsZ_length]; exact Nat.le_refl _, by show ((h + 1 : Nat) : Int) * ((24 : Nat) : Int) ≤ 70368744177664; omega, by simp [cellsOf]⟩,
      nest2 (rowsZ 3 d 0 h) ++ [[A.sl 6 0 1 0 (2 ^ h + 1)]], by rw [List.take_of_length_le (by rw [nest2_length, rowsZ_length]; exact Nat.le_refl _)]; rfl, ?_⟩
    conv => whnf
    refine ⟨⟨by decide, by decide⟩, ?_⟩
    conv => whnf
    refine wk_none ?_
    conv => whnf
    refine Or.inl ⟨12, by kernel_rfl, ?_⟩
    conv => whnf
    refine ⟨⟨by decide, by decide⟩, ?_⟩
    conv => whnf
    refine ⟨by rw [eu]; omega, ?_⟩
    conv => whnf
    rw [es, e1]
    refine ⟨⟨by omega, by omega, by show ((2 ^ h + 1 : Nat) : Int) * ((8 : Nat) : Int) ≤ 70368744177664; omega⟩, ?_⟩
    conv => whnf
    rw [to_repl 3 d h 1]
    refine ⟨by rw [ints_length, fillL_length, lvl_length]; simp, ?_⟩
    conv => whnf
    refine ⟨Nat.le_refl 1, ?_⟩
    conv => whnf
    refine ⟨⟨rfl, by rw [nest2_length, rowsZ_length]; exact Nat.le_refl _, by show ((h + 1 : Nat) : Int) * ((24 : Nat) : Int) ≤ 70368744177664; omega, by simp [cellsOf]⟩,
      nest2 (rowsZ 3 d 1 h) ++ [[A.sl 8 0 1 0 (2 ^ h + 1)]], by rw [List.take_of_length_le (by rw [nest2_length, rowsZ_length]; exact Nat.le_refl _)]; rfl, ?_⟩
    conv => whnf
    refine ⟨⟨by decide, by decide⟩, ?_⟩
    conv => whnf
    refine wk_none ?_
    conv => whnf
    refine Or.inl ⟨12, by kernel_rfl, ?_⟩
    conv => whnf
    refine ⟨⟨by decide, by decide⟩, ?_⟩
    conv => whnf
    refine ⟨by rw [eu]; omega, ?_⟩
    conv => whnf
    rw [es, e1]
    refine ⟨⟨by omega, by omega, by show ((2 ^ h + 1 : Nat) : Int) * ((8 : Nat) : Int) ≤ 70368744177664; omega⟩, ?_⟩
    conv => whnf
    rw [to_repl 3 d h 2]
    refine ⟨by rw [ints_length, fillL_length, lvl_length]; simp, ?_⟩
    conv => whnf
    refine ⟨Nat.le_refl 1, ?_⟩
    conv => whnf
    refine ⟨⟨rfl, by rw [nest2_length, rowsZ_length]; exact Nat.le_refl _, by show ((h + 1 : Nat) : Int) * ((24 : Nat) : Int) ≤ 70368744177664; omega, by simp [cellsOf]⟩,
      nest2 (rowsZ 3 d 2 h) ++ [[A.sl 10 0 1 0 (2 ^ h + 1)]], by rw [List.take_of_length_le (by rw [nest2_length, rowsZ_length]; exact Nat.le_refl _)]; rfl, ?_⟩
    conv => whnf
    refine ⟨⟨by decide, by decide⟩, ?_⟩
    conv => whnf
    refine wk_none ?_
    conv => whnf
    refine Or.inl ⟨12, by kernel_rfl, ?_⟩
    conv => whnf
    refine ⟨⟨by decide, by decide⟩, ?_⟩
    conv => whnf
    refine ⟨by rw [eu]; omega, ?_⟩
    conv => whnf
    rw [es, e1]
    refine ⟨⟨by omega, by omega, by show ((2 ^ h + 1 : Nat) : Int) * ((8 : Nat) : Int) ≤ 70368744177664; omega⟩, ?_⟩
    conv => whnf
    rw [to_repl 3 d h 3]
    refine ⟨by rw [ints_length, fillL_length, lvl_length]; simp, ?_⟩
    conv => whnf
    refine ⟨Nat.le_refl 1, ?_⟩
    conv => whnf
    refine ⟨⟨rfl, by rw [nest2_length, rowsZ_length]; exact Nat.le_refl _, by show ((h + 1 : Nat) : Int) * ((24 : Nat) : Int) ≤ 70368744177664; omega, by simp [cellsOf]⟩,
      nest2 (rowsZ 3 d 3 h) ++ [[A.sl 12 0 1 0 (2 ^ h + 1)]], by rw [List.take_of_length_le (by rw [nest2_length, rowsZ_length]; exact Nat.le_refl _)]; rfl, ?_⟩
    conv => whnf
    refine ⟨⟨by decide, by decide⟩, ?_⟩
    conv => whnf
    refine wk_none ?_
    conv => whnf
    refine wk_mask [false, true, false, true, true, false, true] (mkT 90 [(1, .pt 0 0 0 0 0), (3, .sl 1 0 1 0 4), (4, .v (.int .i64 h)), (6, .v (.int .i64 (0 : Nat)))]) rfl ?_
    conv => whnf
    refine wk_mask [false, true, false, true, true, false, true, true] (mkT 90 [(1, .pt 0 0 0 0 0), (3, .sl 1 0 1 0 4), (4, .v (.int .i64 h)), (6, .v (.int .i64 (0 : Nat))), (7, .v (.int .i64 (0 : Nat)))]) rfl ?_
    refine to_row_3_0 E d h hh (by omega) hd _ (2 ^ h + 1) 0 (n + 287) (fun _ => 0) (by omega) (by omega) rfl fun j => ?_
    conv => whnf
    refine wk_mask [false, true, false, true, true, false, true] (mkT 90 [(1, .pt 0 0 0 0 0), (3, .sl 1 0 1 0 4), (4, .v (.int .i64 h)), (6, .v (.int .i64 (1 : Nat)))]) rfl ?_
    conv => whnf
    refine wk_mask [false, true, false, true, true, false, true, true] (mkT 90 [(1, .pt 0 0 0 0 0), (3, .sl 1 0 1 0 4), (4, .v (.int .i64 h)), (6, .v (.int .i64 (1 : Nat))), (7, .v (.int .i64 (0 : Nat)))]) rfl ?_
    refine to_row_3_1 E d h hh (by omega) hd _ (2 ^ h + 1) 0 (n + 286) (fun s => if s = 0 then 2 ^ h + 1 else (fun _ => 0) s) (by omega) (by omega) rfl fun j => ?_
    conv => whnf
    refine wk_mask [false, true, false, true, true, false, true] (mkT 90 [(1, .pt 0 0 0 0 0), (3, .sl 1 0 1 0 4), (4, .v (.int .i64 h)), (6, .v (.int .i64 (2 : Nat)))]) rfl ?_
    conv => whnf
    refine wk_mask [false, true, false, true, true, false, true, true] (mkT 90 [(1, .pt 0 0 0 0 0), (3, .sl 1 0 1 0 4), (4, .v (.int .i64 h)), (6, .v (.int .i64 (2 : Nat))), (7, .v (.int .i64 (0 : Nat)))]) rfl ?_
    refine to_row_3_2 E d h hh (by omega) hd _ (2 ^ h + 1) 0 (n + 285) (fun s => if s = 1 then 2 ^ h + 1 else (fun s => if s = 0 then 2 ^ h + 1 else (fun _ => 0) s) s) (by omega) (by omega) rfl fun j => ?_
    conv => whnf
    refine wk_mask [false, true, false, true, true, false, true] (mkT 90 [(1, .pt 0 0 0 0 0), (3, .sl 1 0 1 0 4), (4, .v (.int .i64 h)), (6, .v (.int .i64 (3 : Nat)))]) rfl ?_
    conv => whnf
    refine wk_mask [false, true, false, true, true, false, true, true] (mkT 90 [(1, .pt 0 0 0 0 0), (3, .sl 1 0 1 0 4), (4, .v (.int .i64 h)), (6, .v (.int .i64 (3 : Nat))), (7, .v (.int .i64 (0 : Nat)))]) rfl ?_
    refine to_row_3_3 E d h hh (by omega) hd _ (2 ^ h + 1) 0 (n + 284) (fun s => if s = 2 then 2 ^ h + 1 else (fun s => if s = 1 then 2 ^ h + 1 else (fun s => if s = 0 then 2 ^ h + 1 else (fun _ => 0) s) s) s) (by omega) (by omega) rfl fun j => ?_
    rw [show toHf3 d h _ = toHm3 d h from by simp [toHf3, toHm3, fillL_all, lvl_length]]
    conv => whnf
    refine wk_none ?_
    conv => whnf
    rw [eh]
    refine wk_then (ts1 := (mkT 90 [(1, .pt 0 0 0 0 0), (3, .sl 1 0 1 0 4), (4, .v (.int .i64 (h + 1 : Nat)))])) (hp1 := toHm3 d h) (lp1 := []) (Wk.mask [false, true, false, true, true]) ?_
    exact to_end_3 d h _ next
end Go.YtoeophdffhmpmaaE
end

section
set_option linter.unusedVariables false
set_option linter.unusedSimpArgs false
set_option maxRecDepth 100000
set_option maxHeartbeats 4000000
namespace Go.YtoeophdffhmpmaaE
open Go Go.RowKit

theorem to_first_1 (d : Nat) (hd : d ≤ 6) (Kf : A → List Blk → Prop)
    (hKf : Kf (A.sl 1 0 1 0 1) (toHp1 d (d + 1)))
    (hL : ∀ K : K, (∀ ts j, ts = mkJ 90 [(1, .pt 0 0 0 0 0), (3, .sl 1 0 1 0 1)] j → K (.exit 0) ts (toHp1 d (d + 1)) []) → loopF (run Go.Proofs.Try.prog (fun _ => none) (envL Go.Proofs.Try.prog toEnv) 593) 0 0 (loopB Go.Proofs.Try.prog 42 0) (mkT 90 [(1, .pt 0 0 0 0 0), (3, .sl 1 0 1 0 1), (4, .v (.int .i64 1))]) (toHp1 d 1) [] K) :
    fnK Go.Proofs.Try.prog (fun _ => none) (envL Go.Proofs.Try.prog toEnv) 42 600 [scheme 1 d 0 0 0 0] Kf := by
  conv => whnf
  refine ⟨_, (show Pure _ _ _ ⟨.v (.int .i64 ((1 : Nat) : Int)), []⟩ from states_pure 1 (by decide)), ?_⟩
  conv => whnf
  refine ⟨⟨by decide, by decide, by show ((1 : Nat) : Int) * ((24 : Nat) : Int) ≤ 70368744177664; decide⟩, ?_⟩
  conv => whnf
  refine wk_none ?_
  conv => whnf
  refine wk_none ?_
  conv => whnf
  refine Or.inl ⟨12, by kernel_rfl, ?_⟩
  conv => whnf
  refine ⟨⟨by decide, by decide⟩, ?_⟩
  conv => whnf
  refine ⟨by decide, ?_⟩
  conv => whnf
  rw [show (IntKind.i64.wrap (1 + IntKind.i64.wrap (1 * 2 ^ min (IntKind.u64.wrap 0).toNat IntKind.i64.bits))) = ((2 : Nat) : Int) from by decide]
  refine ⟨⟨by decide, by decide, by decide⟩, ?_⟩
  conv => whnf
  refine ⟨by decide, ?_⟩
  conv => whnf
  refine ⟨Nat.le_refl 1, ?_⟩
  conv => whnf
  refine ⟨fun h => (by cases h), fun _ => ⟨⟨by decide, by simp [cellsOf]⟩, ?_⟩⟩
  conv => whnf
  refine ⟨⟨by decide, by decide⟩, ?_⟩
  conv => whnf
  refine wk_none ?_
  conv => whnf
  refine wk_none ?_
  conv => whnf
  refine wk_none ?_
  conv => whnf
  refine ⟨by decide, ?_⟩
  conv => whnf
  refine Or.inl ⟨14, by kernel_rfl, ?_⟩
  conv => whnf
  refine ⟨⟨by decide, by decide⟩, ?_⟩
  conv => whnf
  refine ⟨⟨by decide, by decide⟩, ?_⟩
  conv => whnf
  refine ⟨_, start_pure 1 0 0 (by decide) (by decide) (by decide), ?_⟩
  conv => whnf
  refine ⟨⟨by decide, by decide⟩, ?_⟩
  conv => whnf
  refine wk_none ?_
  conv => whnf
  refine ⟨by decide, ?_⟩
  conv => whnf
  refine Or.inl ⟨14, by kernel_rfl, ?_⟩
  conv => whnf
  refine ⟨⟨by decide, by decide⟩, ?_⟩
  conv => whnf
  refine ⟨⟨by decide, by decide⟩, ?_⟩
  conv => whnf
  refine ⟨_, start_pure 1 0 1 (by decide) (by decide) (by decide), ?_⟩
  conv => whnf
  refine ⟨⟨by decide, by decide⟩, ?_⟩
  conv => whnf
  refine wk_none ?_
  conv => whnf
  refine ⟨by decide, ?_⟩
  conv => whnf
  refine wk_none ?_
  conv => whnf
  refine wk_then (ts1 := (mkT 90 [(1, .pt 0 0 0 0 0), (3, .sl 1 0 1 0 1), (4, .v (.int .i64 1))])) (hp1 := toHz1 d) (lp1 := []) (.gc (some ⟨[false, true, false, true, true], [0,1,2,4], 0⟩) ?_) ?_
  · exact ⟨rfl, rfl, rfl⟩
  refine to_endz_1 d 1 ?_
  refine hL _ fun ts j e => ?_
  subst e
  conv => whnf
  exact hKf
theorem TablesOf_1 (d : Nat) (hd : d ≤ 6) : Pure Go.Proofs.Try.prog 42 [scheme 1 d 0 0 0 0] ⟨.ro (nest3 (TZ 1 d)), []⟩ := by
  refine pure_sz pf eqOk_none (env_ok [79, 80, 81] rfl) fun _ => ⟨600, ?_⟩
  refine to_first_1 d hd _ ?_ fun Kq hKq => to_loop_1 _ d hd Kq d 1 593 (by omega) (by omega) (by omega) fun j => hKq _ j rfl
  conv => whnf
  left
  conv => whnf
  refine ⟨Nat.le_refl _, Or.inl ?_⟩
  conv => whnf
  refine ⟨by rw [nest2_length, rowsZ_length]; omega, ?_⟩
  conv => whnf
  have e : ∀ s, List.take (d + 1) (List.drop 0 (nest2 (rowsZ 1 d s (d + 1)))) = nest2 (rowsZ 1 d s (d + 1)) := fun s => by
    rw [List.drop_zero, List.take_of_length_le (by rw [nest2_length, rowsZ_length]; exact Nat.le_refl _)]
  simp only [e]
  rfl
theorem to_first_2 (d : Nat) (hd : d ≤ 6) (Kf : A → List Blk → Prop)
    (hKf : Kf (A.sl 1 0 1 0 2) (toHp2 d (d + 1)))
    (hL : ∀ K : K, (∀ ts j, ts = mkJ 90 [(1, .pt 0 0 0 0 0), (3, .sl 1 0 1 0 2)] j → K (.exit 0) ts (toHp2 d (d + 1)) []) → loopF (run Go.Proofs.Try.prog (fun _ => none) (envL Go.Proofs.Try.prog toEnv) 593) 0 0 (loopB Go.Proofs.Try.prog 42 0) (mkT 90 [(1, .pt 0 0 0 0 0), (3, .sl 1 0 1 0 2), (4, .v (.int .i64 1))]) (toHp2 d 1) [] K) :
    fnK Go.Proofs.Try.prog (fun _ => none) (envL Go.Proofs.Try.prog toEnv) 42 600 [scheme 2 d 0 0 0 0] Kf := by
  conv => whnf
  refine ⟨_, (show Pure _ _ _ ⟨.v (.int .i64 ((2 : Nat) : Int)), []⟩ from states_pure 2 (by decide)), ?_⟩
  conv => whnf
  refine ⟨⟨by decide, by decide, by show ((2 : Nat) : Int) * ((24 : Nat) : Int) ≤ 70368744177664; decide⟩, ?_⟩
  conv => whnf
  refine wk_none ?_
  conv => whnf
  refine wk_none ?_
  conv => whnf
  refine Or.inl ⟨12, by kernel_rfl, ?_⟩
  conv => whnf
  refine ⟨⟨by decide, by decide⟩, ?_⟩
  conv => whnf
  refine ⟨by decide, ?_⟩
  conv => whnf
  rw [show (IntKind.i64.wrap (1 + IntKind.i64.wrap (1 * 2 ^ min (IntKind.u64.wrap 0).toNat IntKind.i64.bits))) = ((2 : Nat) : Int) from by decide]
  refine ⟨⟨by decide, by decide, by decide⟩, ?_⟩
  conv => whnf
  refine ⟨by decide, ?_⟩
  conv => whnf
  refine ⟨Nat.le_refl 1, ?_⟩
  conv => whnf
  refine ⟨fun h => (by cases h), fun _ => ⟨⟨by decide, by simp [cellsOf]⟩, ?_⟩⟩
  conv => whnf
  refine ⟨⟨by decide, by decide⟩, ?_⟩
  conv => whnf
  refine wk_none ?_
  conv => whnf
  refine Or.inl ⟨12, by kernel_rfl, ?_⟩
  conv => whnf
  refine ⟨⟨by decide, by decide⟩, ?_⟩
  conv => whnf
  refine ⟨by decide, ?_⟩
  conv => whnf
  rw [show (IntKind.i64.wrap (1 + IntKind.i64.wrap (1 * 2 ^ min (IntKind.u64.wrap 0).toNat IntKind.i64.bits))) = ((2 : Nat) : Int) from by decide]
  refine ⟨⟨by decide, by decide, by decide⟩, ?_⟩
  conv => whnf
  refine ⟨by decide, ?_⟩
  conv => whnf
  refine ⟨Nat.le_refl 1, ?_⟩
  conv => whnf
  refine ⟨fun h => (by cases h), fun _ => ⟨⟨by decide, by simp [cellsOf]⟩, ?_⟩⟩
  conv => whnf
  refine ⟨⟨by decide, by decide⟩, ?_⟩
  conv => whnf
  refine wk_none ?_
  conv => whnf
  refine wk_none ?_
  conv => whnf
  refine wk_none ?_
  conv => whnf
  refine ⟨by decide, ?_⟩
  conv => whnf
  refine Or.inl ⟨14, by kernel_rfl, ?_⟩
  conv => whnf
  refine ⟨⟨by decide, by decide⟩, ?_⟩
  conv => whnf
  refine ⟨⟨by decide, by decide⟩, ?_⟩
  conv => whnf
  refine ⟨_, start_pure 2 0 0 (by decide) (by decide) (by decide), ?_⟩
  conv => whnf
  refine ⟨⟨by decide, by decide⟩, ?_⟩
  conv => whnf
  refine wk_none ?_
  conv => whnf
  refine ⟨by decide, ?_⟩
  conv => whnf
  refine Or.inl ⟨14, by kernel_rfl, ?_⟩
  conv => whnf
  refine ⟨⟨by decide, by decide⟩, ?_⟩
  conv => whnf
  refine ⟨⟨by decide, by decide⟩, ?_⟩
  conv => whnf
  refine ⟨_, start_pure 2 0 1 (by decide) (by decide) (by decide), ?_⟩
  conv => whnf
  refine ⟨⟨by decide, by decide⟩, ?_⟩
  conv => whnf
  refine wk_none ?_
  conv => whnf
  refine ⟨by decide, ?_⟩
  conv => whnf
  refine wk_none ?_
  conv => whnf
  refine wk_none ?_
  conv => whnf
  refine ⟨by decide, ?_⟩
  conv => whnf
  refine Or.inl ⟨14, by kernel_rfl, ?_⟩
  conv => whnf
  refine ⟨⟨by decide, by decide⟩, ?_⟩
  conv => whnf
  refine ⟨⟨by decide, by decide⟩, ?_⟩
  conv => whnf
  refine ⟨_, start_pure 2 1 0 (by decide) (by decide) (by decide), ?_⟩
  conv => whnf
  refine ⟨⟨by decide, by decide⟩, ?_⟩
  conv => whnf
  refine wk_none ?_
  conv => whnf
  refine ⟨by decide, ?_⟩
  conv => whnf
  refine Or.inl ⟨14, by kernel_rfl, ?_⟩
  conv => whnf
  refine ⟨⟨by decide, by decide⟩, ?_⟩
  conv => whnf
  refine ⟨⟨by decide, by decide⟩, ?_⟩
  conv => whnf
  refine ⟨_, start_pure 2 1 1 (by decide) (by decide) (by decide), ?_⟩
  conv => whnf
  refine ⟨⟨by decide, by decide⟩, ?_⟩
  conv => whnf
  refine wk_none ?_
  conv => whnf
  refine ⟨by decide, ?_⟩
  conv => whnf
  refine wk_none ?_
  conv => whnf
  refine wk_then (ts1 := (mkT 90 [(1, .pt 0 0 0 0 0), (3, .sl 1 0 1 0 2), (4, .v (.int .i64 1))])) (hp1 := toHz2 d) (lp1 := []) (.gc (some ⟨[false, true, false, true, true], [0,1,2,4,5,7], 0⟩) ?_) ?_
  · exact ⟨rfl, rfl, rfl⟩
  refine to_endz_2 d 1 ?_
  refine hL _ fun ts j e => ?_
  subst e
  conv => whnf
  exact hKf
theorem TablesOf_2 (d : Nat) (hd : d ≤ 6) : Pure Go.Proofs.Try.prog 42 [scheme 2 d 0 0 0 0] ⟨.ro (nest3 (TZ 2 d)), []⟩ := by
  refine pure_sz pf eqOk_none (env_ok [79, 80, 81] rfl) fun _ => ⟨600, ?_⟩
  refine to_first_2 d hd _ ?_ fun Kq hKq => to_loop_2 _ d hd Kq d 1 593 (by omega) (by omega) (by omega) fun j => hKq _ j rfl
  conv => whnf
  left
  conv => whnf
  refine ⟨Nat.le_refl _, Or.inl ?_⟩
  conv => whnf
  refine ⟨by rw [nest2_length, rowsZ_length]; omega, ?_⟩
  conv => whnf
  refine ⟨by rw [nest2_length, rowsZ_length]; omega, ?_⟩
  conv => whnf
  have e : ∀ s, List.take (d + 1) (List.drop 0 (nest2 (rowsZ 2 d s (d + 1)))) = nest2 (rowsZ 2 d s (d + 1)) := fun s => by
    rw [List.drop_zero, List.take_of_length_le (by rw [nest2_length, rowsZ_length]; exact Nat.le_refl _)]
  simp only [e]
  rfl
theorem to_first_3 (d : Nat) (hd : d ≤ 6) (Kf : A → List Blk → Prop)
    (hKf : Kf (A.sl 1 0 1 0 4) (toHp3 d (d + 1)))
    (hL : ∀ K : K, (∀ ts j, ts = mkJ 90 [(1, .pt 0 0 0 0 0), (3, .sl 1 0 1 0 4)] j → K (.exit 0) ts (toHp3 d (d + 1)) []) → loopF (run Go.Proofs.Try.prog (fun _ => none) (envL Go.Proofs.Try.prog toEnv) 593) 0 0 (loopB Go.Proofs.Try.prog 42 0) (mkT 90 [(1, .pt 0 0 0 0 0), (3, .sl 1 0 1 0 4), (4, .v (.int .i64 1))]) (toHp3 d 1) [] K) :
    fnK Go.Proofs.Try.prog (fun _ => none) (envL Go.Proofs.Try.prog toEnv) 42 600 [scheme 3 d 0 0 0 0] Kf := by
  conv => whnf
  refine ⟨_, (show Pure _ _ _ ⟨.v (.int .i64 ((4 : Nat) : Int)), []⟩ from states_pure 3 (by decide)), ?_⟩
  conv => whnf
  refine ⟨⟨by decide, by decide, by show ((4 : Nat) : Int) * ((24 : Nat) : Int) ≤ 70368744177664; decide⟩, ?_⟩
  conv => whnf
  refine wk_none ?_
  conv => whnf
  refine wk_none ?_
  conv => whnf
  refine Or.inl ⟨12, by kernel_rfl, ?_⟩
  conv => whnf
  refine ⟨⟨by decide, by decide⟩, ?_⟩
  conv => whnf
  refine ⟨by decide, ?_⟩
  conv => whnf
  rw [show (IntKind.i64.wrap (1 + IntKind.i64.wrap (1 * 2 ^ min (IntKind.u64.wrap 0).toNat IntKind.i64.bits))) = ((2 : Nat) : Int) from by decide]
  refine ⟨⟨by decide, by decide, by decide⟩, ?_⟩
  conv => whnf
  refine ⟨by decide, ?_⟩
  conv => whnf
  refine ⟨Nat.le_refl 1, ?_⟩
  conv => whnf
  refine ⟨fun h => (by cases h), fun _ => ⟨⟨by decide, by simp [cellsOf]⟩, ?_⟩⟩
  conv => whnf
  refine ⟨⟨by decide, by decide⟩, ?_⟩
  conv => whnf
  refine wk_none ?_
  conv => whnf
  refine Or.inl ⟨12, by kernel_rfl, ?_⟩
  conv => whnf
  refine ⟨⟨by decide, by decide⟩, ?_⟩
  conv => whnf
  refine ⟨by decide, ?_⟩
  conv => whnf
  rw [show (IntKind.i64.wrap (1 + IntKind.i64.wrap (1 * 2 ^ min (IntKind.u64.wrap 0).toNat IntKind.i64.bits))) = ((2 : Nat) : Int) from by decide]
  refine ⟨⟨by decide, by decide, by decide⟩, ?_⟩
  conv => whnf
  refine ⟨by decide, ?_⟩
  conv => whnf
  refine ⟨Nat.le_refl 1, ?_⟩
  conv => whnf
  refine ⟨fun h => (by cases h), fun _ => ⟨⟨by decide, by simp [cellsOf]⟩, ?_⟩⟩
  conv => whnf
  refine ⟨⟨by decide, by decide⟩, ?_⟩
  conv => whnf
  refine wk_none ?_
  conv => whnf
  refine Or.inl ⟨12, by kernel_rfl, ?_⟩
  conv => whnf
  refine ⟨⟨by decide, by decide⟩, ?_⟩
  conv => whnf
  refine ⟨by decide, ?_⟩
  conv => whnf
  rw [show (IntKind.i64.wrap (1 + IntKind.i64.wrap (1 * 2 ^ min (IntKind.u64.wrap 0).toNat IntKind.i64.bits))) = ((2 : Nat) : Int) from by decide]
  refine ⟨⟨by decide, by decide, by decide⟩, ?_⟩
  conv => whnf
  refine ⟨by decide, ?_⟩
  conv => whnf
  refine ⟨Nat.le_refl 1, ?_⟩
  conv => whnf
  refine ⟨fun h => (by cases h), fun _ => ⟨⟨by decide, by simp [cellsOf]⟩, ?_⟩⟩
  conv => whnf
  refine ⟨⟨by decide, by decide⟩, ?_⟩
  conv => whnf
  refine wk_none ?_
  conv => whnf
  refine Or.inl ⟨12, by kernel_rfl, ?_⟩
  conv => whnf
  refine ⟨⟨by decide, by decide⟩, ?_⟩
  conv => whnf
  refine ⟨by decide, ?_⟩
  conv => whnf
  rw [show (IntKind.i64.wrap (1 + IntKind.i64.wrap (1 * 2 ^ min (IntKind.u64.wrap 0).toNat IntKind.i64.bits))) = ((2 : Nat) : Int) from by decide]
  refine ⟨⟨by decide, by decide, by decide⟩, ?_⟩
  conv => whnf
  refine ⟨by decide, ?_⟩
  conv => whnf
  refine ⟨Nat.le_refl 1, ?_⟩
  conv => whnf
  refine ⟨fun h => (by cases h), fun _ => ⟨⟨by decide, by simp [cellsOf]⟩, ?_⟩⟩
  conv => whnf
  refine ⟨⟨by decide, by decide⟩, ?_⟩
  conv => whnf
  refine wk_none ?_
  conv => whnf
  refine wk_none ?_
  conv => whnf
  refine wk_none ?_
  conv => whnf
  refine ⟨by decide, ?_⟩
  conv => whnf
  refine Or.inl ⟨14, by kernel_rfl, ?_⟩
  conv => whnf
  refine ⟨⟨by decide, by decide⟩, ?_⟩
  conv => whnf
  refine ⟨⟨by decide, by decide⟩, ?_⟩
  conv => whnf
  refine ⟨_, start_pure 3 0 0 (by decide) (by decide) (by decide), ?_⟩
  conv => whnf
  refine ⟨⟨by decide, by decide⟩, ?_⟩
  conv => whnf
  refine wk_none ?_
  conv => whnf
  refine ⟨by decide, ?_⟩
  conv => whnf
  refine Or.inl ⟨14, by kernel_rfl, ?_⟩
  conv => whnf
  refine ⟨⟨by decide, by decide⟩, ?_⟩
  conv => whnf
  refine ⟨⟨by decide, by decide⟩, ?_⟩
  conv => whnf
  refine ⟨_, start_pure 3 0 1 (by decide) (by decide) (by decide), ?_⟩
  conv => whnf
  refine ⟨⟨by decide, by decide⟩, ?_⟩
  conv => whnf
  refine wk_none ?_
  conv => whnf
  refine ⟨by decide, ?_⟩
  conv => whnf
  refine wk_none ?_
  conv => whnf
  refine wk_none ?_
  conv => whnf
  refine ⟨by decide, ?_⟩
  conv => whnf
  refine Or.inl ⟨14, by kernel_rfl, ?_⟩
  conv => whnf
  refine ⟨⟨by decide, by decide⟩, ?_⟩
  conv => whnf
  refine ⟨⟨by decide, by decide⟩, ?_⟩
  conv => whnf
  refine ⟨_, start_pure 3 1 0 (by decide) (by decide) (by decide), ?_⟩
  conv => whnf
  refine ⟨⟨by decide, by decide⟩, ?_⟩
  conv => whnf
  refine wk_none ?_
  conv => whnf
  refine ⟨by decide, ?_⟩
  conv => whnf
  refine Or.inl ⟨14, by kernel_rfl, ?_⟩
  conv => whnf
  refine ⟨⟨by decide, by decide⟩, ?_⟩
  conv => whnf
  refine ⟨⟨by decide, by decide⟩, ?_⟩
  conv => whnf
  refine ⟨_, start_pure 3 1 1 (by decide) (by decide) (by decide), ?_⟩
  conv => whnf
  refine ⟨⟨by decide, by decide⟩, ?_⟩
  conv => whnf
  refine wk_none ?_
  conv => whnf
  refine ⟨by decide, ?_⟩
  conv => whnf
  refine wk_none ?_
  conv => whnf
  refine wk_none ?_
  conv => whnf
  refine ⟨by decide, ?_⟩
  conv => whnf
  refine Or.inl ⟨14, by kernel_rfl, ?_⟩
  conv => whnf
  refine ⟨⟨by decide, by decide⟩, ?_⟩
  conv => whnf
  refine ⟨⟨by decide, by decide⟩, ?_⟩
  conv => whnf
  refine ⟨_, start_pure 3 2 0 (by decide) (by decide) (by decide), ?_⟩
  conv => whnf
  refine ⟨⟨by decide, by decide⟩, ?_⟩
  conv => whnf
  refine wk_none ?_
  conv => whnf
  refine ⟨by decide, ?_⟩
  conv => whnf
  refine Or.inl ⟨14, by kernel_rfl, ?_⟩
  conv => whnf
  refine ⟨⟨by decide, by decide⟩, ?_⟩
  conv => whnf
  refine ⟨⟨by decide, by decide⟩, ?_⟩
  conv => whnf
  refine ⟨_, start_pure 3 2 1 (by decide) (by decide) (by decide), ?_⟩
  conv => whnf
  refine ⟨⟨by decide, by decide⟩, ?_⟩
  conv => whnf
  refine wk_none ?_
  conv => whnf
  refine ⟨by decide, ?_⟩
  conv => whnf
  refine wk_none ?_
  conv => whnf
  refine wk_none ?_
  conv => whnf
  refine ⟨by decide, ?_⟩
  conv => whnf
  refine Or.inl ⟨14, by kernel_rfl, ?_⟩
  conv => whnf
  refine ⟨⟨by decide, by decide⟩, ?_⟩
  conv => whnf
  refine ⟨⟨by decide, by decide⟩, ?_⟩
  conv => whnf
  refine ⟨_, start_pure 3 3 0 (by decide) (by decide) (by decide), ?_⟩
  conv => whnf
  refine ⟨⟨by decide, by decide⟩, ?_⟩
  conv => whnf
  refine wk_none ?_
  conv => whnf
  refine ⟨by decide, ?_⟩
  conv => whnf
  refine Or.inl ⟨14, by kernel_rfl, ?_⟩
  conv => whnf
  refine ⟨⟨by decide, by decide⟩, ?_⟩
  conv => whnf
  refine ⟨⟨by decide, by decide⟩, ?_⟩
  conv => whnf
  refine ⟨_, start_pure 3 3 1 (by decide) (by decide) (by decide), ?_⟩
  conv => whnf
  refine ⟨⟨by decide, by decide⟩, ?_⟩
  conv => whnf
  refine wk_none ?_
  conv => whnf
  refine ⟨by decide, ?_⟩
  conv => whnf
  refine wk_none ?_
  conv => whnf
  refine wk_then (ts1 := (mkT 90 [(1, .pt 0 0 0 0 0), (3, .sl 1 0 1 0 4), (4, .v (.int .i64 1))])) (hp1 := toHz3 d) (lp1 := []) (.gc (some ⟨[false, true, false, true, true], [0,1,2,4,5,7,8,10,11,13], 0⟩) ?_) ?_
  · exact ⟨rfl, rfl, rfl⟩
  refine to_endz_3 d 1 ?_
  refine hL _ fun ts j e => ?_
  subst e
  conv => whnf
  exact hKf
theorem TablesOf_3 (d : Nat) (hd : d ≤ 6) : Pure Go.Proofs.Try.prog 42 [scheme 3 d 0 0 0 0] ⟨.ro (nest3 (TZ 3 d)), []⟩ := by
  refine pure_sz pf eqOk_none (env_ok [79, 80, 81] rfl) fun _ => ⟨600, ?_⟩
  refine to_first_3 d hd _ ?_ fun Kq hKq => to_loop_3 _ d hd Kq d 1 593 (by omega) (by omega) (by omega) fun j => hKq _ j rfl
  conv => whnf
  left
  conv => whnf
  refine ⟨Nat.le_refl _, Or.inl ?_⟩
  conv => whnf
  refine ⟨by rw [nest2_length, rowsZ_length]; omega, ?_⟩
  conv => whnf
  refine ⟨by rw [nest2_length, rowsZ_length]; omega, ?_⟩
  conv => whnf
  refine ⟨by rw [nest2_length, rowsZ_length]; omega, ?_⟩
  conv => whnf
  refine ⟨by rw [nest2_length, rowsZ_length]; omega, ?_⟩
  conv => whnf
  have e : ∀ s, List.take (d + 1) (List.drop 0 (nest2 (rowsZ 3 d s (d + 1)))) = nest2 (rowsZ 3 d s (d + 1)) := fun s => by
    rw [List.drop_zero, List.take_of_length_le (by rw [nest2_length, rowsZ_length]; exact Nat.le_refl _)]
  simp only [e]
  rfl
theorem TablesOf_pure (kind d : Nat) (h1 : 1 ≤ kind) (h3 : kind ≤ 3) (hd : d ≤ 6) : Pure Go.Proofs.Try.prog 42 [scheme kind d 0 0 0 0] ⟨.ro (nest3 (TZ kind d)), []⟩ := by
  have : kind = 1 ∨ kind = 2 ∨ kind = 3 := by omega
  rcases this with rfl | rfl | rfl
  · exact TablesOf_1 d hd
  · exact TablesOf_2 d hd
  · exact TablesOf_3 d hd
end Go.YtoeophdffhmpmaaE
end

section
set_option linter.unusedVariables false
set_option linter.unusedSimpArgs false
set_option maxRecDepth 100000
set_option maxHeartbeats 1000000
namespace Go.YtoeophdffhmpmaaE
open Go Go.RowKit

theorem asked3_pure (kind : Nat) (depth degree p q g r : Int) :
    Pure Go.Proofs.Try.prog 40 [scheme kind depth degree p q g, .v (.int .i64 r)] ⟨.v (.int .i64 (wE kind depth degree p q g r)), []⟩ := by
  refine pure_sz pf eqOk_none (env_ok [49, 77] rfl) fun _ => ⟨60, ?_⟩
  cases hv : validB kind depth degree p q g with
  | false =>
    have e1 : wE kind depth degree p q g r = 30 := by simp [wE, hv]
    rw [e1]
    conv => whnf
    refine ⟨_, check3_pure kind depth degree p q g, ?_⟩
    rw [hv]
    conv => whnf
    left
    conv => whnf
    try rfl
  | true =>
    have hv2 := hv
    simp only [validB, decide_eq_true_eq] at hv
    obtain ⟨h1, h2, h3, h4, rfl, rfl, rfl, rfl⟩ := hv
    obtain ⟨d, rfl⟩ : ∃ d : Nat, depth = d := ⟨depth.toNat, by omega⟩
    conv => whnf
    refine ⟨_, check3_pure kind d 0 0 0 0, ?_⟩
    rw [hv2]
    conv => whnf
    refine cndK_intro (fun h => ?_) (fun h => ?_)
    · have hr : r < 0 ∨ r > ((2 ^ d : Nat) : Int) := by simp only [decide_eq_true_eq] at h; omega
      have e1 : wE kind d 0 0 0 0 r = 2 := by unfold wE; rw [if_pos hv2, Int.toNat_natCast, if_pos hr]
      rw [h, e1]
      conv => whnf
      left
      conv => whnf
      try rfl
    · rw [h]
      conv => whnf
      refine ⟨_, receivers_pure d (by omega), ?_⟩
      conv => whnf
      refine cndK_intro (fun h2 => ?_) (fun h2 => ?_)
      · have hr : r < 0 ∨ r > ((2 ^ d : Nat) : Int) := by simp only [decide_eq_true_eq] at h2; omega
        have e1 : wE kind d 0 0 0 0 r = 2 := by unfold wE; rw [if_pos hv2, Int.toNat_natCast, if_pos hr]
        rw [e1]
        conv => whnf
        left
        conv => whnf
        try rfl
      · have hr : ¬ (r < 0 ∨ r > ((2 ^ d : Nat) : Int)) := by simp only [decide_eq_false_iff_not] at h h2; omega
        have e1 : wE kind d 0 0 0 0 r = 0 := by unfold wE; rw [if_pos hv2, Int.toNat_natCast, if_neg hr]
        rw [e1]
        conv => whnf
        left
        conv => whnf
        try rfl
theorem statesN_pos (kind : Nat) : 0 < statesN kind := by unfold statesN; split <;> decide
theorem TZ_at (kind d s g : Nat) (hs : s < statesN kind) (hg : g ≤ d) : RowAt (TZ kind d) s g (lvl kind d g s) := by
  refine ⟨rowsZ kind d s (d + 1), by simp [TZ, hs], ?_⟩
  simp [rowsZ, show g < d + 1 by omega]
theorem greatest_worst (kind d r : Nat) : gr (fun k => if k = 0 then 1 else (lvl kind d d 0).getD k 0) (r + 1) 0 0 0 true = worstZ (fullR kind d) d r := by
  unfold worstZ
  congr 1
  funext k
  unfold countZ
  rw [fullR_row kind d 0 d (statesN_pos kind) (Nat.le_refl _)]
theorem greatestT_pure (kind d r : Nat) (hd : d ≤ 6) (hr : r ≤ 2 ^ d) :
    Pure Go.Proofs.Try.prog 41 [scheme kind d 0 0 0 0, .ro (nest3 (TZ kind d)), .v (.int .i64 r)]
      ⟨.tup [.v (.int .i64 (worstZ (fullR kind d) d r).1), .v (.int .i64 (worstZ (fullR kind d) d r).2.1)], []⟩ := by
  have := greatest3_pure kind d r (TZ kind d) (lvl kind d d 0) hd (TZ_at kind d 0 d (statesN_pos kind) (Nat.le_refl _)) (lvl_length ..) hr
  rw [greatest_worst] at this
  exact this
theorem Worst3_pure (kind : Nat) (depth degree p q g r : Int) :
    Pure Go.Proofs.Try.prog 15 [scheme kind depth degree p q g, .v (.int .i64 r)] ⟨.tup [.v (.int .i64 (wN kind depth degree p q g r)), .v (.int .i64 (wE kind depth degree p q g r))], []⟩ := by
  refine pure_sz pf eqOk_none (env_ok [40, 42, 41] rfl) fun _ => ⟨60, ?_⟩
  by_cases he : wE kind depth degree p q g r = 0
  · have hv : validB kind depth degree p q g = true := by
      cases hv : validB kind depth degree p q g with
      | true => rfl
      | false => simp [wE, hv] at he
    have hv2 := hv
    simp only [validB, decide_eq_true_eq] at hv
    obtain ⟨h1, h2, h3, h4, rfl, rfl, rfl, rfl⟩ := hv
    obtain ⟨d, rfl⟩ : ∃ d : Nat, depth = d := ⟨depth.toNat, by omega⟩
    have hr : ¬ (r < 0 ∨ r > ((2 ^ d : Nat) : Int)) := fun hr => by unfold wE at he; rw [if_pos hv2, Int.toNat_natCast, if_pos hr] at he; cases he
    obtain ⟨k, rfl⟩ : ∃ k : Nat, r = k := ⟨r.toNat, by omega⟩
    have e2 : wN kind d 0 0 0 0 k = (worstZ (fullR kind d) d k).1 := by unfold wN; rw [if_pos he, Int.toNat_natCast, Int.toNat_natCast]
    rw [e2]
    conv => whnf
    refine ⟨_, asked3_pure kind d 0 0 0 0 k, ?_⟩
    rw [he]
    conv => whnf
    refine Or.inl ⟨10, by kernel_rfl, ?_⟩
    conv => whnf
    refine ⟨_, TablesOf_pure kind d h1 h2 (by omega), ?_⟩
    conv => whnf
    refine ⟨_, greatestT_pure kind d k (by omega) (by omega), ?_⟩
    conv => whnf
    left
    conv => whnf
    try rfl
  · have e2 : wN kind depth degree p q g r = 0 := by unfold wN; rw [if_neg he]
    rw [e2]
    conv => whnf
    refine ⟨_, asked3_pure kind depth degree p q g r, ?_⟩
    conv => whnf
    rw [show (wE kind depth degree p q g r != 0) = true by simpa using he]
    conv => whnf
    left
    conv => whnf
    try rfl
theorem WitnessOf_pure (kind d k : Nat) (h1 : 1 ≤ kind) (h2 : kind ≤ 3) (hd : d ≤ 6) (hr : k ≤ 2 ^ d) :
    Pure Go.Proofs.Try.prog 44 [scheme kind d 0 0 0 0, .v (.int .i64 k)] ⟨.ro (ints (listZ kind d d 1 0 (worstZ (fullR kind d) d k).2.1)), []⟩ := by
  refine pure_sz pf eqOk_none (env_ok [42, 41, 84] rfl) fun _ => ⟨60, ?_⟩
  have hat := worstZ_at (fullR kind d) d k
  have hl := listed3_pure kind d (TZ kind d) h1 h2 hd (fun g hg s hs => TZ_at kind d s g hs hg) d 1 0 (worstZ (fullR kind d) d k).2.1 (Nat.le_refl _) (by
    match d, hd with
    | 0, _ | 1, _ | 2, _ | 3, _ | 4, _ | 5, _ | 6, _ => decide) (by decide) (fun _ => by omega) (by omega)
  conv => whnf
  refine ⟨_, TablesOf_pure kind d h1 h2 hd, ?_⟩
  conv => whnf
  refine ⟨_, greatestT_pure kind d k hd hr, ?_⟩
  conv => whnf
  refine ⟨_, hl, ?_⟩
  generalize listZ kind d d 1 0 (worstZ (fullR kind d) d k).2.1 = L
  by_cases hL : L = []
  · subst hL
    rw [lRes_nil]
    conv => whnf
    left
    conv => whnf
    refine Or.inl ?_
    conv => whnf
    try rfl
  · rw [lRes_ne hL]
    conv => whnf
    left
    conv => whnf
    refine ⟨by rw [ints_length]; omega, ?_⟩
    rw [ints_full rfl]
    conv => whnf
    try rfl
theorem Witness3_pure (kind : Nat) (depth degree p q g r : Int) :
    Pure Go.Proofs.Try.prog 17 [scheme kind depth degree p q g, .v (.int .i64 r)] ⟨.tup [.ro (ints (wL kind depth degree p q g r)), .v (.int .i64 (wE kind depth degree p q g r))], []⟩ := by
  refine pure_sz pf eqOk_none (env_ok [40, 44] rfl) fun _ => ⟨60, ?_⟩
  by_cases he : wE kind depth degree p q g r = 0
  · have hv : validB kind depth degree p q g = true := by
      cases hv : validB kind depth degree p q g with
      | true => rfl
      | false => simp [wE, hv] at he
    have hv2 := hv
    simp only [validB, decide_eq_true_eq] at hv
    obtain ⟨h1, h2, h3, h4, rfl, rfl, rfl, rfl⟩ := hv
    obtain ⟨d, rfl⟩ : ∃ d : Nat, depth = d := ⟨depth.toNat, by omega⟩
    have hr : ¬ (r < 0 ∨ r > ((2 ^ d : Nat) : Int)) := fun hr => by unfold wE at he; rw [if_pos hv2, Int.toNat_natCast, if_pos hr] at he; cases he
    obtain ⟨k, rfl⟩ : ∃ k : Nat, r = k := ⟨r.toNat, by omega⟩
    have e2 : wL kind d 0 0 0 0 k = listZ kind d d 1 0 (worstZ (fullR kind d) d k).2.1 := by unfold wL; rw [if_pos he, Int.toNat_natCast, Int.toNat_natCast]
    rw [e2]
    conv => whnf
    refine ⟨_, asked3_pure kind d 0 0 0 0 k, ?_⟩
    rw [he]
    conv => whnf
    refine ⟨_, WitnessOf_pure kind d k h1 h2 (by omega) (by omega), ?_⟩
    conv => whnf
    left
    conv => whnf
    try rfl
  · have e2 : wL kind depth degree p q g r = [] := by unfold wL; rw [if_neg he]
    rw [e2]
    conv => whnf
    refine ⟨_, asked3_pure kind depth degree p q g r, ?_⟩
    conv => whnf
    rw [show (wE kind depth degree p q g r != 0) = true by simpa using he]
    conv => whnf
    left
    conv => whnf
    refine Or.inl ?_
    conv => whnf
    try rfl
end Go.YtoeophdffhmpmaaE
end

section
set_option linter.unusedVariables false
set_option linter.unusedSimpArgs false
set_option maxRecDepth 100000
set_option maxHeartbeats 1000000
namespace Go.YtoeophdffhmpmaaE
open Go Go.RowKit

/-! ### slices.Equal -/
theorem equal_loop (E : EqT) (env : Env) (xs ys : List Int) (hl : xs.length = ys.length) (hm : xs.length ≤ maxLen) (K : K) :
    ∀ (d i n : Nat), i + d = xs.length → d + 40 ≤ n → (∀ j, (hj : j < i) → (h1 : j < xs.length) → (h2 : j < ys.length) → xs[j] = ys[j]) →
      (xs ≠ ys → ∀ j, K .ret (mkJ 26 [(4, .v (.bool false))] j) [] []) → (xs = ys → ∀ j, K (.exit 0) (mkJ 26 [] j) [] []) →
      loopF (run Go.Proofs.Try.prog E env n) 0 0 (loopB Go.Proofs.Try.prog 52 0) (mkT 26 [(0, .ro (ints xs)), (1, .ro (ints ys)), (12, .v (.int .i64 (xs.length : Nat))), (13, .v (.int .i64 i))]) [] [] K := by
  intro d
  induction d with
  | zero =>
    intro i n hi hn heq hf ht
    obtain ⟨n, rfl⟩ : ∃ m, n = m + 40 := ⟨n - 40, by omega⟩
    conv => whnf
    refine cndK_intro (fun h => ?_) (fun h => ?_)
    · simp at h; omega
    · conv => whnf
      exact useJ (ht (List.ext_getElem hl (fun j h1 h2 => heq j (by omega) h1 h2))) rfl
  | succ d ih =>
    intro i n hi hn heq hf ht
    obtain ⟨n, rfl⟩ : ∃ m, n = m + 40 := ⟨n - 40, by omega⟩
    conv => whnf
    refine cndK_intro (fun h => ?_) (fun h => ?_)
    · conv => whnf
      refine Or.inl ⟨8, by kernel_rfl, ?_⟩
      conv => whnf
      have hi2 : i < xs.length := by omega
      refine ⟨⟨by omega, by simp [ints_length]; omega⟩, optK_intro _ (ints_get xs i hi2) ?_⟩
      conv => whnf
      refine ⟨⟨by omega, by simp [ints_length]; omega⟩, optK_intro _ (ints_get ys i (by omega)) ?_⟩
      conv => whnf
      refine cndK_intro (fun h2 => ?_) (fun h2 => ?_)
      · conv => whnf
        exact useJ (hf (fun e => by subst e; simp at h2)) rfl
      · conv => whnf
        have e1 : IntKind.i64.wrap ((i : Int) + 1) = ((i + 1 : Nat) : Int) := by
          simp only [maxLen] at hm
          simp [IntKind.wrap, IntKind.bits, IntKind.signed]
          omega
        refine wk_mask [true, true, false, false, false, false, false, false, false, false, false, false, true, true] _ rfl ?_
        have e2 : ∀ j, (hj : j < i + 1) → (h1 : j < xs.length) → (h2 : j < ys.length) → xs[j] = ys[j] := fun j hj h1 h3 => by
          by_cases hji : j = i
          · subst hji; simpa using h2
          · exact heq j (by omega) h1 h3
        rw [e1]
        exact ih (i + 1) (n + 39) (by omega) (by omega) e2 hf ht
    · simp at h; omega
theorem equal_pure (xs ys : List Int) : Pure Go.Proofs.Try.prog 52 [.ro (ints xs), .ro (ints ys)] ⟨.v (.bool (decide (xs = ys))), []⟩ := by
  refine pure_sz pf eqOk_none (env_ok [] rfl) fun hs => ⟨xs.length + 100, ?_⟩
  have hm : xs.length ≤ maxLen := by have := (hs 0 (by simp)).len; rwa [ints_length] at this
  conv => whnf
  refine cndK_intro (fun h => ?_) (fun h => ?_)
  · conv => whnf
    left
    conv => whnf
    have : xs ≠ ys := fun e => by subst e; simp at h
    simp [this]
  · conv => whnf
    simp only [ints_length, bne_eq_false_iff_eq] at h
    rw [show (((ints xs).length : Nat) : Int) = ((xs.length : Nat) : Int) from by rw [ints_length]]
    refine wk_mask [true, true, false, false, false, false, false, false, false, false, false, false, true, true] _ rfl ?_
    refine equal_loop (fun _ => none) (envL Go.Proofs.Try.prog []) xs ys (by omega) hm _ xs.length 0 (xs.length + 94) (by omega) (by omega) (fun j hj => by omega) (fun hne j => ?_) (fun he j => ?_)
    · conv => whnf
      left
      conv => whnf
      simp [hne]
    · conv => whnf
      left
      conv => whnf
      simp [he]

/-! ### slices.EqualFunc -/
theorem eqf2_loop (E : EqT) (xs ys : List (List Int)) (hg : ∀ x y : (List Int), Pure Go.Proofs.Try.prog 52 [.ro (ints x), .ro (ints y)] ⟨.v (.bool (decide (x = y))), []⟩) (hl : xs.length = ys.length) (hm : xs.length ≤ maxLen) (K : K) :
    ∀ (d i n : Nat), i + d = xs.length → d + 40 ≤ n → (∀ j, (hj : j < i) → (h1 : j < xs.length) → (h2 : j < ys.length) → xs[j] = ys[j]) →
      (xs ≠ ys → ∀ j, K .ret (mkJ 32 [(6, .v (.bool false))] j) [] []) → (xs = ys → ∀ j, K (.exit 0) (mkJ 32 [] j) [] []) →
      loopF (run Go.Proofs.Try.prog E (envL Go.Proofs.Try.prog [52]) n) 0 0 (loopB Go.Proofs.Try.prog 51 0) (mkT 32 [(1, .ro (nest2 ys)), (2, .fn 52 [] []), (15, .ro (nest2 xs)), (16, .v (.int .i64 (xs.length : Nat))), (17, .v (.int .i64 i))]) [] [] K := by
  intro d
  induction d with
  | zero =>
    intro i n hi hn heq hf ht
    obtain ⟨n, rfl⟩ : ∃ m, n = m + 40 := ⟨n - 40, by omega⟩
    conv => whnf
    refine cndK_intro (fun h => ?_) (fun h => ?_)
    · simp at h; omega
    · conv => whnf
      exact useJ (ht (List.ext_getElem hl (fun j h1 h2 => heq j (by omega) h1 h2))) rfl
  | succ d ih =>
    intro i n hi hn heq hf ht
    obtain ⟨n, rfl⟩ : ∃ m, n = m + 40 := ⟨n - 40, by omega⟩
    conv => whnf
    refine cndK_intro (fun h => ?_) (fun h => ?_)
    · conv => whnf
      have hi2 : i < xs.length := by omega
      have hi3 : i < ys.length := by omega
      refine ⟨⟨by omega, by rw [nest2_length]; omega⟩, ?_⟩
      conv => whnf
      refine optK_intro _ (nest2_get xs i hi2) ?_
      conv => whnf
      refine ⟨⟨by omega, by rw [nest2_length]; omega⟩, ?_⟩
      conv => whnf
      refine optK_intro _ (nest2_get ys i hi3) ?_
      conv => whnf
      refine ⟨_, hg xs[i] ys[i], ?_⟩
      by_cases h2 : xs[i] = ys[i]
      · rw [show decide (xs[i] = ys[i]) = true by simp [h2]]
        conv => whnf
        have e1 : IntKind.i64.wrap ((i : Int) + 1) = ((i + 1 : Nat) : Int) := by
          simp only [maxLen] at hm
          simp [IntKind.wrap, IntKind.bits, IntKind.signed]
          omega
        rw [e1]
        refine wk_mask [false, true, true, false, false, false, false, false, false, false, false, false, false, false, false, true, true, true] _ rfl ?_
        have e2 : ∀ j, (hj : j < i + 1) → (h1 : j < xs.length) → (h2 : j < ys.length) → xs[j] = ys[j] := fun j hj h1 h3 => by
          by_cases hji : j = i
          · subst hji; exact h2
          · exact heq j (by omega) h1 h3
        exact ih (i + 1) (n + 39) (by omega) (by omega) e2 hf ht
      · rw [show decide (xs[i] = ys[i]) = false by simp [h2]]
        conv => whnf
        exact useJ (hf (fun e => h2 (by subst e; rfl))) rfl
    · simp at h; omega
theorem eqf2_pure (xs ys : List (List Int)) (hg : ∀ x y : (List Int), Pure Go.Proofs.Try.prog 52 [.ro (ints x), .ro (ints y)] ⟨.v (.bool (decide (x = y))), []⟩) :
    Pure Go.Proofs.Try.prog 51 [.ro (nest2 xs), .ro (nest2 ys), .fn 52 [] []] ⟨.v (.bool (decide (xs = ys))), []⟩ := by
  refine pure_sz pf eqOk_none (env_ok [52] rfl) fun hs => ⟨xs.length + 100, ?_⟩
  have hm : xs.length ≤ maxLen := by have := (hs 0 (by simp)).len; rwa [nest2_length] at this
  conv => whnf
  refine cndK_intro (fun h => ?_) (fun h => ?_)
  · conv => whnf
    left
    conv => whnf
    have : xs ≠ ys := fun e => by subst e; simp at h
    simp [this]
  · conv => whnf
    simp only [nest2_length, bne_eq_false_iff_eq] at h
    rw [show (((nest2 xs).length : Nat) : Int) = ((xs.length : Nat) : Int) from by rw [nest2_length]]
    refine wk_mask [false, true, true, false, false, false, false, false, false, false, false, false, false, false, false, true, true, true] _ rfl ?_
    refine eqf2_loop (fun _ => none) xs ys hg (by omega) hm _ xs.length 0 (xs.length + 94) (by omega) (by omega) (fun j hj => by omega) (fun hne j => ?_) (fun he j => ?_)
    · conv => whnf
      left
      conv => whnf
      simp [hne]
    · conv => whnf
      left
      conv => whnf
      simp [he]
theorem eq2_pure (xs ys : List (List Int)) : Pure Go.Proofs.Try.prog 50 [.ro (nest2 xs), .ro (nest2 ys)] ⟨.v (.bool (decide (xs = ys))), []⟩ := by
  refine pure_sz pf eqOk_none (env_ok [51] rfl) fun hs => ⟨60, ?_⟩
  conv => whnf
  refine ⟨_, eqf2_pure xs ys equal_pure, ?_⟩
  conv => whnf
  left
  conv => whnf
  try rfl
theorem eqf3_loop (E : EqT) (xs ys : List (List (List Int))) (hg : ∀ x y : (List (List Int)), Pure Go.Proofs.Try.prog 50 [.ro (nest2 x), .ro (nest2 y)] ⟨.v (.bool (decide (x = y))), []⟩) (hl : xs.length = ys.length) (hm : xs.length ≤ maxLen) (K : K) :
    ∀ (d i n : Nat), i + d = xs.length → d + 40 ≤ n → (∀ j, (hj : j < i) → (h1 : j < xs.length) → (h2 : j < ys.length) → xs[j] = ys[j]) →
      (xs ≠ ys → ∀ j, K .ret (mkJ 32 [(6, .v (.bool false))] j) [] []) → (xs = ys → ∀ j, K (.exit 0) (mkJ 32 [] j) [] []) →
      loopF (run Go.Proofs.Try.prog E (envL Go.Proofs.Try.prog [50]) n) 0 0 (loopB Go.Proofs.Try.prog 53 0) (mkT 32 [(1, .ro (nest3 ys)), (2, .fn 50 [] []), (15, .ro (nest3 xs)), (16, .v (.int .i64 (xs.length : Nat))), (17, .v (.int .i64 i))]) [] [] K := by
  intro d
  induction d with
  | zero =>
    intro i n hi hn heq hf ht
    obtain ⟨n, rfl⟩ : ∃ m, n = m + 40 := ⟨n - 40, by omega⟩
    conv => whnf
    refine cndK_intro (fun h => ?_) (fun h => ?_)
    · simp at h; omega
    · conv => whnf
      exact useJ (ht (List.ext_getElem hl (fun j h1 h2 => heq j (by omega) h1 h2))) rfl
  | succ d ih =>
    intro i n hi hn heq hf ht
    obtain ⟨n, rfl⟩ : ∃ m, n = m + 40 := ⟨n - 40, by omega⟩
    conv => whnf
    refine cndK_intro (fun h => ?_) (fun h => ?_)
    · conv => whnf
      have hi2 : i < xs.length := by omega
      have hi3 : i < ys.length := by omega
      refine ⟨⟨by omega, by rw [nest3_length]; omega⟩, ?_⟩
      conv => whnf
      refine optK_intro _ (nest3_get xs i hi2) ?_
      conv => whnf
      refine ⟨⟨by omega, by rw [nest3_length]; omega⟩, ?_⟩
      conv => whnf
      refine optK_intro _ (nest3_get ys i hi3) ?_
      conv => whnf
      refine ⟨_, hg xs[i] ys[i], ?_⟩
      by_cases h2 : xs[i] = ys[i]
      · rw [show decide (xs[i] = ys[i]) = true by simp [h2]]
        conv => whnf
        have e1 : IntKind.i64.wrap ((i : Int) + 1) = ((i + 1 : Nat) : Int) := by
          simp only [maxLen] at hm
          simp [IntKind.wrap, IntKind.bits, IntKind.signed]
          omega
        rw [e1]
        refine wk_mask [false, true, true, false, false, false, false, false, false, false, false, false, false, false, false, true, true, true] _ rfl ?_
        have e2 : ∀ j, (hj : j < i + 1) → (h1 : j < xs.length) → (h2 : j < ys.length) → xs[j] = ys[j] := fun j hj h1 h3 => by
          by_cases hji : j = i
          · subst hji; exact h2
          · exact heq j (by omega) h1 h3
        exact ih (i + 1) (n + 39) (by omega) (by omega) e2 hf ht
      · rw [show decide (xs[i] = ys[i]) = false by simp [h2]]
        conv => whnf
        exact useJ (hf (fun e => h2 (by subst e; rfl))) rfl
    · simp at h; omega
theorem eqf3_pure (xs ys : List (List (List Int))) (hg : ∀ x y : (List (List Int)), Pure Go.Proofs.Try.prog 50 [.ro (nest2 x), .ro (nest2 y)] ⟨.v (.bool (decide (x = y))), []⟩) :
    Pure Go.Proofs.Try.prog 53 [.ro (nest3 xs), .ro (nest3 ys), .fn 50 [] []] ⟨.v (.bool (decide (xs = ys))), []⟩ := by
  refine pure_sz pf eqOk_none (env_ok [50] rfl) fun hs => ⟨xs.length + 100, ?_⟩
  have hm : xs.length ≤ maxLen := by have := (hs 0 (by simp)).len; rwa [nest3_length] at this
  conv => whnf
  refine cndK_intro (fun h => ?_) (fun h => ?_)
  · conv => whnf
    left
    conv => whnf
    have : xs ≠ ys := fun e => by subst e; simp at h
    simp [this]
  · conv => whnf
    simp only [nest3_length, bne_eq_false_iff_eq] at h
    rw [show (((nest3 xs).length : Nat) : Int) = ((xs.length : Nat) : Int) from by rw [nest3_length]]
    refine wk_mask [false, true, true, false, false, false, false, false, false, false, false, false, false, false, false, true, true, true] _ rfl ?_
    refine eqf3_loop (fun _ => none) xs ys hg (by omega) hm _ xs.length 0 (xs.length + 94) (by omega) (by omega) (fun j hj => by omega) (fun hne j => ?_) (fun he j => ?_)
    · conv => whnf
      left
      conv => whnf
      simp [hne]
    · conv => whnf
      left
      conv => whnf
      simp [he]
end Go.YtoeophdffhmpmaaE
end

section
set_option linter.unusedVariables false
set_option linter.unusedSimpArgs false
set_option maxRecDepth 100000
set_option maxHeartbeats 1000000
namespace Go.YtoeophdffhmpmaaE
open Go Go.RowKit

theorem clone_pure (xs : List Int) (hs : xs.length ≤ 100) : Pure Go.Proofs.Try.prog 47 [.ro (ints xs)] ⟨.ro (ints xs), []⟩ := by
  refine pure_sz pf eqOk_none (env_ok [] rfl) fun _ => ⟨60, ?_⟩
  conv => whnf
  intro b hb
  cases b with
  | true =>
    rw [hb rfl]
    conv => whnf
    left
    conv => whnf
    refine Or.inl ?_
    conv => whnf
    try rfl
  | false =>
    conv => whnf
    refine ⟨⟨rfl, Nat.le_refl _, by show ((0 + (ints xs).length : Nat) : Int) * ((8 : Nat) : Int) ≤ 70368744177664; rw [ints_length]; omega, fun c hc => by simp only [ints, List.mem_map] at hc; obtain ⟨x, _, rfl⟩ := hc; rfl⟩, ints xs, rfl, ?_⟩
    conv => whnf
    left
    conv => whnf
    refine ⟨by omega, ?_⟩
    rw [ints_length]
    rw [ints_full (Nat.zero_add _)]
    conv => whnf
    try rfl
theorem Tables3_pure (kind : Nat) (depth degree p q g : Int) :
    Pure Go.Proofs.Try.prog 21 [scheme kind depth degree p q g] ⟨.tup [.ro (if validB kind depth degree p q g = true then nest3 (TZ kind depth.toNat) else []), .v (.int .i64 (if validB kind depth degree p q g = true then 0 else 30))], []⟩ := by
  refine pure_sz pf eqOk_none (env_ok [49, 42] rfl) fun _ => ⟨60, ?_⟩
  cases hv : validB kind depth degree p q g with
  | false =>
    conv => whnf
    refine ⟨_, check3_pure kind depth degree p q g, ?_⟩
    rw [hv]
    conv => whnf
    left
    conv => whnf
    refine Or.inl ?_
    conv => whnf
    try rfl
  | true =>
    have hv2 := hv
    simp only [validB, decide_eq_true_eq] at hv
    obtain ⟨h1, h2, h3, h4, rfl, rfl, rfl, rfl⟩ := hv
    obtain ⟨d, rfl⟩ : ∃ d : Nat, depth = d := ⟨depth.toNat, by omega⟩
    conv => whnf
    refine ⟨_, check3_pure kind d 0 0 0 0, ?_⟩
    rw [hv2]
    conv => whnf
    refine ⟨_, TablesOf_pure kind d h1 h2 (by omega), ?_⟩
    conv => whnf
    left
    conv => whnf
    try rfl

/-! ### SameTables -/
theorem st_in (E : EqT) (T U : List (List (List Int))) (L M : List (List Int)) (i : Nat) (hi1 : i < T.length) (hi2 : i < U.length) (hT : T[i] = L) (hU : U[i] = M) (hl : L.length = M.length) (hm : L.length ≤ maxLen) (K : K) :
    ∀ (c j n : Nat), j + c = L.length → c + 60 ≤ n → (∀ q, (hq : q < j) → (h1 : q < L.length) → (h2 : q < M.length) → L[q] = M[q]) →
      (L ≠ M → ∀ jj, K .ret (mkJ 54 [(4, .v (.bool false))] jj) [] []) → (L = M → ∀ jj, K (.exit 2) (mkJ 54 [(0, .ro (nest3 T)), (1, .ro (nest3 U)), (5, .v (.int .i64 i))] jj) [] []) →
      loopF (run Go.Proofs.Try.prog E (envL Go.Proofs.Try.prog [18]) n) 0 0 (loopB Go.Proofs.Try.prog 22 1) (mkT 54 [(0, .ro (nest3 T)), (1, .ro (nest3 U)), (5, .v (.int .i64 i)), (6, .v (.int .i64 j))]) [] [] K := by
  intro c
  induction c with
  | zero =>
    intro j n hj hn heq hf ht
    obtain ⟨n, rfl⟩ : ∃ m, n = m + 60 := ⟨n - 60, by omega⟩
    conv => whnf
    refine ⟨⟨by omega, by rw [nest3_length]; omega⟩, ?_⟩
    conv => whnf
    refine optK_intro _ (nest3_get T i hi1) ?_
    conv => whnf
    rw [hT, nest2_length]
    refine cndK_intro (fun h => ?_) (fun h => ?_)
    · simp at h; omega
    · conv => whnf
      exact useJ (ht (List.ext_getElem hl (fun q h1 h2 => heq q (by omega) h1 h2))) rfl
  | succ c ih =>
    intro j n hj hn heq hf ht
    obtain ⟨n, rfl⟩ : ∃ m, n = m + 60 := ⟨n - 60, by omega⟩
    conv => whnf
    refine ⟨⟨by omega, by rw [nest3_length]; omega⟩, ?_⟩
    conv => whnf
    refine optK_intro _ (nest3_get T i hi1) ?_
    conv => whnf
    rw [hT, nest2_length]
    refine cndK_intro (fun h => ?_) (fun h => ?_)
    · conv => whnf
      refine Or.inl ⟨16, by kernel_rfl, ?_⟩
      conv => whnf
      have hj1 : j < L.length := by omega
      have hj2 : j < M.length := by omega
      have hU3 : (nest3 U)[i]? = some [.ro (nest2 M)] := by rw [nest3_get U i hi2, hU]
      have hT3 : (nest3 T)[i]? = some [.ro (nest2 L)] := by rw [nest3_get T i hi1, hT]
      refine ⟨⟨by omega, by rw [nest3_length]; omega⟩, optK_intro _ hT3 ?_⟩
      conv => whnf
      refine ⟨⟨by omega, by rw [nest2_length]; omega⟩, optK_intro _ (nest2_get L j hj1) ?_⟩
      conv => whnf
      refine ⟨⟨by omega, by rw [nest3_length]; omega⟩, optK_intro _ hU3 ?_⟩
      conv => whnf
      refine ⟨⟨by omega, by rw [nest2_length]; omega⟩, optK_intro _ (nest2_get M j hj2) ?_⟩
      conv => whnf
      refine ⟨_, sameInts_pure L[j] M[j], ?_⟩
      by_cases h2 : L[j] = M[j]
      · rw [show decide (L[j] = M[j]) = true by simp [h2]]
        conv => whnf
        have e1 : IntKind.i64.wrap ((j : Int) + 1) = ((j + 1 : Nat) : Int) := by
          simp only [maxLen] at hm
          simp [IntKind.wrap, IntKind.bits, IntKind.signed]
          omega
        rw [e1]
        refine wk_mask [true, true, false, false, false, true, true] _ rfl ?_
        have e2 : ∀ q, (hq : q < j + 1) → (h1 : q < L.length) → (h2 : q < M.length) → L[q] = M[q] := fun q hq h1 h3 => by
          by_cases hqj : q = j
          · subst hqj; exact h2
          · exact heq q (by omega) h1 h3
        exact ih (j + 1) (n + 59) (by omega) (by omega) e2 hf ht
      · rw [show decide (L[j] = M[j]) = false by simp [h2]]
        conv => whnf
        exact useJ (hf (fun e => h2 (by subst e; rfl))) rfl
    · simp at h; omega
theorem st_out (E : EqT) (T U : List (List (List Int))) (hl : T.length = U.length) (hm : T.length ≤ maxLen) (hmm : ∀ L ∈ T, L.length ≤ maxLen) (b : Nat) (hb : ∀ L ∈ T, L.length ≤ b) (K : K) :
    ∀ (c i n : Nat), i + c = T.length → c + b + 130 ≤ n → (∀ q, (hq : q < i) → (h1 : q < T.length) → (h2 : q < U.length) → T[q] = U[q]) →
      (T ≠ U → ∀ jj, K .ret (mkJ 54 [(4, .v (.bool false))] jj) [] []) → (T = U → ∀ jj, K (.exit 0) (mkJ 54 [] jj) [] []) →
      loopF (run Go.Proofs.Try.prog E (envL Go.Proofs.Try.prog [18]) n) 0 0 (loopB Go.Proofs.Try.prog 22 0) (mkT 54 [(0, .ro (nest3 T)), (1, .ro (nest3 U)), (5, .v (.int .i64 i))]) [] [] K := by
  intro c
  induction c with
  | zero =>
    intro i n hi hn heq hf ht
    obtain ⟨n, rfl⟩ : ∃ m, n = m + 130 := ⟨n - 130, by omega⟩
    conv => whnf
    rw [nest3_length]
    refine cndK_intro (fun h => ?_) (fun h => ?_)
    · simp at h; omega
    · conv => whnf
      exact useJ (ht (List.ext_getElem hl (fun q h1 h2 => heq q (by omega) h1 h2))) rfl
  | succ c ih =>
    intro i n hi hn heq hf ht
    obtain ⟨n, rfl⟩ : ∃ m, n = m + 130 := ⟨n - 130, by omega⟩
    conv => whnf
    rw [nest3_length]
    refine cndK_intro (fun h => ?_) (fun h => ?_)
    · have hi1 : i < T.length := by omega
      have hi2 : i < U.length := by omega
      conv => whnf
      refine Or.inl ⟨11, by kernel_rfl, ?_⟩
      conv => whnf
      refine ⟨⟨by omega, by rw [nest3_length]; omega⟩, optK_intro _ (nest3_get T i hi1) ?_⟩
      conv => whnf
      refine ⟨⟨by omega, by rw [nest3_length]; omega⟩, optK_intro _ (nest3_get U i hi2) ?_⟩
      conv => whnf
      rw [nest2_length, nest2_length]
      refine cndK_intro (fun h2 => ?_) (fun h2 => ?_)
      · conv => whnf
        exact useJ (hf (fun e => by subst e; simp at h2)) rfl
      · have h2' : T[i].length = U[i].length := Int.ofNat.inj (by simpa using h2)
        conv => whnf
        refine wk_mask [true, true, false, false, false, true, true] _ rfl ?_
        have hbi := hb _ (List.getElem_mem hi1)
        refine st_in E T U T[i] U[i] i hi1 hi2 rfl rfl h2' (hmm _ (List.getElem_mem hi1)) _ T[i].length 0 (n + 123) (by omega) (by omega) (fun q hq => by omega) (fun hne jj => ?_) (fun he jj => ?_)
        · conv => whnf
          exact useJ (hf (fun e => hne (by subst e; rfl))) rfl
        · conv => whnf
          have e1 : IntKind.i64.wrap ((i : Int) + 1) = ((i + 1 : Nat) : Int) := by
            simp only [maxLen] at hm
            simp [IntKind.wrap, IntKind.bits, IntKind.signed]
            omega
          rw [e1]
          refine wk_mask [true, true, false, false, false, true] _ rfl ?_
          refine ih (i + 1) (n + 129) (by omega) (by omega) (fun q hq h1 h3 => ?_) hf ht
          by_cases hqi : q = i
          · subst hqi; exact he
          · exact heq q (by omega) h1 h3
    · simp at h; omega
theorem len_bound {α : Type} (T : List (List α)) : ∃ b, ∀ L ∈ T, L.length ≤ b := by
  induction T with
  | nil => exact ⟨0, fun L hL => by cases hL⟩
  | cons x T ih =>
    obtain ⟨b, hb⟩ := ih
    refine ⟨max b x.length, fun L hL => ?_⟩
    rcases List.mem_cons.1 hL with rfl | hL
    · omega
    · have := hb L hL; omega
theorem sz_nest3 {T : List (List (List Int))} (h : Sz (.ro (nest3 T))) : T.length ≤ maxLen ∧ ∀ L ∈ T, L.length ≤ maxLen := by
  cases h with
  | ro _ hl h =>
    rw [nest3_length] at hl
    refine ⟨hl, fun L hL => ?_⟩
    obtain ⟨i, hi, rfl⟩ := List.getElem_of_mem hL
    have e : (nest3 T).getD i [] = [.ro (nest2 T[i])] := by rw [List.getD_eq_getElem?_getD, nest3_get T i hi]; rfl
    have := h i 0 (by rw [nest3_length]; exact hi) (by rw [e]; simp)
    rw [e] at this
    have h2 := Sz.len (els := nest2 T[i]) this
    rwa [nest2_length] at h2
theorem SameTables_pure (T U : List (List (List Int))) : Pure Go.Proofs.Try.prog 22 [.ro (nest3 T), .ro (nest3 U)] ⟨.v (.bool (decide (T = U))), []⟩ := by
  obtain ⟨b, hb⟩ := len_bound T
  refine pure_sz pf eqOk_none (env_ok [18] rfl) fun hs => ⟨T.length + b + 200, ?_⟩
  obtain ⟨hm, hmm⟩ := sz_nest3 (T := T) (hs 0 (by simp))
  conv => whnf
  rw [nest3_length, nest3_length]
  refine cndK_intro (fun h => ?_) (fun h => ?_)
  · conv => whnf
    left
    conv => whnf
    have : T ≠ U := fun e => by subst e; simp at h
    simp [this]
  · have hl : T.length = U.length := Int.ofNat.inj (by simpa using h)
    conv => whnf
    refine wk_mask [true, true, false, false, false, true] _ rfl ?_
    refine st_out (fun _ => none) T U hl hm hmm b hb _ T.length 0 (T.length + b + 194) (by omega) (by omega) (fun q hq => by omega) (fun hne j => ?_) (fun he j => ?_)
    · conv => whnf
      left
      conv => whnf
      simp [hne]
    · conv => whnf
      left
      conv => whnf
      simp [he]
end Go.YtoeophdffhmpmaaE
end

section
set_option linter.unusedVariables false
set_option linter.unusedSimpArgs false
set_option maxRecDepth 100000
set_option maxHeartbeats 1000000
namespace Go.YtoeophdffhmpmaaE
open Go Go.RowKit

/-- What CheckTables says. -/
def cE (kind : Nat) (depth degree p q g : Int) (T : List (List (List Int))) : Int := if validB kind depth degree p q g = true then (if T = TZ kind depth.toNat then 0 else 100) else 30
theorem CheckTables3_pure (kind : Nat) (depth degree p q g : Int) (T : List (List (List Int))) :
    Pure Go.Proofs.Try.prog 24 [scheme kind depth degree p q g, .ro (nest3 T)] ⟨.v (.int .i64 (cE kind depth degree p q g T)), []⟩ := by
  refine pure_sz pf eqOk_none (env_ok [49, 42, 22] rfl) fun _ => ⟨60, ?_⟩
  cases hv : validB kind depth degree p q g with
  | false =>
    have e : cE kind depth degree p q g T = 30 := by simp [cE, hv]
    rw [e]
    conv => whnf
    refine ⟨_, check3_pure kind depth degree p q g, ?_⟩
    rw [hv]
    conv => whnf
    left
    conv => whnf
    try rfl
  | true =>
    have hv2 := hv
    simp only [validB, decide_eq_true_eq] at hv
    obtain ⟨h1, h2, h3, h4, rfl, rfl, rfl, rfl⟩ := hv
    obtain ⟨d, rfl⟩ : ∃ d : Nat, depth = d := ⟨depth.toNat, by omega⟩
    by_cases hT : T = TZ kind d
    · have e : cE kind d 0 0 0 0 T = 0 := by unfold cE; rw [if_pos hv2, Int.toNat_natCast, if_pos hT]
      rw [e]
      conv => whnf
      refine ⟨_, check3_pure kind d 0 0 0 0, ?_⟩
      rw [hv2]
      conv => whnf
      refine ⟨_, TablesOf_pure kind d h1 h2 (by omega), ?_⟩
      conv => whnf
      refine ⟨_, SameTables_pure T (TZ kind d), ?_⟩
      rw [show decide (T = TZ kind d) = true by simp [hT]]
      conv => whnf
      left
      conv => whnf
      try rfl
    · have e : cE kind d 0 0 0 0 T = 100 := by unfold cE; rw [if_pos hv2, Int.toNat_natCast, if_neg hT]
      rw [e]
      conv => whnf
      refine ⟨_, check3_pure kind d 0 0 0 0, ?_⟩
      rw [hv2]
      conv => whnf
      refine ⟨_, TablesOf_pure kind d h1 h2 (by omega), ?_⟩
      conv => whnf
      refine ⟨_, SameTables_pure T (TZ kind d), ?_⟩
      rw [show decide (T = TZ kind d) = false by simp [hT]]
      conv => whnf
      left
      conv => whnf
      try rfl

/-! ### plan.Tables -/
def ptEnv : List Nat := [45, 46, 48, 47]
def schB (kind d : Nat) : Blk := .bx false [.v (.int .u8 kind), .v (.int .i64 d), .v (.int .i64 0), .v (.int .u64 0), .v (.int .u64 0), .v (.int .u64 0)]
theorem tat_pure (kind d s h : Nat) (hs : s < statesN kind) (hs4 : s < 4) (hh : h ≤ d) (hd : d ≤ 6) :
    Pure Go.Proofs.Try.prog 48 [tb kind d (fullR kind d) (statesN kind), .v (.int .i64 s), .v (.int .i64 h)] ⟨.ro (ints (lvl kind d h s)), []⟩ := by
  have := at_pure kind d (statesN kind) (fullR kind d) s h hs4 (by omega) (fullR_len2 kind d s h hs hh)
  rw [fullR_row kind d s h hs hh] at this
  exact this
theorem row_len (kind d h s : Nat) (hh : h ≤ 6) : (lvl kind d h s).length ≤ 100 := by
  have := pow_le6 hh; rw [lvl_length]; omega
theorem nest_snoc (kind d s h : Nat) : nest2 (rowsZ kind d s (h + 1)) = nest2 (rowsZ kind d s h) ++ [[.ro (ints (lvl kind d h s))]] := by rw [rowsZ_succ]; simp [nest2]
end Go.YtoeophdffhmpmaaE
end

section
set_option linter.unusedVariables false
set_option linter.unusedSimpArgs false
set_option maxRecDepth 100000
set_option maxHeartbeats 1000000
namespace Go.YtoeophdffhmpmaaE
open Go Go.RowKit

theorem pt_in_0 (E : EqT) (kind d s : Nat) (hs : s < statesN kind) (hs4 : s < 4) (hd : d ≤ 6) (K : K) :
    ∀ (c h n : Nat), h + c = d + 1 → 1 ≤ h → c + 60 ≤ n →
      (∀ j, K (.exit 2) (mkJ 45 [(1, .pt 0 0 0 0 0), (5, tb kind d (fullR kind d) (statesN kind)), (6, .v (.slice none 0 0)), (7, .v (.int .i64 s)), (8, .sl 1 0 1 0 (d + 1)), (20, .v (.int .i64 (statesN kind : Nat))), (21, .v (.int .i64 s))] j) [schB kind d, .rw false false 0 1 (nest2 (rowsZ kind d s (d + 1)))] []) →
      loopF (run Go.Proofs.Try.prog E (envL Go.Proofs.Try.prog ptEnv) n) 0 0 (loopB Go.Proofs.Try.prog 20 1) (mkT 45 [(1, .pt 0 0 0 0 0), (5, tb kind d (fullR kind d) (statesN kind)), (6, .v (.slice none 0 0)), (7, .v (.int .i64 s)), (8, .sl 1 0 1 0 h), (20, .v (.int .i64 (statesN kind : Nat))), (21, .v (.int .i64 s)), (26, .v (.int .i64 (d + 1 : Nat))), (27, .v (.int .i64 h))]) [schB kind d, .rw false false 0 1 (nest2 (rowsZ kind d s h))] [] K := by
  intro c
  induction c with
  | zero =>
    intro h n hi h1 hn hK
    obtain ⟨n, rfl⟩ : ∃ m, n = m + 60 := ⟨n - 60, by omega⟩
    obtain rfl : h = d + 1 := by omega
    conv => whnf
    refine cndK_intro (fun h => ?_) (fun h => ?_)
    · simp at h
    · conv => whnf
      exact useJ hK rfl
  | succ c ih =>
    intro h n hi h1 hn hK
    obtain ⟨n, rfl⟩ : ∃ m, n = m + 60 := ⟨n - 60, by omega⟩
    have next := ih (h + 1) (n + 59) (by omega) (by omega) (by omega) hK
    have ek : IntKind.i64.wrap ((h : Int) + 1) = ((h + 1 : Nat) : Int) := by rw [wrap64 (by omega) (by omega)]; omega
    conv => whnf
    refine cndK_intro (fun h2 => ?_) (fun h2 => ?_)
    rotate_left
    · exfalso
      simp only [decide_eq_false_iff_not] at h2
      omega
    conv => whnf
    refine ⟨_, tat_pure kind d s h hs hs4 (by omega) hd, ?_⟩
    conv => whnf
    refine ⟨_, clone_pure _ (row_len kind d h s (by omega)), ?_⟩
    conv => whnf
    refine ⟨Nat.le_refl _, ?_⟩
    conv => whnf
    refine ⟨⟨rfl, by rw [nest2_length, rowsZ_length]; exact Nat.le_refl _, by show ((h + 1 : Nat) : Int) * ((24 : Nat) : Int) ≤ 70368744177664; omega, by simp⟩, nest2 (rowsZ kind d s (h + 1)), by rw [List.take_of_length_le (by rw [nest2_length, rowsZ_length]; exact Nat.le_refl _), nest_snoc]; rfl, ?_⟩
    conv => whnf
    rw [ek]
    refine gc_step ⟨[false, true, false, false, false, true, true, true, true, false, false, false, false, false, false, false, false, false, false, false, true, true, false, false, false, false, true, true], [0,1], 0⟩ _ _ _ (fun k hk => hk) ?_
    exact next
theorem pt_in_1 (E : EqT) (kind d s : Nat) (O : List (List A)) (m : Nat) (hs : s < statesN kind) (hs4 : s < 4) (hd : d ≤ 6) (K : K) :
    ∀ (c h n : Nat), h + c = d + 1 → 1 ≤ h → c + 60 ≤ n →
      (∀ j, K (.exit 2) (mkJ 45 [(1, .pt 0 0 0 0 0), (5, tb kind d (fullR kind d) (statesN kind)), (6, .sl 1 0 1 0 m), (7, .v (.int .i64 s)), (8, .sl 2 0 1 0 (d + 1)), (20, .v (.int .i64 (statesN kind : Nat))), (21, .v (.int .i64 s))] j) [schB kind d, .rw false false 0 1 O, .rw false false 0 1 (nest2 (rowsZ kind d s (d + 1)))] []) →
      loopF (run Go.Proofs.Try.prog E (envL Go.Proofs.Try.prog ptEnv) n) 0 0 (loopB Go.Proofs.Try.prog 20 1) (mkT 45 [(1, .pt 0 0 0 0 0), (5, tb kind d (fullR kind d) (statesN kind)), (6, .sl 1 0 1 0 m), (7, .v (.int .i64 s)), (8, .sl 2 0 1 0 h), (20, .v (.int .i64 (statesN kind : Nat))), (21, .v (.int .i64 s)), (26, .v (.int .i64 (d + 1 : Nat))), (27, .v (.int .i64 h))]) [schB kind d, .rw false false 0 1 O, .rw false false 0 1 (nest2 (rowsZ kind d s h))] [] K := by
  intro c
  induction c with
  | zero =>
    intro h n hi h1 hn hK
    obtain ⟨n, rfl⟩ : ∃ m, n = m + 60 := ⟨n - 60, by omega⟩
    obtain rfl : h = d + 1 := by omega
    conv => whnf
    refine cndK_intro (fun h => ?_) (fun h => ?_)
    · simp at h
    · conv => whnf
      exact useJ hK rfl
  | succ c ih =>
    intro h n hi h1 hn hK
    obtain ⟨n, rfl⟩ : ∃ m, n = m + 60 := ⟨n - 60, by omega⟩
    have next := ih (h + 1) (n + 59) (by omega) (by omega) (by omega) hK
    have ek : IntKind.i64.wrap ((h : Int) + 1) = ((h + 1 : Nat) : Int) := by rw [wrap64 (by omega) (by omega)]; omega
    conv => whnf
    refine cndK_intro (fun h2 => ?_) (fun h2 => ?_)
    rotate_left
    · exfalso
      simp only [decide_eq_false_iff_not] at h2
      omega
    conv => whnf
    refine ⟨_, tat_pure kind d s h hs hs4 (by omega) hd, ?_⟩
    conv => whnf
    refine ⟨_, clone_pure _ (row_len kind d h s (by omega)), ?_⟩
    conv => whnf
    refine ⟨Nat.le_refl _, ?_⟩
    conv => whnf
    refine ⟨⟨rfl, by rw [nest2_length, rowsZ_length]; exact Nat.le_refl _, by show ((h + 1 : Nat) : Int) * ((24 : Nat) : Int) ≤ 70368744177664; omega, by simp⟩, nest2 (rowsZ kind d s (h + 1)), by rw [List.take_of_length_le (by rw [nest2_length, rowsZ_length]; exact Nat.le_refl _), nest_snoc]; rfl, ?_⟩
    conv => whnf
    rw [ek]
    refine gc_step ⟨[false, true, false, false, false, true, true, true, true, false, false, false, false, false, false, false, false, false, false, false, true, true, false, false, false, false, true, true], [0,1,2], 0⟩ _ _ _ (fun k hk => hk) ?_
    exact next
/-- The first states' rows. -/
def TP (kind d m : Nat) : List (List (List Int)) := (List.range m).map fun s => rowsZ kind d s (d + 1)
theorem TP_length (kind d m : Nat) : (TP kind d m).length = m := by simp [TP]
theorem TP_succ (kind d m : Nat) : nest3 (TP kind d (m + 1)) = nest3 (TP kind d m) ++ [[.ro (nest2 (rowsZ kind d m (d + 1)))]] := by simp [TP, nest3, List.range_succ]
theorem statesN_le (kind : Nat) : statesN kind ≤ 4 := by unfold statesN; split <;> decide
theorem pt_out (E : EqT) (kind d : Nat) (hd : d ≤ 6) (K : K) :
    ∀ (c m n : Nat), m + c = statesN kind → 1 ≤ m → c + 150 ≤ n →
      (∀ j, K (.exit 0) (mkJ 45 [(6, .sl 1 0 1 0 (statesN kind))] j) [schB kind d, .rw false false 0 1 (nest3 (TP kind d (statesN kind)))] []) →
      loopF (run Go.Proofs.Try.prog E (envL Go.Proofs.Try.prog ptEnv) n) 0 0 (loopB Go.Proofs.Try.prog 20 0)
        (mkT 45 [(1, .pt 0 0 0 0 0), (5, tb kind d (fullR kind d) (statesN kind)), (6, .sl 1 0 1 0 m), (20, .v (.int .i64 (statesN kind : Nat))), (21, .v (.int .i64 m))]) [schB kind d, .rw false false 0 1 (nest3 (TP kind d m))] [] K := by
  intro c
  induction c with
  | zero =>
    intro m n hi h1 hn hK
    obtain ⟨n, rfl⟩ : ∃ q, n = q + 150 := ⟨n - 150, by omega⟩
    obtain rfl : m = statesN kind := by omega
    conv => whnf
    refine cndK_intro (fun h => ?_) (fun h => ?_)
    · simp at h
    · conv => whnf
      exact useJ hK rfl
  | succ c ih =>
    intro m n hi h1 hn hK
    obtain ⟨n, rfl⟩ : ∃ q, n = q + 150 := ⟨n - 150, by omega⟩
    have h4 := statesN_le kind
    have next := ih (m + 1) (n + 149) (by omega) (by omega) (by omega) hK
    have ek : IntKind.i64.wrap ((m : Int) + 1) = ((m + 1 : Nat) : Int) := by rw [wrap64 (by omega) (by omega)]; omega
    have ed : IntKind.i64.wrap ((d : Int) + 1) = ((d + 1 : Nat) : Int) := by rw [wrap64 (by omega) (by omega)]; omega
    conv => whnf
    refine cndK_intro (fun h2 => ?_) (fun h2 => ?_)
    rotate_left
    · exfalso
      simp only [decide_eq_false_iff_not] at h2
      omega
    conv => whnf
    rw [ed]
    refine wk_none ?_
    conv => whnf
    rw [show decide ((0 : Int) < ((d + 1 : Nat) : Int)) = true from by simp]
    conv => whnf
    refine ⟨_, tat_pure kind d m 0 (by omega) (by omega) (by omega) hd, ?_⟩
    conv => whnf
    refine ⟨_, clone_pure _ (row_len kind d 0 m (by omega)), ?_⟩
    conv => whnf
    refine ⟨Nat.le_refl _, ?_⟩
    conv => whnf
    refine ⟨fun h => (by cases h), fun _ => ⟨⟨by show ((1 : Nat) : Int) * ((24 : Nat) : Int) ≤ 70368744177664; decide, by simp⟩, ?_⟩⟩
    conv => whnf
    refine gc_step ⟨[false, true, false, false, false, true, true, true, true, false, false, false, false, false, false, false, false, false, false, false, true, true, false, false, false, false, true, true], [0,1,3], 0⟩ (mkT 45 [(1, .pt 0 0 0 0 0), (5, tb kind d (fullR kind d) (statesN kind)), (6, .sl 1 0 1 0 m), (7, .v (.int .i64 m)), (8, .sl 2 0 1 0 1), (20, .v (.int .i64 (statesN kind : Nat))), (21, .v (.int .i64 m)), (26, .v (.int .i64 (d + 1 : Nat))), (27, .v (.int .i64 (1 : Nat)))]) [schB kind d, .rw false false 0 1 (nest3 (TP kind d m)), .rw false false 0 1 (nest2 (rowsZ kind d m 1))] [] (fun k hk => hk) ?_
    refine pt_in_1 E kind d m (nest3 (TP kind d m)) m (by omega) (by omega) hd _ d 1 (n + 139) (by omega) (by omega) (by omega) fun j => ?_
    conv => whnf
    refine ⟨by rw [nest2_length, rowsZ_length]; omega, ?_⟩
    have ef : ((nest2 (rowsZ kind d m (d + 1))).drop 0).take (d + 1) = nest2 (rowsZ kind d m (d + 1)) := by rw [List.drop_zero]; exact List.take_of_length_le (by rw [nest2_length, rowsZ_length]; exact Nat.le_refl _)
    rw [ef]
    refine Or.inl ?_
    conv => whnf
    refine ⟨Nat.le_refl _, ?_⟩
    conv => whnf
    refine ⟨⟨rfl, by rw [nest3_length, TP_length]; exact Nat.le_refl _, by show ((m + 1 : Nat) : Int) * ((24 : Nat) : Int) ≤ 70368744177664; omega, by simp⟩, nest3 (TP kind d (m + 1)), by rw [List.take_of_length_le (by rw [nest3_length, TP_length]; exact Nat.le_refl _), TP_succ]; rfl, ?_⟩
    conv => whnf
    rw [ek]
    refine gc_step ⟨[false, true, false, false, false, true, true, false, false, false, false, false, false, false, false, false, false, false, false, false, true, true], [0,1], 0⟩ _ _ _ (fun k hk => hk) ?_
    exact next
end Go.YtoeophdffhmpmaaE
end

section
set_option linter.unusedVariables false
set_option linter.unusedSimpArgs false
set_option maxRecDepth 100000
set_option maxHeartbeats 1000000
namespace Go.YtoeophdffhmpmaaE
open Go Go.RowKit

def grN (s : Int) (x : List Int) : Int := IntKind.i64.wrap (s + IntKind.i64.wrap (1 + (x.length : Int)))
def grIn : Int → List (List Int) → Option Int
  | s, [] => some s
  | s, x :: L => if grN s x > 2000 then none else grIn (grN s x) L
def grOut : Int → List (List (List Int)) → Option Int
  | s, [] => some s
  | s, L :: T => (grIn s L).bind fun s' => grOut s' T
def greatB (T : List (List (List Int))) : Bool := match grOut 0 T with | none => true | some _ => decide ((T.length : Int) > 20)
theorem grIn_drop (s : Int) (L : List (List Int)) (j : Nat) (h : j < L.length) : grIn s (L.drop j) = if grN s L[j] > 2000 then none else grIn (grN s L[j]) (L.drop (j + 1)) := by
  rw [List.drop_eq_getElem_cons h]; rfl
theorem grOut_drop (s : Int) (T : List (List (List Int))) (i : Nat) (h : i < T.length) : grOut s (T.drop i) = (grIn s T[i]).bind fun s' => grOut s' (T.drop (i + 1)) := by
  rw [List.drop_eq_getElem_cons h]; rfl
theorem gr_in (E : EqT) (T : List (List (List Int))) (L : List (List Int)) (i : Nat) (hi : i < T.length) (hT : T[i] = L) (hm : L.length ≤ maxLen) (K : K) :
    ∀ (c j n : Nat) (s : Int), j + c = L.length → c + 60 ≤ n →
      (grIn s (L.drop j) = none → ∀ jj, K .ret (mkJ 37 [(2, .v (.bool true))] jj) [] []) →
      (∀ s', grIn s (L.drop j) = some s' → ∀ jj, K (.exit 2) (mkJ 37 [(0, .ro (nest3 T)), (3, .v (.int .i64 s')), (4, .v (.int .i64 i))] jj) [] []) →
      loopF (run Go.Proofs.Try.prog E (envL Go.Proofs.Try.prog []) n) 0 0 (loopB Go.Proofs.Try.prog 19 1) (mkT 37 [(0, .ro (nest3 T)), (3, .v (.int .i64 s)), (4, .v (.int .i64 i)), (5, .v (.int .i64 j))]) [] [] K := by
  intro c
  induction c with
  | zero =>
    intro j n s hj hn hf ht
    obtain ⟨n, rfl⟩ : ∃ m, n = m + 60 := ⟨n - 60, by omega⟩
    conv => whnf
    refine ⟨⟨by omega, by rw [nest3_length]; omega⟩, ?_⟩
    conv => whnf
    refine optK_intro _ (nest3_get T i hi) ?_
    conv => whnf
    rw [hT, nest2_length]
    refine cndK_intro (fun h => ?_) (fun h => ?_)
    · simp at h; omega
    · conv => whnf
      exact useJ (ht s (by rw [List.drop_eq_nil_of_le (by omega)]; rfl)) rfl
  | succ c ih =>
    intro j n s hj hn hf ht
    obtain ⟨n, rfl⟩ : ∃ m, n = m + 60 := ⟨n - 60, by omega⟩
    have hj1 : j < L.length := by omega
    have hT3 : (nest3 T)[i]? = some [.ro (nest2 L)] := by rw [nest3_get T i hi, hT]
    rw [grIn_drop s L j hj1] at hf ht
    conv => whnf
    refine ⟨⟨by omega, by rw [nest3_length]; omega⟩, ?_⟩
    conv => whnf
    refine optK_intro _ hT3 ?_
    conv => whnf
    rw [nest2_length]
    refine cndK_intro (fun h => ?_) (fun h => ?_)
    · conv => whnf
      refine ⟨⟨by omega, by rw [nest3_length]; omega⟩, optK_intro _ hT3 ?_⟩
      conv => whnf
      refine ⟨⟨by omega, by rw [nest2_length]; omega⟩, optK_intro _ (nest2_get L j hj1) ?_⟩
      conv => whnf
      rw [ints_length]
      rw [show IntKind.i64.wrap (s + IntKind.i64.wrap (1 + (L[j].length : Int))) = grN s L[j] from rfl]
      refine cndK_intro (fun h2 => ?_) (fun h2 => ?_)
      · have h2' : grN s L[j] > 2000 := by simpa using h2
        rw [if_pos h2'] at hf
        conv => whnf
        exact useJ (hf rfl) rfl
      · have h2' : ¬ grN s L[j] > 2000 := by simpa using h2
        rw [if_neg h2'] at hf ht
        conv => whnf
        have e1 : IntKind.i64.wrap ((j : Int) + 1) = ((j + 1 : Nat) : Int) := by
          simp only [maxLen] at hm
          simp [IntKind.wrap, IntKind.bits, IntKind.signed]
          omega
        rw [e1]
        refine wk_mask [true, false, false, true, true, true] _ rfl ?_
        exact ih (j + 1) (n + 59) _ (by omega) (by omega) hf ht
    · simp at h; omega
theorem gr_out (E : EqT) (T : List (List (List Int))) (hm : T.length ≤ maxLen) (hmm : ∀ L ∈ T, L.length ≤ maxLen) (b : Nat) (hb : ∀ L ∈ T, L.length ≤ b) (K : K) :
    ∀ (c i n : Nat) (s : Int), i + c = T.length → c + b + 130 ≤ n →
      (grOut s (T.drop i) = none → ∀ jj, K .ret (mkJ 37 [(2, .v (.bool true))] jj) [] []) →
      (∀ s', grOut s (T.drop i) = some s' → ∀ jj, K (.exit 0) (mkJ 37 [(0, .ro (nest3 T))] jj) [] []) →
      loopF (run Go.Proofs.Try.prog E (envL Go.Proofs.Try.prog []) n) 0 0 (loopB Go.Proofs.Try.prog 19 0) (mkT 37 [(0, .ro (nest3 T)), (3, .v (.int .i64 s)), (4, .v (.int .i64 i))]) [] [] K := by
  intro c
  induction c with
  | zero =>
    intro i n s hi hn hf ht
    obtain ⟨n, rfl⟩ : ∃ m, n = m + 130 := ⟨n - 130, by omega⟩
    conv => whnf
    rw [nest3_length]
    refine cndK_intro (fun h => ?_) (fun h => ?_)
    · simp at h; omega
    · conv => whnf
      exact useJ (ht s (by rw [List.drop_eq_nil_of_le (by omega)]; rfl)) rfl
  | succ c ih =>
    intro i n s hi hn hf ht
    obtain ⟨n, rfl⟩ : ∃ m, n = m + 130 := ⟨n - 130, by omega⟩
    have hi1 : i < T.length := by omega
    rw [grOut_drop s T i hi1] at hf ht
    conv => whnf
    rw [nest3_length]
    refine cndK_intro (fun h => ?_) (fun h => ?_)
    · conv => whnf
      refine wk_mask [true, false, false, true, true, true] _ rfl ?_
      have hbi := hb _ (List.getElem_mem hi1)
      refine gr_in E T T[i] i hi1 rfl (hmm _ (List.getElem_mem hi1)) _ T[i].length 0 (n + 124) s (by omega) (by omega) (fun hne jj => ?_) (fun s' he jj => ?_)
      · conv => whnf
        exact useJ (hf (by rw [List.drop_zero] at hne; rw [hne]; rfl)) rfl
      · conv => whnf
        have e1 : IntKind.i64.wrap ((i : Int) + 1) = ((i + 1 : Nat) : Int) := by
          simp only [maxLen] at hm
          simp [IntKind.wrap, IntKind.bits, IntKind.signed]
          omega
        rw [e1]
        rw [List.drop_zero] at he
        rw [he] at hf ht
        refine wk_mask [true, false, false, true, true] _ rfl ?_
        exact ih (i + 1) (n + 129) s' (by omega) (by omega) hf ht
    · simp at h; omega
theorem Great_pure (T : List (List (List Int))) : Pure Go.Proofs.Try.prog 19 [.ro (nest3 T)] ⟨.v (.bool (greatB T)), []⟩ := by
  obtain ⟨b, hb⟩ := len_bound T
  refine pure_sz pf eqOk_none (env_ok [] rfl) fun hs => ⟨T.length + b + 200, ?_⟩
  obtain ⟨hm, hmm⟩ := sz_nest3 (T := T) (hs 0 (by simp))
  conv => whnf
  refine wk_mask [true, false, false, true, true] _ rfl ?_
  refine gr_out (fun _ => none) T hm hmm b hb _ T.length 0 (T.length + b + 194) 0 (by omega) (by omega) (fun hne j => ?_) (fun s he j => ?_)
  · conv => whnf
    left
    conv => whnf
    rw [List.drop_zero] at hne
    have : greatB T = true := by unfold greatB; rw [hne]
    rw [this]
    try rfl
  · conv => whnf
    rw [nest3_length]
    left
    conv => whnf
    rw [List.drop_zero] at he
    have : greatB T = decide ((T.length : Int) > 20) := by unfold greatB; rw [he]
    rw [this]
    try rfl
end Go.YtoeophdffhmpmaaE
end

section
set_option linter.unusedVariables false
set_option linter.unusedSimpArgs false
set_option maxRecDepth 100000
set_option maxHeartbeats 1000000
namespace Go.YtoeophdffhmpmaaE
open Go Go.RowKit

theorem TP_TZ (kind d : Nat) : TP kind d (statesN kind) = TZ kind d := rfl
theorem Tables_ok (kind d : Nat) (h1 : 1 ≤ kind) (h3 : kind ≤ 3) (hd : d ≤ 6) :
    Pure Go.Proofs.Try.prog 20 [scheme kind d 0 0 0 0] ⟨.tup [.ro (nest3 (TZ kind d)), .v (.int .i64 0)], []⟩ := by
  refine pure_sz pf eqOk_none (env_ok ptEnv rfl) fun _ => ⟨400, ?_⟩
  have hs : 1 ≤ statesN kind := by
    have hk : kind = 1 ∨ kind = 2 ∨ kind = 3 := by omega
    rcases hk with rfl | rfl | rfl <;> decide
  have h4 := statesN_le kind
  have ed : IntKind.i64.wrap ((d : Int) + 1) = ((d + 1 : Nat) : Int) := by rw [wrap64 (by omega) (by omega)]; omega
  conv => whnf
  refine ⟨_, check_pure kind d 0 0 0 0, ?_⟩
  rw [validB_ok kind d h1 h3 hd]
  conv => whnf
  refine ⟨_, newTables_pure kind d h1 h3 hd, ?_⟩
  conv => whnf
  refine wk_none ?_
  conv => whnf
  rw [show decide ((0 : Int) < ((statesN kind : Nat) : Int)) = true from by simp; omega]
  conv => whnf
  rw [ed]
  refine wk_none ?_
  conv => whnf
  rw [show decide ((0 : Int) < ((d + 1 : Nat) : Int)) = true from by simp]
  conv => whnf
  refine ⟨_, tat_pure kind d 0 0 (by omega) (by omega) (by omega) hd, ?_⟩
  conv => whnf
  refine ⟨_, clone_pure _ (row_len kind d 0 0 (by omega)), ?_⟩
  conv => whnf
  refine ⟨Nat.le_refl _, ?_⟩
  conv => whnf
  refine ⟨fun h => (by cases h), fun _ => ⟨⟨by show ((1 : Nat) : Int) * ((24 : Nat) : Int) ≤ 70368744177664; decide, by simp⟩, ?_⟩⟩
  conv => whnf
  refine gc_step ⟨[false, true, false, false, false, true, true, true, true, false, false, false, false, false, false, false, false, false, false, false, true, true, false, false, false, false, true, true], [0,2], 0⟩ (mkT 45 [(1, .pt 0 0 0 0 0), (5, tb kind d (fullR kind d) (statesN kind)), (6, .v (.slice none 0 0)), (7, .v (.int .i64 (0 : Nat))), (8, .sl 1 0 1 0 1), (20, .v (.int .i64 (statesN kind : Nat))), (21, .v (.int .i64 (0 : Nat))), (26, .v (.int .i64 (d + 1 : Nat))), (27, .v (.int .i64 (1 : Nat)))]) [schB kind d, .rw false false 0 1 (nest2 (rowsZ kind d 0 1))] [] (fun k hk => hk) ?_
  refine pt_in_0 (fun _ => none) kind d 0 (by omega) (by omega) hd _ d 1 381 (by omega) (by omega) (by omega) fun j => ?_
  conv => whnf
  refine ⟨by rw [nest2_length, rowsZ_length]; omega, ?_⟩
  have ef : ((nest2 (rowsZ kind d 0 (d + 1))).drop 0).take (d + 1) = nest2 (rowsZ kind d 0 (d + 1)) := by rw [List.drop_zero]; exact List.take_of_length_le (by rw [nest2_length, rowsZ_length]; exact Nat.le_refl _)
  rw [ef]
  refine Or.inl ?_
  conv => whnf
  refine ⟨Nat.le_refl _, ?_⟩
  conv => whnf
  refine ⟨fun h => (by cases h), fun _ => ⟨⟨by show ((1 : Nat) : Int) * ((24 : Nat) : Int) ≤ 70368744177664; decide, by simp⟩, ?_⟩⟩
  conv => whnf
  refine gc_step ⟨[false, true, false, false, false, true, true, false, false, false, false, false, false, false, false, false, false, false, false, false, true, true], [0,3], 0⟩ (mkT 45 [(1, .pt 0 0 0 0 0), (5, tb kind d (fullR kind d) (statesN kind)), (6, .sl 1 0 1 0 1), (20, .v (.int .i64 (statesN kind : Nat))), (21, .v (.int .i64 (1 : Nat)))]) [schB kind d, .rw false false 0 1 (nest3 (TP kind d 1))] [] (fun k hk => hk) ?_
  refine pt_out (fun _ => none) kind d hd _ (statesN kind - 1) 1 391 (by omega) (by omega) (by omega) fun j => ?_
  conv => whnf
  left
  conv => whnf
  refine ⟨by rw [nest3_length, TP_length]; omega, ?_⟩
  have ef : ((nest3 (TP kind d (statesN kind))).drop 0).take (statesN kind) = nest3 (TZ kind d) := by rw [List.drop_zero, ← TP_TZ]; exact List.take_of_length_le (by rw [nest3_length, TP_length]; exact Nat.le_refl _)
  rw [ef]
  conv => whnf
  try rfl
/-- What Tables hands over. -/
def tT (kind : Nat) (depth degree p q g : Int) : List (List (List Int)) := if validB kind depth degree p q g = true then TZ kind depth.toNat else []
def tE (kind : Nat) (depth degree p q g : Int) : Int := if validB kind depth degree p q g = true then 0 else 30
theorem Tables_pure (kind : Nat) (depth degree p q g : Int) :
    Pure Go.Proofs.Try.prog 20 [scheme kind depth degree p q g] ⟨.tup [.ro (nest3 (tT kind depth degree p q g)), .v (.int .i64 (tE kind depth degree p q g))], []⟩ := by
  cases hv : validB kind depth degree p q g with
  | false =>
    simp only [tT, tE, hv, Bool.false_eq_true, if_false]
    refine pure_sz pf eqOk_none (env_ok ptEnv rfl) fun _ => ⟨60, ?_⟩
    conv => whnf
    refine ⟨_, check_pure kind depth degree p q g, ?_⟩
    rw [hv]
    conv => whnf
    left
    conv => whnf
    refine Or.inl ?_
    conv => whnf
    try rfl
  | true =>
    simp only [tT, tE, hv, if_true]
    simp only [validB, decide_eq_true_eq] at hv
    obtain ⟨h1, h2, h3, h4, rfl, rfl, rfl, rfl⟩ := hv
    obtain ⟨d, rfl⟩ : ∃ d : Nat, depth = d := ⟨depth.toNat, by omega⟩
    exact Tables_ok kind d h1 h2 (by omega)
theorem Tables3_pure' (kind : Nat) (depth degree p q g : Int) :
    Pure Go.Proofs.Try.prog 21 [scheme kind depth degree p q g] ⟨.tup [.ro (nest3 (tT kind depth degree p q g)), .v (.int .i64 (tE kind depth degree p q g))], []⟩ := by
  have := Tables3_pure kind depth degree p q g
  rw [show (if validB kind depth degree p q g = true then nest3 (TZ kind depth.toNat) else []) = nest3 (tT kind depth degree p q g) from by unfold tT; split <;> rfl] at this
  exact this
theorem CheckTables_pure (kind : Nat) (depth degree p q g : Int) (T : List (List (List Int))) :
    Pure Go.Proofs.Try.prog 23 [scheme kind depth degree p q g, .ro (nest3 T)] ⟨.v (.int .i64 (cE kind depth degree p q g T)), []⟩ := by
  refine pure_sz pf eqOk_none (env_ok [20, 53] rfl) fun _ => ⟨60, ?_⟩
  have h1 := Tables_pure kind depth degree p q g
  cases hv : validB kind depth degree p q g with
  | false =>
    have e : cE kind depth degree p q g T = 30 := by simp [cE, hv]
    have e2 : tE kind depth degree p q g = 30 := by simp [tE, hv]
    rw [e]
    rw [e2] at h1
    conv => whnf
    refine ⟨_, h1, ?_⟩
    conv => whnf
    left
    conv => whnf
    try rfl
  | true =>
    have e2 : tE kind depth degree p q g = 0 := by simp [tE, hv]
    have e3 : tT kind depth degree p q g = TZ kind depth.toNat := by simp [tT, hv]
    rw [e2, e3] at h1
    have h2 := eqf3_pure (TZ kind depth.toNat) T (fun x y => eq2_pure x y)
    by_cases hT : T = TZ kind depth.toNat
    · have e : cE kind depth degree p q g T = 0 := by unfold cE; rw [if_pos hv, if_pos hT]
      rw [e]
      rw [show decide (TZ kind depth.toNat = T) = true by simp [hT]] at h2
      conv => whnf
      refine ⟨_, h1, ?_⟩
      conv => whnf
      refine ⟨_, h2, ?_⟩
      conv => whnf
      left
      conv => whnf
      try rfl
    · have e : cE kind depth degree p q g T = 100 := by unfold cE; rw [if_pos hv, if_neg hT]
      rw [e]
      rw [show decide (TZ kind depth.toNat = T) = false by simp; exact fun h => hT h.symm] at h2
      conv => whnf
      refine ⟨_, h1, ?_⟩
      conv => whnf
      refine ⟨_, h2, ?_⟩
      conv => whnf
      left
      conv => whnf
      try rfl
/-- The law's function. -/
theorem PlanTables_pure (kind : Nat) (depth degree p q g : Int) (T : List (List (List Int))) :
    Pure Go.Proofs.Try.prog 4 [scheme kind depth degree p q g, .ro (nest3 T)] ⟨.v (.bool true), []⟩ := by
  refine pure_sz pf eqOk_none (env_ok [19, 20, 21, 22, 23, 24] rfl) fun _ => ⟨60, ?_⟩
  have h0 := Great_pure T
  have h1 := Tables_pure kind depth degree p q g
  have h2 := Tables3_pure' kind depth degree p q g
  have h3 := CheckTables_pure kind depth degree p q g T
  have h4 := CheckTables3_pure kind depth degree p q g T
  generalize tT kind depth degree p q g = L at h1 h2
  generalize tE kind depth degree p q g = b at h1 h2
  generalize cE kind depth degree p q g T = c at h3 h4
  have h5 := SameTables_pure L L
  rw [show decide (L = L) = true by simp] at h5
  cases hg : greatB T with
  | true =>
    rw [hg] at h0
    conv => whnf
    refine ⟨_, h0, ?_⟩
    conv => whnf
    left
    conv => whnf
    try rfl
  | false =>
    rw [hg] at h0
    conv => whnf
    refine ⟨_, h0, ?_⟩
    conv => whnf
    refine ⟨_, h1, ?_⟩
    conv => whnf
    refine ⟨_, h2, ?_⟩
    conv => whnf
    refine Or.inl ⟨18, by kernel_rfl, ?_⟩
    conv => whnf
    refine ⟨_, h5, ?_⟩
    conv => whnf
    rw [show (b == b) = true by simp]
    conv => whnf
    refine ⟨_, h3, ?_⟩
    conv => whnf
    refine ⟨_, h4, ?_⟩
    conv => whnf
    rw [show (c == c) = true by simp]
    conv => whnf
    left
    conv => whnf
    try rfl
end Go.YtoeophdffhmpmaaE
end

section
set_option linter.unusedVariables false
set_option linter.unusedSimpArgs false
set_option maxRecDepth 100000
set_option maxHeartbeats 1000000
namespace Go.YtoeophdffhmpmaaE
open Go Go.RowKit

/-- A need's cells. -/
def needA (d r s h hp sp p q g : Int) : A := .agg [.v (.int .i64 d), .v (.int .i64 r), .v (.int .i64 s), .v (.int .i64 h), .v (.int .i64 hp), .v (.int .i64 sp), .v (.int .u64 p), .v (.int .u64 q), .v (.int .u64 g)]
def needB (d r s h hp sp : Int) : Bool := decide (0 ≤ d ∧ d ≤ 6 ∧ 0 ≤ r ∧ r ≤ ((2 ^ d.toNat : Nat) : Int) ∧ 0 ≤ s ∧ s ≤ 10000 ∧ 0 ≤ h ∧ h ≤ 1000 ∧ 0 ≤ hp ∧ hp ≤ 1000 ∧ 0 ≤ sp ∧ sp ≤ 1000)
def inB (m a : Int) : Bool := decide (0 ≤ a ∧ a ≤ m)
theorem within1_pure (m a : Int) : Pure Go.Proofs.Try.prog 59 [.v (.int .i64 m), .ro [[.v (.int .i64 a)]]] ⟨.v (.bool (inB m a)), []⟩ := by
  refine pure_sz pf eqOk_none (env_ok [] rfl) fun _ => ⟨100, ?_⟩
  conv => whnf
  refine wk_none ?_
  conv => whnf
  refine ⟨by simp [IntKind.wrap, IntKind.bits, IntKind.signed], ?_⟩
  conv => whnf
  repeat' (first
    | (refine cndK_intro (fun h => ?_) (fun h => ?_) <;> (try rw [h]) <;> conv => whnf)
    | (refine wk_none ?_; conv => whnf)
    | (refine ⟨by simp [IntKind.wrap, IntKind.bits, IntKind.signed], ?_⟩; conv => whnf))
  all_goals
    left
    conv => whnf
    refine congrArg (fun b => (⟨.v (.bool b), []⟩ : Res)) ?_
    simp only [inB]
    simp_all [IntKind.wrap, IntKind.bits, IntKind.signed]
    try omega
theorem within3_pure (m a b c : Int) : Pure Go.Proofs.Try.prog 59 [.v (.int .i64 m), .ro [[.v (.int .i64 a)], [.v (.int .i64 b)], [.v (.int .i64 c)]]] ⟨.v (.bool (inB m a && inB m b && inB m c)), []⟩ := by
  refine pure_sz pf eqOk_none (env_ok [] rfl) fun _ => ⟨100, ?_⟩
  conv => whnf
  refine wk_none ?_
  conv => whnf
  refine ⟨by simp [IntKind.wrap, IntKind.bits, IntKind.signed], ?_⟩
  conv => whnf
  repeat' (first
    | (refine cndK_intro (fun h => ?_) (fun h => ?_) <;> (try rw [h]) <;> conv => whnf)
    | (refine wk_none ?_; conv => whnf)
    | (refine ⟨by simp [IntKind.wrap, IntKind.bits, IntKind.signed], ?_⟩; conv => whnf))
  all_goals
    left
    conv => whnf
    refine congrArg (fun b => (⟨.v (.bool b), []⟩ : Res)) ?_
    simp only [inB]
    simp_all [IntKind.wrap, IntKind.bits, IntKind.signed]
    try omega
theorem needB_d {d r s h hp sp : Int} (hd : ¬ (0 ≤ d ∧ d ≤ 6)) : needB d r s h hp sp = false := by
  unfold needB; simp only [decide_eq_false_iff_not]; intro h; exact hd ⟨h.1, h.2.1⟩
theorem needB_d' (d : Nat) (r s h hp sp : Int) (hd : d ≤ 6) : needB d r s h hp sp = (inB ((2 ^ d : Nat) : Int) r && (inB 10000 s && (inB 1000 h && inB 1000 hp && inB 1000 sp))) := by
  unfold needB inB
  rw [Bool.eq_iff_iff]
  simp only [decide_eq_true_eq, Bool.and_eq_true, Int.toNat_natCast]
  omega
theorem CheckNeed_pure (d r s h hp sp p q g : Int) : Pure Go.Proofs.Try.prog 29 [needA d r s h hp sp p q g] ⟨.v (.int .i64 (if needB d r s h hp sp = true then 0 else 2)), []⟩ := by
  refine pure_sz pf eqOk_none (env_ok [59] rfl) fun _ => ⟨60, ?_⟩
  have h1 := within1_pure 6 d
  have h3 := within1_pure 10000 s
  have h4 := within3_pure 1000 h hp sp
  by_cases hd : 0 ≤ d ∧ d ≤ 6
  · obtain ⟨d, rfl⟩ : ∃ k : Nat, d = k := ⟨d.toNat, by omega⟩
    rw [show inB 6 (d : Int) = true from by unfold inB; simpa using hd] at h1
    have h2 := within1_pure ((2 ^ d : Nat) : Int) r
    rw [needB_d' d r s h hp sp (by omega)]
    generalize inB ((2 ^ d : Nat) : Int) r = b2 at h2 ⊢
    generalize inB 10000 s = b3 at h3 ⊢
    generalize (inB 1000 h && inB 1000 hp && inB 1000 sp) = b4 at h4 ⊢
    conv => whnf
    refine Or.inl ⟨33, by kernel_rfl, ?_⟩
    conv => whnf
    refine ⟨Nat.le_refl _, ?_⟩
    conv => whnf
    refine ⟨_, h1, ?_⟩
    conv => whnf
    refine ⟨by omega, ?_⟩
    conv => whnf
    rw [shl1 (h := d) (by omega)]
    refine ⟨Nat.le_refl _, ?_⟩
    conv => whnf
    refine ⟨_, h2, ?_⟩
    cases b2 with
    | false =>
      conv => whnf
      left
      conv => whnf
      try rfl
    | true =>
      conv => whnf
      refine ⟨Nat.le_refl _, ?_⟩
      conv => whnf
      refine ⟨_, h3, ?_⟩
      cases b3 with
      | false =>
        conv => whnf
        left
        conv => whnf
        try rfl
      | true =>
        conv => whnf
        refine ⟨Nat.le_refl _, ?_⟩
        conv => whnf
        refine ⟨_, h4, ?_⟩
        cases b4 with
        | false =>
          conv => whnf
          left
          conv => whnf
          try rfl
        | true =>
          conv => whnf
          left
          conv => whnf
          try rfl
  · rw [needB_d hd]
    rw [show inB 6 d = false from by unfold inB; simpa using hd] at h1
    conv => whnf
    refine Or.inl ⟨33, by kernel_rfl, ?_⟩
    conv => whnf
    refine ⟨Nat.le_refl _, ?_⟩
    conv => whnf
    refine ⟨_, h1, ?_⟩
    conv => whnf
    left
    conv => whnf
    try rfl
theorem ValidNeed_pure (d r s h hp sp p q g : Int) : Pure Go.Proofs.Try.prog 56 [needA d r s h hp sp p q g] ⟨.v (.bool (needB d r s h hp sp)), []⟩ := by
  refine pure_sz pf eqOk_none (env_ok [77] rfl) fun hz => ⟨60, ?_⟩
  clear hz
  by_cases hd : 0 ≤ d ∧ d ≤ 6
  · obtain ⟨d, rfl⟩ : ∃ k : Nat, d = k := ⟨d.toNat, by omega⟩
    have hr := receivers_pure d (by omega)
    rw [needB_d' d r s h hp sp (by omega)]
    conv => whnf
    refine Or.inl ⟨31, by kernel_rfl, ?_⟩
    conv => whnf
    repeat' (first
      | (refine cndK_intro (fun h => ?_) (fun h => ?_) <;> (try rw [h]) <;> conv => whnf)
      | (refine ⟨_, hr, ?_⟩; conv => whnf))
    all_goals
      clear hr
      left
      conv => whnf
      refine congrArg (fun b => (⟨.v (.bool b), []⟩ : Res)) ?_
      rw [Bool.eq_iff_iff]
      simp only [inB, decide_eq_true_eq, decide_eq_false_iff_not, Bool.and_eq_true, Bool.false_eq_true, iff_false, false_iff] at *
      omega
  · rw [needB_d hd]
    conv => whnf
    refine Or.inl ⟨31, by kernel_rfl, ?_⟩
    conv => whnf
    refine cndK_intro (fun h => ?_) (fun h => ?_)
    · rw [h]
      conv => whnf
      left
      conv => whnf
      try rfl
    · rw [h]
      conv => whnf
      refine cndK_intro (fun h2 => ?_) (fun h2 => ?_)
      · rw [h2]
        conv => whnf
        left
        conv => whnf
        try rfl
      · exfalso
        simp only [decide_eq_false_iff_not] at h h2
        omega
theorem CheckNeed3_pure (d r s h hp sp p q g : Int) : Pure Go.Proofs.Try.prog 30 [needA d r s h hp sp p q g] ⟨.v (.int .i64 (if needB d r s h hp sp = true then 0 else 2)), []⟩ := by
  refine pure_sz pf eqOk_none (env_ok [56] rfl) fun _ => ⟨60, ?_⟩
  have h1 := ValidNeed_pure d r s h hp sp p q g
  cases hn : needB d r s h hp sp with
  | true =>
    rw [hn] at h1
    conv => whnf
    refine ⟨_, h1, ?_⟩
    conv => whnf
    left
    conv => whnf
    try rfl
  | false =>
    rw [hn] at h1
    conv => whnf
    refine ⟨_, h1, ?_⟩
    conv => whnf
    left
    conv => whnf
    try rfl
end Go.YtoeophdffhmpmaaE
end
