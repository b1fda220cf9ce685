/- headendref10: TablesOf. -/
import Derived.Test.YtoeophdffhmpmaaR3
set_option linter.unusedVariables false
set_option linter.unusedSimpArgs false
set_option maxRecDepth 100000
set_option maxHeartbeats 4000000
namespace Go.YtoeophdffhmpmaaE
open Go Go.RowKit

def rowsZ (kind d s h : Nat) : List (List Int) := (List.range h).map fun g => lvl kind d g s
def TZ (kind d : Nat) : List (List (List Int)) := (List.range (statesN kind)).map fun s => rowsZ kind d s (d + 1)
theorem rowsZ_succ (kind d s h : Nat) : rowsZ kind d s (h + 1) = rowsZ kind d s h ++ [lvl kind d h s] := by simp [rowsZ, List.range_succ]
def toEnv : List Nat := [79, 80, 81]
theorem wk_cv {nb nl : Nat} {ts : List A} {hp : List Blk} {lp : List Lp} {k : List A → List Blk → List Lp → Prop} (b d : Nat) (bs : List Nat) (hp1 : List Blk) {fz fz1 nx : Bool} {ver es : Nat} {els els2 : List (List A)}
    (hb : hp.getD b .hole = .rw fz nx ver es els) (hc : RowsF (convD d hp) els els2) (hbs : ∀ x ∈ blocksW (blocksD d hp) els, x ∈ bs) (hf : freezeK hp bs fun hp => hp = hp1) (hb1 : hp1.getD b .hole = .rw fz1 nx ver es els)
    (hk : ∃ ts2 hp2 lp2, Wk nb nl ts (hp1.set b (.rw fz1 false ver es els2)) lp ts2 hp2 lp2 ∧ k ts2 hp2 lp2) : ∃ ts2 hp2 lp2, Wk nb nl ts hp lp ts2 hp2 lp2 ∧ k ts2 hp2 lp2 := by
  obtain ⟨ts2, hp2, lp2, h1, h2⟩ := hk
  exact ⟨ts2, hp2, lp2, .trans (.cv b d bs hb hc hbs hf hb1) h1, h2⟩
theorem rowsF_snoc' (f : A → (A → Prop) → Prop) (L : List (List Int)) (xs : List Int) (p v len : Nat) (h1 : ∀ e, f (.ro e) (fun x => x = .ro e)) (h2 : f (.sl p v 1 0 len) (fun x => x = .ro (ints xs))) :
    RowsF f (nest2 L ++ [[.sl p v 1 0 len]]) (nest2 (L ++ [xs])) := by
  refine ⟨by simp [nest2], fun i hi => ?_⟩
  have e : nest2 (L ++ [xs]) = nest2 L ++ [[.ro (ints xs)]] := by simp [nest2]
  rw [e]
  by_cases h : i < (nest2 L).length
  · have e1 : ∀ x : List A, (nest2 L ++ [x]).getD i [] = (nest2 L).getD i [] := fun x => by simp [List.getD_eq_getElem?_getD, List.getElem?_append_left h]
    rw [e1, e1]
    have hn : i < L.length := by simpa [nest2] using h
    have e2 : (nest2 L).getD i [] = [.ro (ints L[i])] := by simp [List.getD_eq_getElem?_getD, nest2, hn]
    rw [e2]
    refine ⟨rfl, fun j hj => ?_⟩
    have : j = 0 := by simp at hj; omega
    subst this
    exact h1 (ints L[i])
  · have hi' : i = (nest2 L).length := by simp [nest2] at hi h ⊢; omega
    have e1 : ∀ x : List A, (nest2 L ++ [x]).getD i [] = x := fun x => by simp [List.getD_eq_getElem?_getD, hi']
    rw [e1, e1]
    refine ⟨rfl, fun j hj => ?_⟩
    have : j = 0 := by simp at hj; omega
    subst this
    exact h2
theorem rowsF_snoc (hp : List Blk) (L : List (List Int)) (xs : List Int) (p v len : Nat) {fz : Bool} (hb : hp.getD p .hole = .rw fz false v 1 (ints xs)) (hl : len = xs.length) :
    RowsF (convD 0 hp) (nest2 L ++ [[.sl p v 1 0 len]]) (nest2 (L ++ [xs])) := by
  refine rowsF_snoc' _ L xs p v len (fun e => rfl) ?_
  change conv1 hp (.sl p v 1 0 len) fun x => x = .ro (ints xs)
  unfold conv1
  dsimp only
  rw [hb]
  dsimp only
  rw [show (v == v && 1 == 1) = true by simp]
  refine ⟨by rw [ints_length]; omega, ?_⟩
  rw [ints_full hl]
theorem blocksW_snoc (L : List (List Int)) (p v len : Nat) : blocksW blocks1 (nest2 L ++ [[.sl p v 1 0 len]]) = [p] := by
  induction L with
  | nil => rfl
  | cons x L ih => exact ih
theorem nest_last (L : List (List Int)) (a : List A) (n : Nat) (h : n = L.length) : (nest2 L ++ [a])[n]? = some a := by subst h; simp [nest2]
theorem rowsZ_length (kind d s h : Nat) : (rowsZ kind d s h).length = h := by simp [rowsZ]
theorem to_rows (hp : List Blk) (L : List (List Int)) (xs : List Int) (p v len n : Nat) {fz : Bool} (hb : hp.getD p .hole = .rw fz false v 1 (ints xs)) (hl : len = xs.length) (hn : n = L.length + 1) :
    RowsF (convD 1 hp) (((nest2 L ++ [[A.sl p v 1 0 len]]).drop 0).take n) (nest2 (L ++ [xs])) := by
  rw [List.drop_zero, List.take_of_length_le (by simp [nest2]; omega)]
  refine rowsF_snoc' _ L xs p v len (fun e => rfl) ?_
  change (match hp.getD p .hole with
        | .rw _ nx ver' es' els => match nx with
          | false => chk (v == ver' && 1 == es') (0 + len ≤ els.length ∧ A.ro ((els.drop 0).take len) = .ro (ints xs))
          | true => _
        | _ => False)
  rw [hb]
  show chk (v == v && 1 == 1) _
  rw [show (v == v && 1 == 1) = true by simp]
  refine ⟨by rw [ints_length]; omega, ?_⟩
  rw [ints_full hl]
theorem rowsZ_get (kind d s g : Nat) (x : List Int) : (rowsZ kind d s (g + 1) ++ [x])[g]? = some (lvl kind d g s) := by
  rw [List.getElem?_append_left (by rw [rowsZ_length]; omega)]
  simp [rowsZ]
theorem to_repl (kind d h s : Nat) : List.replicate ((2 ^ h + 1 : Nat) : Int).toNat [A.v (.int .i64 0)] = ints (fillL (lvl kind d h s) 0) := by
  rw [fillL_none, lvl_length, Int.toNat_natCast]; simp [ints]
theorem to_set (kind d st h k pp : Nat) (hpk : pp = k) (v : Int) (hv : (lvl kind d h st)[k]? = some v) :
    (ints (fillL (lvl kind d h st) pp)).set (0 + (k : Int).toNat) [.v (.int .i64 v)] = ints (fillL (lvl kind d h st) (pp + 1)) := by
  subst hpk
  rw [Int.toNat_natCast, Nat.zero_add, ints_set, fillL_set _ _ _ hv]
theorem to_get (kind d st h k pp : Nat) (hk : k < 2 ^ h + 1) : ∃ v, (ints (fillL (lvl kind d h st) pp))[0 + (k : Int).toNat]? = some [.v (.int .i64 v)] := by
  rw [Int.toNat_natCast, Nat.zero_add]
  exact ⟨_, ints_get _ _ (by rw [fillL_length, lvl_length]; omega)⟩
def toHp1 (d h : Nat) : List Blk := [.bx false [.v (.int .u8 1), .v (.int .i64 d), .v (.int .i64 0), .v (.int .u64 0), .v (.int .u64 0), .v (.int .u64 0)], .rw false true 0 1 [[.sl 2 0 1 0 h]], .rw false false 0 1 (nest2 (rowsZ 1 d 0 h))]
def toHm1 (d h : Nat) : List Blk := [.bx false [.v (.int .u8 1), .v (.int .i64 d), .v (.int .i64 0), .v (.int .u64 0), .v (.int .u64 0), .v (.int .u64 0)], .rw false true 0 1 [[.sl 2 1 1 0 (h + 1)]], .rw false true 1 1 (nest2 (rowsZ 1 d 0 h) ++ [[A.sl 3 0 1 0 (2 ^ h + 1)]]), .rw false false 0 1 (ints (lvl 1 d h 0)), .rw false true 0 1 [[.sl 3 0 1 0 (2 ^ h + 1)]]]
def toHf1 (d h : Nat) (p : Nat → Nat) : List Blk := [.bx false [.v (.int .u8 1), .v (.int .i64 d), .v (.int .i64 0), .v (.int .u64 0), .v (.int .u64 0), .v (.int .u64 0)], .rw false true 0 1 [[.sl 2 1 1 0 (h + 1)]], .rw false true 1 1 (nest2 (rowsZ 1 d 0 h) ++ [[A.sl 3 0 1 0 (2 ^ h + 1)]]), .rw false false 0 1 (ints (fillL (lvl 1 d h 0) (p 0))), .rw false true 0 1 [[.sl 3 0 1 0 (2 ^ h + 1)]]]
def toHp2 (d h : Nat) : List Blk := [.bx false [.v (.int .u8 2), .v (.int .i64 d), .v (.int .i64 0), .v (.int .u64 0), .v (.int .u64 0), .v (.int .u64 0)], .rw false true 0 1 [[.sl 2 0 1 0 h], [.sl 3 0 1 0 h]], .rw false false 0 1 (nest2 (rowsZ 2 d 0 h)), .rw false false 0 1 (nest2 (rowsZ 2 d 1 h))]
def toHm2 (d h : Nat) : List Blk := [.bx false [.v (.int .u8 2), .v (.int .i64 d), .v (.int .i64 0), .v (.int .u64 0), .v (.int .u64 0), .v (.int .u64 0)], .rw false true 0 1 [[.sl 2 1 1 0 (h + 1)], [.sl 3 1 1 0 (h + 1)]], .rw false true 1 1 (nest2 (rowsZ 2 d 0 h) ++ [[A.sl 4 0 1 0 (2 ^ h + 1)]]), .rw false true 1 1 (nest2 (rowsZ 2 d 1 h) ++ [[A.sl 6 0 1 0 (2 ^ h + 1)]]), .rw false false 0 1 (ints (lvl 2 d h 0)), .rw false true 0 1 [[.sl 4 0 1 0 (2 ^ h + 1)]], .rw false false 0 1 (ints (lvl 2 d h 1)), .rw false true 0 1 [[.sl 6 0 1 0 (2 ^ h + 1)]]]
def toHf2 (d h : Nat) (p : Nat → Nat) : List Blk := [.bx false [.v (.int .u8 2), .v (.int .i64 d), .v (.int .i64 0), .v (.int .u64 0), .v (.int .u64 0), .v (.int .u64 0)], .rw false true 0 1 [[.sl 2 1 1 0 (h + 1)], [.sl 3 1 1 0 (h + 1)]], .rw false true 1 1 (nest2 (rowsZ 2 d 0 h) ++ [[A.sl 4 0 1 0 (2 ^ h + 1)]]), .rw false true 1 1 (nest2 (rowsZ 2 d 1 h) ++ [[A.sl 6 0 1 0 (2 ^ h + 1)]]), .rw false false 0 1 (ints (fillL (lvl 2 d h 0) (p 0))), .rw false true 0 1 [[.sl 4 0 1 0 (2 ^ h + 1)]], .rw false false 0 1 (ints (fillL (lvl 2 d h 1) (p 1))), .rw false true 0 1 [[.sl 6 0 1 0 (2 ^ h + 1)]]]
def toHp3 (d h : Nat) : List Blk := [.bx false [.v (.int .u8 3), .v (.int .i64 d), .v (.int .i64 0), .v (.int .u64 0), .v (.int .u64 0), .v (.int .u64 0)], .rw false true 0 1 [[.sl 2 0 1 0 h], [.sl 3 0 1 0 h], [.sl 4 0 1 0 h], [.sl 5 0 1 0 h]], .rw false false 0 1 (nest2 (rowsZ 3 d 0 h)), .rw false false 0 1 (nest2 (rowsZ 3 d 1 h)), .rw false false 0 1 (nest2 (rowsZ 3 d 2 h)), .rw false false 0 1 (nest2 (rowsZ 3 d 3 h))]
def toHm3 (d h : Nat) : List Blk := [.bx false [.v (.int .u8 3), .v (.int .i64 d), .v (.int .i64 0), .v (.int .u64 0), .v (.int .u64 0), .v (.int .u64 0)], .rw false true 0 1 [[.sl 2 1 1 0 (h + 1)], [.sl 3 1 1 0 (h + 1)], [.sl 4 1 1 0 (h + 1)], [.sl 5 1 1 0 (h + 1)]], .rw false true 1 1 (nest2 (rowsZ 3 d 0 h) ++ [[A.sl 6 0 1 0 (2 ^ h + 1)]]), .rw false true 1 1 (nest2 (rowsZ 3 d 1 h) ++ [[A.sl 8 0 1 0 (2 ^ h + 1)]]), .rw false true 1 1 (nest2 (rowsZ 3 d 2 h) ++ [[A.sl 10 0 1 0 (2 ^ h + 1)]]), .rw false true 1 1 (nest2 (rowsZ 3 d 3 h) ++ [[A.sl 12 0 1 0 (2 ^ h + 1)]]), .rw false false 0 1 (ints (lvl 3 d h 0)), .rw false true 0 1 [[.sl 6 0 1 0 (2 ^ h + 1)]], .rw false false 0 1 (ints (lvl 3 d h 1)), .rw false true 0 1 [[.sl 8 0 1 0 (2 ^ h + 1)]], .rw false false 0 1 (ints (lvl 3 d h 2)), .rw false true 0 1 [[.sl 10 0 1 0 (2 ^ h + 1)]], .rw false false 0 1 (ints (lvl 3 d h 3)), .rw false true 0 1 [[.sl 12 0 1 0 (2 ^ h + 1)]]]
def toHf3 (d h : Nat) (p : Nat → Nat) : List Blk := [.bx false [.v (.int .u8 3), .v (.int .i64 d), .v (.int .i64 0), .v (.int .u64 0), .v (.int .u64 0), .v (.int .u64 0)], .rw false true 0 1 [[.sl 2 1 1 0 (h + 1)], [.sl 3 1 1 0 (h + 1)], [.sl 4 1 1 0 (h + 1)], [.sl 5 1 1 0 (h + 1)]], .rw false true 1 1 (nest2 (rowsZ 3 d 0 h) ++ [[A.sl 6 0 1 0 (2 ^ h + 1)]]), .rw false true 1 1 (nest2 (rowsZ 3 d 1 h) ++ [[A.sl 8 0 1 0 (2 ^ h + 1)]]), .rw false true 1 1 (nest2 (rowsZ 3 d 2 h) ++ [[A.sl 10 0 1 0 (2 ^ h + 1)]]), .rw false true 1 1 (nest2 (rowsZ 3 d 3 h) ++ [[A.sl 12 0 1 0 (2 ^ h + 1)]]), .rw false false 0 1 (ints (fillL (lvl 3 d h 0) (p 0))), .rw false true 0 1 [[.sl 6 0 1 0 (2 ^ h + 1)]], .rw false false 0 1 (ints (fillL (lvl 3 d h 1) (p 1))), .rw false true 0 1 [[.sl 8 0 1 0 (2 ^ h + 1)]], .rw false false 0 1 (ints (fillL (lvl 3 d h 2) (p 2))), .rw false true 0 1 [[.sl 10 0 1 0 (2 ^ h + 1)]], .rw false false 0 1 (ints (fillL (lvl 3 d h 3) (p 3))), .rw false true 0 1 [[.sl 12 0 1 0 (2 ^ h + 1)]]]
theorem to_end_1 (d h : Nat) {k : List A → List Blk → List Lp → Prop} (i : Int) (hk : k (mkT 90 [(1, .pt 0 0 0 0 0), (3, .sl 1 0 1 0 1), (4, .v (.int .i64 i))]) (toHp1 d (h + 1)) []) :
    ∃ ts2 hp2 lp2, Wk 0 0 (mkT 90 [(1, .pt 0 0 0 0 0), (3, .sl 1 0 1 0 1), (4, .v (.int .i64 i))]) (toHm1 d h) [] ts2 hp2 lp2 ∧ k ts2 hp2 lp2 := by
  refine wk_cv 2 0 [3] [.bx false [.v (.int .u8 1), .v (.int .i64 d), .v (.int .i64 0), .v (.int .u64 0), .v (.int .u64 0), .v (.int .u64 0)], .rw false true 0 1 [[.sl 2 1 1 0 (h + 1)]], .rw false true 1 1 (nest2 (rowsZ 1 d 0 h) ++ [[A.sl 3 0 1 0 (2 ^ h + 1)]]), .rw true false 0 1 (ints (lvl 1 d h 0)), .rw false true 0 1 [[.sl 3 0 1 0 (2 ^ h + 1)]]] rfl (rowsF_snoc _ (rowsZ 1 d 0 h) (lvl 1 d h 0) 3 0 (2 ^ h + 1) rfl (lvl_length ..).symm) (fun x hx => by rw [← blocksW_snoc (rowsZ 1 d 0 h) 3 0 (2 ^ h + 1)]; exact hx) rfl rfl ?_
  refine gc_step ⟨[false, true, false, true, true], [0,1,2], 0⟩ (mkT 90 [(1, .pt 0 0 0 0 0), (3, .sl 1 0 1 0 1), (4, .v (.int .i64 i))]) (toHp1 d (h + 1)) [] (fun k hk => ?_) hk
  unfold toHp1 at hk
  rw [rowsZ_succ 1 d 0 h] at hk
  exact hk
def toHz1 (d : Nat) : List Blk := [.bx false [.v (.int .u8 1), .v (.int .i64 d), .v (.int .i64 0), .v (.int .u64 0), .v (.int .u64 0), .v (.int .u64 0)], .rw false true 0 1 [[.sl 3 0 1 0 1]], .rw false false 0 1 (ints (lvl 1 d 0 0)), .rw false true 0 1 (nest2 (rowsZ 1 d 0 0) ++ [[A.sl 2 0 1 0 (2 ^ 0 + 1)]])]
theorem to_endz_1 (d : Nat) {k : List A → List Blk → List Lp → Prop} (i : Int) (hk : k (mkT 90 [(1, .pt 0 0 0 0 0), (3, .sl 1 0 1 0 1), (4, .v (.int .i64 i))]) (toHp1 d 1) []) :
    ∃ ts2 hp2 lp2, Wk 0 0 (mkT 90 [(1, .pt 0 0 0 0 0), (3, .sl 1 0 1 0 1), (4, .v (.int .i64 i))]) (toHz1 d) [] ts2 hp2 lp2 ∧ k ts2 hp2 lp2 := by
  refine wk_cv 3 0 [2] [.bx false [.v (.int .u8 1), .v (.int .i64 d), .v (.int .i64 0), .v (.int .u64 0), .v (.int .u64 0), .v (.int .u64 0)], .rw false true 0 1 [[.sl 3 0 1 0 1]], .rw true false 0 1 (ints (lvl 1 d 0 0)), .rw false true 0 1 (nest2 (rowsZ 1 d 0 0) ++ [[A.sl 2 0 1 0 (2 ^ 0 + 1)]])] rfl (rowsF_snoc _ (rowsZ 1 d 0 0) (lvl 1 d 0 0) 2 0 (2 ^ 0 + 1) rfl (lvl_length ..).symm) (fun x hx => by rw [← blocksW_snoc (rowsZ 1 d 0 0) 2 0 (2 ^ 0 + 1)]; exact hx) rfl rfl ?_
  refine gc_step ⟨[false, true, false, true, true], [0,1,3], 0⟩ (mkT 90 [(1, .pt 0 0 0 0 0), (3, .sl 1 0 1 0 1), (4, .v (.int .i64 i))]) (toHp1 d 1) [] (fun k hk => ?_) hk
  unfold toHp1 at hk
  rw [rowsZ_succ 1 d 0 0] at hk
  exact hk
theorem to_end_2 (d h : Nat) {k : List A → List Blk → List Lp → Prop} (i : Int) (hk : k (mkT 90 [(1, .pt 0 0 0 0 0), (3, .sl 1 0 1 0 2), (4, .v (.int .i64 i))]) (toHp2 d (h + 1)) []) :
    ∃ ts2 hp2 lp2, Wk 0 0 (mkT 90 [(1, .pt 0 0 0 0 0), (3, .sl 1 0 1 0 2), (4, .v (.int .i64 i))]) (toHm2 d h) [] ts2 hp2 lp2 ∧ k ts2 hp2 lp2 := by
  refine wk_cv 2 0 [4] [.bx false [.v (.int .u8 2), .v (.int .i64 d), .v (.int .i64 0), .v (.int .u64 0), .v (.int .u64 0), .v (.int .u64 0)], .rw false true 0 1 [[.sl 2 1 1 0 (h + 1)], [.sl 3 1 1 0 (h + 1)]], .rw false true 1 1 (nest2 (rowsZ 2 d 0 h) ++ [[A.sl 4 0 1 0 (2 ^ h + 1)]]), .rw false true 1 1 (nest2 (rowsZ 2 d 1 h) ++ [[A.sl 6 0 1 0 (2 ^ h + 1)]]), .rw true false 0 1 (ints (lvl 2 d h 0)), .rw false true 0 1 [[.sl 4 0 1 0 (2 ^ h + 1)]], .rw false false 0 1 (ints (lvl 2 d h 1)), .rw false true 0 1 [[.sl 6 0 1 0 (2 ^ h + 1)]]] rfl (rowsF_snoc _ (rowsZ 2 d 0 h) (lvl 2 d h 0) 4 0 (2 ^ h + 1) rfl (lvl_length ..).symm) (fun x hx => by rw [← blocksW_snoc (rowsZ 2 d 0 h) 4 0 (2 ^ h + 1)]; exact hx) rfl rfl ?_
  refine wk_cv 3 0 [6] [.bx false [.v (.int .u8 2), .v (.int .i64 d), .v (.int .i64 0), .v (.int .u64 0), .v (.int .u64 0), .v (.int .u64 0)], .rw false true 0 1 [[.sl 2 1 1 0 (h + 1)], [.sl 3 1 1 0 (h + 1)]], .rw false false 1 1 (nest2 (rowsZ 2 d 0 h ++ [lvl 2 d h 0])), .rw false true 1 1 (nest2 (rowsZ 2 d 1 h) ++ [[A.sl 6 0 1 0 (2 ^ h + 1)]]), .rw true false 0 1 (ints (lvl 2 d h 0)), .rw false true 0 1 [[.sl 4 0 1 0 (2 ^ h + 1)]], .rw true false 0 1 (ints (lvl 2 d h 1)), .rw false true 0 1 [[.sl 6 0 1 0 (2 ^ h + 1)]]] rfl (rowsF_snoc _ (rowsZ 2 d 1 h) (lvl 2 d h 1) 6 0 (2 ^ h + 1) rfl (lvl_length ..).symm) (fun x hx => by rw [← blocksW_snoc (rowsZ 2 d 1 h) 6 0 (2 ^ h + 1)]; exact hx) rfl rfl ?_
  refine gc_step ⟨[false, true, false, true, true], [0,1,2,3], 0⟩ (mkT 90 [(1, .pt 0 0 0 0 0), (3, .sl 1 0 1 0 2), (4, .v (.int .i64 i))]) (toHp2 d (h + 1)) [] (fun k hk => ?_) hk
  unfold toHp2 at hk
  rw [rowsZ_succ 2 d 0 h] at hk
  rw [rowsZ_succ 2 d 1 h] at hk
  exact hk
def toHz2 (d : Nat) : List Blk := [.bx false [.v (.int .u8 2), .v (.int .i64 d), .v (.int .i64 0), .v (.int .u64 0), .v (.int .u64 0), .v (.int .u64 0)], .rw false true 0 1 [[.sl 3 0 1 0 1], [.sl 5 0 1 0 1]], .rw false false 0 1 (ints (lvl 2 d 0 0)), .rw false true 0 1 (nest2 (rowsZ 2 d 0 0) ++ [[A.sl 2 0 1 0 (2 ^ 0 + 1)]]), .rw false false 0 1 (ints (lvl 2 d 0 1)), .rw false true 0 1 (nest2 (rowsZ 2 d 1 0) ++ [[A.sl 4 0 1 0 (2 ^ 0 + 1)]])]
theorem to_endz_2 (d : Nat) {k : List A → List Blk → List Lp → Prop} (i : Int) (hk : k (mkT 90 [(1, .pt 0 0 0 0 0), (3, .sl 1 0 1 0 2), (4, .v (.int .i64 i))]) (toHp2 d 1) []) :
    ∃ ts2 hp2 lp2, Wk 0 0 (mkT 90 [(1, .pt 0 0 0 0 0), (3, .sl 1 0 1 0 2), (4, .v (.int .i64 i))]) (toHz2 d) [] ts2 hp2 lp2 ∧ k ts2 hp2 lp2 := by
  refine wk_cv 3 0 [2] [.bx false [.v (.int .u8 2), .v (.int .i64 d), .v (.int .i64 0), .v (.int .u64 0), .v (.int .u64 0), .v (.int .u64 0)], .rw false true 0 1 [[.sl 3 0 1 0 1], [.sl 5 0 1 0 1]], .rw true false 0 1 (ints (lvl 2 d 0 0)), .rw false true 0 1 (nest2 (rowsZ 2 d 0 0) ++ [[A.sl 2 0 1 0 (2 ^ 0 + 1)]]), .rw false false 0 1 (ints (lvl 2 d 0 1)), .rw false true 0 1 (nest2 (rowsZ 2 d 1 0) ++ [[A.sl 4 0 1 0 (2 ^ 0 + 1)]])] rfl (rowsF_snoc _ (rowsZ 2 d 0 0) (lvl 2 d 0 0) 2 0 (2 ^ 0 + 1) rfl (lvl_length ..).symm) (fun x hx => by rw [← blocksW_snoc (rowsZ 2 d 0 0) 2 0 (2 ^ 0 + 1)]; exact hx) rfl rfl ?_
  refine wk_cv 5 0 [4] [.bx false [.v (.int .u8 2), .v (.int .i64 d), .v (.int .i64 0), .v (.int .u64 0), .v (.int .u64 0), .v (.int .u64 0)], .rw false true 0 1 [[.sl 3 0 1 0 1], [.sl 5 0 1 0 1]], .rw true false 0 1 (ints (lvl 2 d 0 0)), .rw false false 0 1 (nest2 (rowsZ 2 d 0 0 ++ [lvl 2 d 0 0])), .rw true false 0 1 (ints (lvl 2 d 0 1)), .rw false true 0 1 (nest2 (rowsZ 2 d 1 0) ++ [[A.sl 4 0 1 0 (2 ^ 0 + 1)]])] rfl (rowsF_snoc _ (rowsZ 2 d 1 0) (lvl 2 d 0 1) 4 0 (2 ^ 0 + 1) rfl (lvl_length ..).symm) (fun x hx => by rw [← blocksW_snoc (rowsZ 2 d 1 0) 4 0 (2 ^ 0 + 1)]; exact hx) rfl rfl ?_
  refine gc_step ⟨[false, true, false, true, true], [0,1,3,5], 0⟩ (mkT 90 [(1, .pt 0 0 0 0 0), (3, .sl 1 0 1 0 2), (4, .v (.int .i64 i))]) (toHp2 d 1) [] (fun k hk => ?_) hk
  unfold toHp2 at hk
  rw [rowsZ_succ 2 d 0 0] at hk
  rw [rowsZ_succ 2 d 1 0] at hk
  exact hk
theorem to_end_3 (d h : Nat) {k : List A → List Blk → List Lp → Prop} (i : Int) (hk : k (mkT 90 [(1, .pt 0 0 0 0 0), (3, .sl 1 0 1 0 4), (4, .v (.int .i64 i))]) (toHp3 d (h + 1)) []) :
    ∃ ts2 hp2 lp2, Wk 0 0 (mkT 90 [(1, .pt 0 0 0 0 0), (3, .sl 1 0 1 0 4), (4, .v (.int .i64 i))]) (toHm3 d h) [] ts2 hp2 lp2 ∧ k ts2 hp2 lp2 := by
  refine wk_cv 2 0 [6] [.bx false [.v (.int .u8 3), .v (.int .i64 d), .v (.int .i64 0), .v (.int .u64 0), .v (.int .u64 0), .v (.int .u64 0)], .rw false true 0 1 [[.sl 2 1 1 0 (h + 1)], [.sl 3 1 1 0 (h + 1)], [.sl 4 1 1 0 (h + 1)], [.sl 5 1 1 0 (h + 1)]], .rw false true 1 1 (nest2 (rowsZ 3 d 0 h) ++ [[A.sl 6 0 1 0 (2 ^ h + 1)]]), .rw false true 1 1 (nest2 (rowsZ 3 d 1 h) ++ [[A.sl 8 0 1 0 (2 ^ h + 1)]]), .rw false true 1 1 (nest2 (rowsZ 3 d 2 h) ++ [[A.sl 10 0 1 0 (2 ^ h + 1)]]), .rw false true 1 1 (nest2 (rowsZ 3 d 3 h) ++ [[A.sl 12 0 1 0 (2 ^ h + 1)]]), .rw true false 0 1 (ints (lvl 3 d h 0)), .rw false true 0 1 [[.sl 6 0 1 0 (2 ^ h + 1)]], .rw false false 0 1 (ints (lvl 3 d h 1)), .rw false true 0 1 [[.sl 8 0 1 0 (2 ^ h + 1)]], .rw false false 0 1 (ints (lvl 3 d h 2)), .rw false true 0 1 [[.sl 10 0 1 0 (2 ^ h + 1)]], .rw false false 0 1 (ints (lvl 3 d h 3)), .rw false true 0 1 [[.sl 12 0 1 0 (2 ^ h + 1)]]] rfl (rowsF_snoc _ (rowsZ 3 d 0 h) (lvl 3 d h 0) 6 0 (2 ^ h + 1) rfl (lvl_length ..).symm) (fun x hx => by rw [← blocksW_snoc (rowsZ 3 d 0 h) 6 0 (2 ^ h + 1)]; exact hx) rfl rfl ?_
  refine wk_cv 3 0 [8] [.bx false [.v (.int .u8 3), .v (.int .i64 d), .v (.int .i64 0), .v (.int .u64 0), .v (.int .u64 0), .v (.int .u64 0)], .rw false true 0 1 [[.sl 2 1 1 0 (h + 1)], [.sl 3 1 1 0 (h + 1)], [.sl 4 1 1 0 (h + 1)], [.sl 5 1 1 0 (h + 1)]], .rw false false 1 1 (nest2 (rowsZ 3 d 0 h ++ [lvl 3 d h 0])), .rw false true 1 1 (nest2 (rowsZ 3 d 1 h) ++ [[A.sl 8 0 1 0 (2 ^ h + 1)]]), .rw false true 1 1 (nest2 (rowsZ 3 d 2 h) ++ [[A.sl 10 0 1 0 (2 ^ h + 1)]]), .rw false true 1 1 (nest2 (rowsZ 3 d 3 h) ++ [[A.sl 12 0 1 0 (2 ^ h + 1)]]), .rw true false 0 1 (ints (lvl 3 d h 0)), .rw false true 0 1 [[.sl 6 0 1 0 (2 ^ h + 1)]], .rw true false 0 1 (ints (lvl 3 d h 1)), .rw false true 0 1 [[.sl 8 0 1 0 (2 ^ h + 1)]], .rw false false 0 1 (ints (lvl 3 d h 2)), .rw false true 0 1 [[.sl 10 0 1 0 (2 ^ h + 1)]], .rw false false 0 1 (ints (lvl 3 d h 3)), .rw false true 0 1 [[.sl 12 0 1 0 (2 ^ h + 1)]]] rfl (rowsF_snoc _ (rowsZ 3 d 1 h) (lvl 3 d h 1) 8 0 (2 ^ h + 1) rfl (lvl_length ..).symm) (fun x hx => by rw [← blocksW_snoc (rowsZ 3 d 1 h) 8 0 (2 ^ h + 1)]; exact hx) rfl rfl ?_
  refine wk_cv 4 0 [10] [.bx false [.v (.int .u8 3), .v (.int .i64 d), .v (.int .i64 0), .v (.int .u64 0), .v (.int .u64 0), .v (.int .u64 0)], .rw false true 0 1 [[.sl 2 1 1 0 (h + 1)], [.sl 3 1 1 0 (h + 1)], [.sl 4 1 1 0 (h + 1)], [.sl 5 1 1 0 (h + 1)]], .rw false false 1 1 (nest2 (rowsZ 3 d 0 h ++ [lvl 3 d h 0])), .rw false false 1 1 (nest2 (rowsZ 3 d 1 h ++ [lvl 3 d h 1])), .rw false true 1 1 (nest2 (rowsZ 3 d 2 h) ++ [[A.sl 10 0 1 0 (2 ^ h + 1)]]), .rw false true 1 1 (nest2 (rowsZ 3 d 3 h) ++ [[A.sl 12 0 1 0 (2 ^ h + 1)]]), .rw true false 0 1 (ints (lvl 3 d h 0)), .rw false true 0 1 [[.sl 6 0 1 0 (2 ^ h + 1)]], .rw true false 0 1 (ints (lvl 3 d h 1)), .rw false true 0 1 [[.sl 8 0 1 0 (2 ^ h + 1)]], .rw true false 0 1 (ints (lvl 3 d h 2)), .rw false true 0 1 [[.sl 10 0 1 0 (2 ^ h + 1)]], .rw false false 0 1 (ints (lvl 3 d h 3)), .rw false true 0 1 [[.sl 12 0 1 0 (2 ^ h + 1)]]] rfl (rowsF_snoc _ (rowsZ 3 d 2 h) (lvl 3 d h 2) 10 0 (2 ^ h + 1) rfl (lvl_length ..).symm) (fun x hx => by rw [← blocksW_snoc (rowsZ 3 d 2 h) 10 0 (2 ^ h + 1)]; exact hx) rfl rfl ?_
  refine wk_cv 5 0 [12] [.bx false [.v (.int .u8 3), .v (.int .i64 d), .v (.int .i64 0), .v (.int .u64 0), .v (.int .u64 0), .v (.int .u64 0)], .rw false true 0 1 [[.sl 2 1 1 0 (h + 1)], [.sl 3 1 1 0 (h + 1)], [.sl 4 1 1 0 (h + 1)], [.sl 5 1 1 0 (h + 1)]], .rw false false 1 1 (nest2 (rowsZ 3 d 0 h ++ [lvl 3 d h 0])), .rw false false 1 1 (nest2 (rowsZ 3 d 1 h ++ [lvl 3 d h 1])), .rw false false 1 1 (nest2 (rowsZ 3 d 2 h ++ [lvl 3 d h 2])), .rw false true 1 1 (nest2 (rowsZ 3 d 3 h) ++ [[A.sl 12 0 1 0 (2 ^ h + 1)]]), .rw true false 0 1 (ints (lvl 3 d h 0)), .rw false true 0 1 [[.sl 6 0 1 0 (2 ^ h + 1)]], .rw true false 0 1 (ints (lvl 3 d h 1)), .rw false true 0 1 [[.sl 8 0 1 0 (2 ^ h + 1)]], .rw true false 0 1 (ints (lvl 3 d h 2)), .rw false true 0 1 [[.sl 10 0 1 0 (2 ^ h + 1)]], .rw true false 0 1 (ints (lvl 3 d h 3)), .rw false true 0 1 [[.sl 12 0 1 0 (2 ^ h + 1)]]] rfl (rowsF_snoc _ (rowsZ 3 d 3 h) (lvl 3 d h 3) 12 0 (2 ^ h + 1) rfl (lvl_length ..).symm) (fun x hx => by rw [← blocksW_snoc (rowsZ 3 d 3 h) 12 0 (2 ^ h + 1)]; exact hx) rfl rfl ?_
  refine gc_step ⟨[false, true, false, true, true], [0,1,2,3,4,5], 0⟩ (mkT 90 [(1, .pt 0 0 0 0 0), (3, .sl 1 0 1 0 4), (4, .v (.int .i64 i))]) (toHp3 d (h + 1)) [] (fun k hk => ?_) hk
  unfold toHp3 at hk
  rw [rowsZ_succ 3 d 0 h] at hk
  rw [rowsZ_succ 3 d 1 h] at hk
  rw [rowsZ_succ 3 d 2 h] at hk
  rw [rowsZ_succ 3 d 3 h] at hk
  exact hk
def toHz3 (d : Nat) : List Blk := [.bx false [.v (.int .u8 3), .v (.int .i64 d), .v (.int .i64 0), .v (.int .u64 0), .v (.int .u64 0), .v (.int .u64 0)], .rw false true 0 1 [[.sl 3 0 1 0 1], [.sl 5 0 1 0 1], [.sl 7 0 1 0 1], [.sl 9 0 1 0 1]], .rw false false 0 1 (ints (lvl 3 d 0 0)), .rw false true 0 1 (nest2 (rowsZ 3 d 0 0) ++ [[A.sl 2 0 1 0 (2 ^ 0 + 1)]]), .rw false false 0 1 (ints (lvl 3 d 0 1)), .rw false true 0 1 (nest2 (rowsZ 3 d 1 0) ++ [[A.sl 4 0 1 0 (2 ^ 0 + 1)]]), .rw false false 0 1 (ints (lvl 3 d 0 2)), .rw false true 0 1 (nest2 (rowsZ 3 d 2 0) ++ [[A.sl 6 0 1 0 (2 ^ 0 + 1)]]), .rw false false 0 1 (ints (lvl 3 d 0 3)), .rw false true 0 1 (nest2 (rowsZ 3 d 3 0) ++ [[A.sl 8 0 1 0 (2 ^ 0 + 1)]])]
theorem to_endz_3 (d : Nat) {k : List A → List Blk → List Lp → Prop} (i : Int) (hk : k (mkT 90 [(1, .pt 0 0 0 0 0), (3, .sl 1 0 1 0 4), (4, .v (.int .i64 i))]) (toHp3 d 1) []) :
    ∃ ts2 hp2 lp2, Wk 0 0 (mkT 90 [(1, .pt 0 0 0 0 0), (3, .sl 1 0 1 0 4), (4, .v (.int .i64 i))]) (toHz3 d) [] ts2 hp2 lp2 ∧ k ts2 hp2 lp2 := by
  refine wk_cv 3 0 [2] [.bx false [.v (.int .u8 3), .v (.int .i64 d), .v (.int .i64 0), .v (.int .u64 0), .v (.int .u64 0), .v (.int .u64 0)], .rw false true 0 1 [[.sl 3 0 1 0 1], [.sl 5 0 1 0 1], [.sl 7 0 1 0 1], [.sl 9 0 1 0 1]], .rw true false 0 1 (ints (lvl 3 d 0 0)), .rw false true 0 1 (nest2 (rowsZ 3 d 0 0) ++ [[A.sl 2 0 1 0 (2 ^ 0 + 1)]]), .rw false false 0 1 (ints (lvl 3 d 0 1)), .rw false true 0 1 (nest2 (rowsZ 3 d 1 0) ++ [[A.sl 4 0 1 0 (2 ^ 0 + 1)]]), .rw false false 0 1 (ints (lvl 3 d 0 2)), .rw false true 0 1 (nest2 (rowsZ 3 d 2 0) ++ [[A.sl 6 0 1 0 (2 ^ 0 + 1)]]), .rw false false 0 1 (ints (lvl 3 d 0 3)), .rw false true 0 1 (nest2 (rowsZ 3 d 3 0) ++ [[A.sl 8 0 1 0 (2 ^ 0 + 1)]])] rfl (rowsF_snoc _ (rowsZ 3 d 0 0) (lvl 3 d 0 0) 2 0 (2 ^ 0 + 1) rfl (lvl_length ..).symm) (fun x hx => by rw [← blocksW_snoc (rowsZ 3 d 0 0) 2 0 (2 ^ 0 + 1)]; exact hx) rfl rfl ?_
  refine wk_cv 5 0 [4] [.bx false [.v (.int .u8 3), .v (.int .i64 d), .v (.int .i64 0), .v (.int .u64 0), .v (.int .u64 0), .v (.int .u64 0)], .rw false true 0 1 [[.sl 3 0 1 0 1], [.sl 5 0 1 0 1], [.sl 7 0 1 0 1], [.sl 9 0 1 0 1]], .rw true false 0 1 (ints (lvl 3 d 0 0)), .rw false false 0 1 (nest2 (rowsZ 3 d 0 0 ++ [lvl 3 d 0 0])), .rw true false 0 1 (ints (lvl 3 d 0 1)), .rw false true 0 1 (nest2 (rowsZ 3 d 1 0) ++ [[A.sl 4 0 1 0 (2 ^ 0 + 1)]]), .rw false false 0 1 (ints (lvl 3 d 0 2)), .rw false true 0 1 (nest2 (rowsZ 3 d 2 0) ++ [[A.sl 6 0 1 0 (2 ^ 0 + 1)]]), .rw false false 0 1 (ints (lvl 3 d 0 3)), .rw false true 0 1 (nest2 (rowsZ 3 d 3 0) ++ [[A.sl 8 0 1 0 (2 ^ 0 + 1)]])] rfl (rowsF_snoc _ (rowsZ 3 d 1 0) (lvl 3 d 0 1) 4 0 (2 ^ 0 + 1) rfl (lvl_length ..).symm) (fun x hx => by rw [← blocksW_snoc (rowsZ 3 d 1 0) 4 0 (2 ^ 0 + 1)]; exact hx) rfl rfl ?_
  refine wk_cv 7 0 [6] [.bx false [.v (.int .u8 3), .v (.int .i64 d), .v (.int .i64 0), .v (.int .u64 0), .v (.int .u64 0), .v (.int .u64 0)], .rw false true 0 1 [[.sl 3 0 1 0 1], [.sl 5 0 1 0 1], [.sl 7 0 1 0 1], [.sl 9 0 1 0 1]], .rw true false 0 1 (ints (lvl 3 d 0 0)), .rw false false 0 1 (nest2 (rowsZ 3 d 0 0 ++ [lvl 3 d 0 0])), .rw true false 0 1 (ints (lvl 3 d 0 1)), .rw false false 0 1 (nest2 (rowsZ 3 d 1 0 ++ [lvl 3 d 0 1])), .rw true false 0 1 (ints (lvl 3 d 0 2)), .rw false true 0 1 (nest2 (rowsZ 3 d 2 0) ++ [[A.sl 6 0 1 0 (2 ^ 0 + 1)]]), .rw false false 0 1 (ints (lvl 3 d 0 3)), .rw false true 0 1 (nest2 (rowsZ 3 d 3 0) ++ [[A.sl 8 0 1 0 (2 ^ 0 + 1)]])] rfl (rowsF_snoc _ (rowsZ 3 d 2 0) (lvl 3 d 0 2) 6 0 (2 ^ 0 + 1) rfl (lvl_length ..).symm) (fun x hx => by rw [← blocksW_snoc (rowsZ 3 d 2 0) 6 0 (2 ^ 0 + 1)]; exact hx) rfl rfl ?_
  refine wk_cv 9 0 [8] [.bx false [.v (.int .u8 3), .v (.int .i64 d), .v (.int .i64 0), .v (.int .u64 0), .v (.int .u64 0), .v (.int .u64 0)], .rw false true 0 1 [[.sl 3 0 1 0 1], [.sl 5 0 1 0 1], [.sl 7 0 1 0 1], [.sl 9 0 1 0 1]], .rw true false 0 1 (ints (lvl 3 d 0 0)), .rw false false 0 1 (nest2 (rowsZ 3 d 0 0 ++ [lvl 3 d 0 0])), .rw true false 0 1 (ints (lvl 3 d 0 1)), .rw false false 0 1 (nest2 (rowsZ 3 d 1 0 ++ [lvl 3 d 0 1])), .rw true false 0 1 (ints (lvl 3 d 0 2)), .rw false false 0 1 (nest2 (rowsZ 3 d 2 0 ++ [lvl 3 d 0 2])), .rw true false 0 1 (ints (lvl 3 d 0 3)), .rw false true 0 1 (nest2 (rowsZ 3 d 3 0) ++ [[A.sl 8 0 1 0 (2 ^ 0 + 1)]])] rfl (rowsF_snoc _ (rowsZ 3 d 3 0) (lvl 3 d 0 3) 8 0 (2 ^ 0 + 1) rfl (lvl_length ..).symm) (fun x hx => by rw [← blocksW_snoc (rowsZ 3 d 3 0) 8 0 (2 ^ 0 + 1)]; exact hx) rfl rfl ?_
  refine gc_step ⟨[false, true, false, true, true], [0,1,3,5,7,9], 0⟩ (mkT 90 [(1, .pt 0 0 0 0 0), (3, .sl 1 0 1 0 4), (4, .v (.int .i64 i))]) (toHp3 d 1) [] (fun k hk => ?_) hk
  unfold toHp3 at hk
  rw [rowsZ_succ 3 d 0 0] at hk
  rw [rowsZ_succ 3 d 1 0] at hk
  rw [rowsZ_succ 3 d 2 0] at hk
  rw [rowsZ_succ 3 d 3 0] at hk
  exact hk
theorem wk_then {nb nl : Nat} {ts : List A} {hp : List Blk} {lp : List Lp} {k : List A → List Blk → List Lp → Prop} {ts1 : List A} {hp1 : List Blk} {lp1 : List Lp} (h1 : Wk nb nl ts hp lp ts1 hp1 lp1)
    (h2 : ∃ ts2 hp2 lp2, Wk nb nl ts1 hp1 lp1 ts2 hp2 lp2 ∧ k ts2 hp2 lp2) : ∃ ts2 hp2 lp2, Wk nb nl ts hp lp ts2 hp2 lp2 ∧ k ts2 hp2 lp2 := by
  obtain ⟨ts2, hp2, lp2, h3, h4⟩ := h2
  exact ⟨ts2, hp2, lp2, .trans h1 h3, h4⟩
theorem to_row_1_0 (E : EqT) (d h : Nat) (h1 : 1 ≤ h) (hh : h ≤ d) (hd : d ≤ 6) (K : K) :
    ∀ (c k n : Nat) (p : Nat → Nat), k + c = 2 ^ h + 1 → c + 60 ≤ n → p 0 = k →
      (∀ j, K (.exit 6) (mkJ 90 [(1, .pt 0 0 0 0 0), (3, .sl 1 0 1 0 1), (4, .v (.int .i64 h)), (6, .v (.int .i64 (0 : Nat)))] j) (toHf1 d h (fun s => if s = 0 then 2 ^ h + 1 else p s)) []) →
      loopF (run Go.Proofs.Try.prog E (envL Go.Proofs.Try.prog toEnv) n) 0 0 (loopB Go.Proofs.Try.prog 42 3) (mkT 90 [(1, .pt 0 0 0 0 0), (3, .sl 1 0 1 0 1), (4, .v (.int .i64 h)), (6, .v (.int .i64 (0 : Nat))), (7, .v (.int .i64 k))]) (toHf1 d h p) [] K := by
  intro c
  have hp6 := pow_le6 (show h ≤ 6 by omega)
  have eu : IntKind.u64.wrap (h : Int) = (h : Int) := by simp [IntKind.wrap, IntKind.bits, IntKind.signed]; omega
  have es : IntKind.i64.wrap (1 * 2 ^ min (IntKind.u64.wrap (h : Int)).toNat IntKind.i64.bits) = ((2 ^ h : Nat) : Int) := by rw [eu]; exact shl1 (by omega)
  induction c with
  | zero =>
    intro k n p hi hn hpk hK
    obtain ⟨n, rfl⟩ : ∃ m, n = m + 60 := ⟨n - 60, by omega⟩
    have e : (fun s => if s = 0 then 2 ^ h + 1 else p s) = p := by
      funext s; split
      · rename_i hs; subst hs; omega
      · rfl
    rw [e] at hK
    conv => whnf
    refine ⟨by rw [eu]; omega, ?_⟩
    conv => whnf
    rw [es]
    refine cndK_intro (fun h => ?_) (fun h => ?_)
    · exfalso
      simp only [decide_eq_true_eq] at h
      omega
    · conv => whnf
      exact useJ hK rfl
  | succ c ih =>
    intro k n p hi hn hpk hK
    obtain ⟨n, rfl⟩ : ∃ m, n = m + 60 := ⟨n - 60, by omega⟩
    have ek : IntKind.i64.wrap ((k : Int) + 1) = ((k + 1 : Nat) : Int) := by rw [wrap64 (by omega) (by omega)]; omega
    have hK2 : ∀ j, K (.exit 6) (mkJ 90 [(1, .pt 0 0 0 0 0), (3, .sl 1 0 1 0 1), (4, .v (.int .i64 h)), (6, .v (.int .i64 (0 : Nat)))] j)
        (toHf1 d h (fun s => if s = 0 then 2 ^ h + 1 else (fun s => if s = 0 then p s + 1 else p s) s)) [] := fun j => by
      have := hK j
      have e : (fun s => if s = 0 then 2 ^ h + 1 else (fun s => if s = 0 then p s + 1 else p s) s) = (fun s => if s = 0 then 2 ^ h + 1 else p s) := by
        funext s; split <;> simp_all
      rw [e]; exact this
    have next := ih (k + 1) (n + 59) (fun s => if s = 0 then p s + 1 else p s) (by omega) (by omega) (by simp [hpk]) hK2
    clear hK hK2 ih
    have hkb : k < 2 ^ h + 1 := by omega
    obtain ⟨ov, hov⟩ := to_get 1 d 0 h k (p 0) hkb
    conv => whnf
    refine ⟨by rw [eu]; omega, ?_⟩
    conv => whnf
    rw [es]
    refine cndK_intro (fun h2 => ?_) (fun h2 => ?_)
    rotate_left
    · exfalso
      simp only [decide_eq_false_iff_not] at h2
      omega
    conv => whnf
    refine cndK_intro (fun h3 => ?_) (fun h3 => ?_)
    · have hk0 : k = 0 := by simp at h3; omega
      have hv : (lvl 1 d h 0)[k]? = some (if (1 : Nat) = 1 then 1 - (k : Int) else (k : Int) * ([0, 1, 1, 2] : List Int).getD 0 0) := by
        rw [hk0]; exact lvl_get0 1 d h 0
      conv => whnf
      try (rw [h3]; conv => whnf)
      refine Or.inl ⟨14, by kernel_rfl, ?_⟩
      conv => whnf
      refine ⟨⟨by decide, by decide⟩, ?_⟩
      conv => whnf
      refine ⟨⟨by omega, by omega⟩, ?_⟩
      conv => whnf
      refine optK_intro _ (nest_last (rowsZ 1 d 0 h) _ _ (by rw [rowsZ_length]; simp)) ?_
      conv => whnf
      refine ⟨_, start_pure 1 0 k (by decide) (by omega) (by omega), ?_⟩
      conv => whnf
      refine ⟨⟨by omega, by omega⟩, ?_⟩
      conv => whnf
      refine optK_intro _ hov ?_
      conv => whnf
      rw [ek]
      refine wk_mask [false, true, false, true, true, false, true, true] _ rfl ?_
      rw [to_set 1 d 0 h k (p 0) hpk _ hv]
      exact next
    · have h0 : ((h : Int) == 0) = false := by simp; omega
      conv => whnf
      try (rw [h3]; conv => whnf)
      rw [h0]
      conv => whnf
      refine Or.inl ⟨18, by kernel_rfl, ?_⟩
      conv => whnf
      refine ⟨⟨by decide, by decide⟩, ?_⟩
      conv => whnf
      refine ⟨⟨by omega, by omega⟩, ?_⟩
      conv => whnf
      refine optK_intro _ (nest_last (rowsZ 1 d 0 h) _ _ (by rw [rowsZ_length]; simp)) ?_
      conv => whnf
      refine ⟨Nat.le_refl _, Or.inl ?_⟩
      conv => whnf
      refine ⟨by simp [nest2, rowsZ], Or.inr ⟨_, to_rows (toHf1 d h p) (rowsZ 1 d 0 h) (fillL (lvl 1 d h 0) (p 0)) 3 0 (2 ^ h + 1) (h + 1) rfl (by rw [fillL_length, lvl_length]) (by rw [rowsZ_length]), ?_⟩⟩
      conv => whnf

      obtain ⟨g, rfl⟩ : ∃ g, h = g + 1 := ⟨h - 1, by omega⟩
      have hall : ∀ b, b < 1 → RowAt [rowsZ 1 d 0 (g + 1) ++ [fillL (lvl 1 d (g + 1) 0) (p 0)]] b g (lvl 1 d g b) := fun b hb => by
        match b, hb with
        | 0, _ => exact ⟨_, rfl, rowsZ_get ..⟩
      have hk0 : k ≠ 0 := by simp at h3; omega
      refine ⟨_, best3_pure 1 d 0 g k [rowsZ 1 d 0 (g + 1) ++ [fillL (lvl 1 d (g + 1) 0) (p 0)]] (lvl 1 d g 0) (lvl 1 d g (belowN 1 d 0 (g + 1))) (by decide) (by decide) (by decide) (by decide) hh hd (hall 0 (by decide))
        (fun hne => hall _ (by first | exact absurd rfl hne | exact (by decide : 1 < 2) | exact belowN_lt _ _ _ _ (by decide))) (lvl_length ..) (fun _ => lvl_length ..) (lvl_small 1 d g 0 (by omega)) (fun _ => lvl_small 1 d g _ (by omega)) (by omega), ?_⟩
      conv => whnf
      refine ⟨⟨by omega, by omega⟩, ?_⟩
      conv => whnf
      refine optK_intro _ hov ?_
      conv => whnf
      rw [ek]
      refine wk_mask [false, true, false, true, true, false, true, true] _ rfl ?_
      rw [to_set 1 d 0 (g + 1) k (p 0) hpk _ (lvl_getS 1 d g 0 k hk0 hkb)]
      exact next
theorem to_row_2_0 (E : EqT) (d h : Nat) (h1 : 1 ≤ h) (hh : h ≤ d) (hd : d ≤ 6) (K : K) :
    ∀ (c k n : Nat) (p : Nat → Nat), k + c = 2 ^ h + 1 → c + 60 ≤ n → p 0 = k →
      (∀ j, K (.exit 6) (mkJ 90 [(1, .pt 0 0 0 0 0), (3, .sl 1 0 1 0 2), (4, .v (.int .i64 h)), (6, .v (.int .i64 (0 : Nat)))] j) (toHf2 d h (fun s => if s = 0 then 2 ^ h + 1 else p s)) []) →
      loopF (run Go.Proofs.Try.prog E (envL Go.Proofs.Try.prog toEnv) n) 0 0 (loopB Go.Proofs.Try.prog 42 3) (mkT 90 [(1, .pt 0 0 0 0 0), (3, .sl 1 0 1 0 2), (4, .v (.int .i64 h)), (6, .v (.int .i64 (0 : Nat))), (7, .v (.int .i64 k))]) (toHf2 d h p) [] K := by
  intro c
  have hp6 := pow_le6 (show h ≤ 6 by omega)
  have eu : IntKind.u64.wrap (h : Int) = (h : Int) := by simp [IntKind.wrap, IntKind.bits, IntKind.signed]; omega
  have es : IntKind.i64.wrap (1 * 2 ^ min (IntKind.u64.wrap (h : Int)).toNat IntKind.i64.bits) = ((2 ^ h : Nat) : Int) := by rw [eu]; exact shl1 (by omega)
  induction c with
  | zero =>
    intro k n p hi hn hpk hK
    obtain ⟨n, rfl⟩ : ∃ m, n = m + 60 := ⟨n - 60, by omega⟩
    have e : (fun s => if s = 0 then 2 ^ h + 1 else p s) = p := by
      funext s; split
      · rename_i hs; subst hs; omega
      · rfl
    rw [e] at hK
    conv => whnf
    refine ⟨by rw [eu]; omega, ?_⟩
    conv => whnf
    rw [es]
    refine cndK_intro (fun h => ?_) (fun h => ?_)
    · exfalso
      simp only [decide_eq_true_eq] at h
      omega
    · conv => whnf
      exact useJ hK rfl
  | succ c ih =>
    intro k n p hi hn hpk hK
    obtain ⟨n, rfl⟩ : ∃ m, n = m + 60 := ⟨n - 60, by omega⟩
    have ek : IntKind.i64.wrap ((k : Int) + 1) = ((k + 1 : Nat) : Int) := by rw [wrap64 (by omega) (by omega)]; omega
    have hK2 : ∀ j, K (.exit 6) (mkJ 90 [(1, .pt 0 0 0 0 0), (3, .sl 1 0 1 0 2), (4, .v (.int .i64 h)), (6, .v (.int .i64 (0 : Nat)))] j)
        (toHf2 d h (fun s => if s = 0 then 2 ^ h + 1 else (fun s => if s = 0 then p s + 1 else p s) s)) [] := fun j => by
      have := hK j
      have e : (fun s => if s = 0 then 2 ^ h + 1 else (fun s => if s = 0 then p s + 1 else p s) s) = (fun s => if s = 0 then 2 ^ h + 1 else p s) := by
        funext s; split <;> simp_all
      rw [e]; exact this
    have next := ih (k + 1) (n + 59) (fun s => if s = 0 then p s + 1 else p s) (by omega) (by omega) (by simp [hpk]) hK2
    clear hK hK2 ih
    have hkb : k < 2 ^ h + 1 := by omega
    obtain ⟨ov, hov⟩ := to_get 2 d 0 h k (p 0) hkb
    conv => whnf
    refine ⟨by rw [eu]; omega, ?_⟩
    conv => whnf
    rw [es]
    refine cndK_intro (fun h2 => ?_) (fun h2 => ?_)
    rotate_left
    · exfalso
      simp only [decide_eq_false_iff_not] at h2
      omega
    conv => whnf
    refine cndK_intro (fun h3 => ?_) (fun h3 => ?_)
    · have hk0 : k = 0 := by simp at h3; omega
      have hv : (lvl 2 d h 0)[k]? = some (if (2 : Nat) = 1 then 1 - (k : Int) else (k : Int) * ([0, 1, 1, 2] : List Int).getD 0 0) := by
        rw [hk0]; exact lvl_get0 2 d h 0
      conv => whnf
      try (rw [h3]; conv => whnf)
      refine Or.inl ⟨14, by kernel_rfl, ?_⟩
      conv => whnf
      refine ⟨⟨by decide, by decide⟩, ?_⟩
      conv => whnf
      refine ⟨⟨by omega, by omega⟩, ?_⟩
      conv => whnf
      refine optK_intro _ (nest_last (rowsZ 2 d 0 h) _ _ (by rw [rowsZ_length]; simp)) ?_
      conv => whnf
      refine ⟨_, start_pure 2 0 k (by decide) (by omega) (by omega), ?_⟩
      conv => whnf
      refine ⟨⟨by omega, by omega⟩, ?_⟩
      conv => whnf
      refine optK_intro _ hov ?_
      conv => whnf
      rw [ek]
      refine wk_mask [false, true, false, true, true, false, true, true] _ rfl ?_
      rw [to_set 2 d 0 h k (p 0) hpk _ hv]
      exact next
    · have h0 : ((h : Int) == 0) = false := by simp; omega
      conv => whnf
      try (rw [h3]; conv => whnf)
      rw [h0]
      conv => whnf
      refine Or.inl ⟨18, by kernel_rfl, ?_⟩
      conv => whnf
      refine ⟨⟨by decide, by decide⟩, ?_⟩
      conv => whnf
      refine ⟨⟨by omega, by omega⟩, ?_⟩
      conv => whnf
      refine optK_intro _ (nest_last (rowsZ 2 d 0 h) _ _ (by rw [rowsZ_length]; simp)) ?_
      conv => whnf
      refine ⟨Nat.le_refl _, Or.inl ?_⟩
      conv => whnf
      refine ⟨by simp [nest2, rowsZ], Or.inr ⟨_, to_rows (toHf2 d h p) (rowsZ 2 d 0 h) (fillL (lvl 2 d h 0) (p 0)) 4 0 (2 ^ h + 1) (h + 1) rfl (by rw [fillL_length, lvl_length]) (by rw [rowsZ_length]), ?_⟩⟩
      conv => whnf
      refine ⟨by simp [nest2, rowsZ], Or.inr ⟨_, to_rows (toHf2 d h p) (rowsZ 2 d 1 h) (fillL (lvl 2 d h 1) (p 1)) 6 0 (2 ^ h + 1) (h + 1) rfl (by rw [fillL_length, lvl_length]) (by rw [rowsZ_length]), ?_⟩⟩
      conv => whnf

      obtain ⟨g, rfl⟩ : ∃ g, h = g + 1 := ⟨h - 1, by omega⟩
      have hall : ∀ b, b < 2 → RowAt [rowsZ 2 d 0 (g + 1) ++ [fillL (lvl 2 d (g + 1) 0) (p 0)], rowsZ 2 d 1 (g + 1) ++ [fillL (lvl 2 d (g + 1) 1) (p 1)]] b g (lvl 2 d g b) := fun b hb => by
        match b, hb with
        | 0, _ => exact ⟨_, rfl, rowsZ_get ..⟩
        | 1, _ => exact ⟨_, rfl, rowsZ_get ..⟩
      have hk0 : k ≠ 0 := by simp at h3; omega
      refine ⟨_, best3_pure 2 d 0 g k [rowsZ 2 d 0 (g + 1) ++ [fillL (lvl 2 d (g + 1) 0) (p 0)], rowsZ 2 d 1 (g + 1) ++ [fillL (lvl 2 d (g + 1) 1) (p 1)]] (lvl 2 d g 0) (lvl 2 d g (belowN 2 d 0 (g + 1))) (by decide) (by decide) (by decide) (by decide) hh hd (hall 0 (by decide))
        (fun hne => hall _ (by first | exact absurd rfl hne | exact (by decide : 1 < 2) | exact belowN_lt _ _ _ _ (by decide))) (lvl_length ..) (fun _ => lvl_length ..) (lvl_small 2 d g 0 (by omega)) (fun _ => lvl_small 2 d g _ (by omega)) (by omega), ?_⟩
      conv => whnf
      refine ⟨⟨by omega, by omega⟩, ?_⟩
      conv => whnf
      refine optK_intro _ hov ?_
      conv => whnf
      rw [ek]
      refine wk_mask [false, true, false, true, true, false, true, true] _ rfl ?_
      rw [to_set 2 d 0 (g + 1) k (p 0) hpk _ (lvl_getS 2 d g 0 k hk0 hkb)]
      exact next
theorem to_row_2_1 (E : EqT) (d h : Nat) (h1 : 1 ≤ h) (hh : h ≤ d) (hd : d ≤ 6) (K : K) :
    ∀ (c k n : Nat) (p : Nat → Nat), k + c = 2 ^ h + 1 → c + 60 ≤ n → p 1 = k →
      (∀ j, K (.exit 6) (mkJ 90 [(1, .pt 0 0 0 0 0), (3, .sl 1 0 1 0 2), (4, .v (.int .i64 h)), (6, .v (.int .i64 (1 : Nat)))] j) (toHf2 d h (fun s => if s = 1 then 2 ^ h + 1 else p s)) []) →
      loopF (run Go.Proofs.Try.prog E (envL Go.Proofs.Try.prog toEnv) n) 0 0 (loopB Go.Proofs.Try.prog 42 3) (mkT 90 [(1, .pt 0 0 0 0 0), (3, .sl 1 0 1 0 2), (4, .v (.int .i64 h)), (6, .v (.int .i64 (1 : Nat))), (7, .v (.int .i64 k))]) (toHf2 d h p) [] K := by
  intro c
  have hp6 := pow_le6 (show h ≤ 6 by omega)
  have eu : IntKind.u64.wrap (h : Int) = (h : Int) := by simp [IntKind.wrap, IntKind.bits, IntKind.signed]; omega
  have es : IntKind.i64.wrap (1 * 2 ^ min (IntKind.u64.wrap (h : Int)).toNat IntKind.i64.bits) = ((2 ^ h : Nat) : Int) := by rw [eu]; exact shl1 (by omega)
  induction c with
  | zero =>
    intro k n p hi hn hpk hK
    obtain ⟨n, rfl⟩ : ∃ m, n = m + 60 := ⟨n - 60, by omega⟩
    have e : (fun s => if s = 1 then 2 ^ h + 1 else p s) = p := by
      funext s; split
      · rename_i hs; subst hs; omega
      · rfl
    rw [e] at hK
    conv => whnf
    refine ⟨by rw [eu]; omega, ?_⟩
    conv => whnf
    rw [es]
    refine cndK_intro (fun h => ?_) (fun h => ?_)
    · exfalso
      simp only [decide_eq_true_eq] at h
      omega
    · conv => whnf
      exact useJ hK rfl
  | succ c ih =>
    intro k n p hi hn hpk hK
    obtain ⟨n, rfl⟩ : ∃ m, n = m + 60 := ⟨n - 60, by omega⟩
    have ek : IntKind.i64.wrap ((k : Int) + 1) = ((k + 1 : Nat) : Int) := by rw [wrap64 (by omega) (by omega)]; omega
    have hK2 : ∀ j, K (.exit 6) (mkJ 90 [(1, .pt 0 0 0 0 0), (3, .sl 1 0 1 0 2), (4, .v (.int .i64 h)), (6, .v (.int .i64 (1 : Nat)))] j)
        (toHf2 d h (fun s => if s = 1 then 2 ^ h + 1 else (fun s => if s = 1 then p s + 1 else p s) s)) [] := fun j => by
      have := hK j
      have e : (fun s => if s = 1 then 2 ^ h + 1 else (fun s => if s = 1 then p s + 1 else p s) s) = (fun s => if s = 1 then 2 ^ h + 1 else p s) := by
        funext s; split <;> simp_all
      rw [e]; exact this
    have next := ih (k + 1) (n + 59) (fun s => if s = 1 then p s + 1 else p s) (by omega) (by omega) (by simp [hpk]) hK2
    clear hK hK2 ih
    have hkb : k < 2 ^ h + 1 := by omega
    obtain ⟨ov, hov⟩ := to_get 2 d 1 h k (p 1) hkb
    conv => whnf
    refine ⟨by rw [eu]; omega, ?_⟩
    conv => whnf
    rw [es]
    refine cndK_intro (fun h2 => ?_) (fun h2 => ?_)
    rotate_left
    · exfalso
      simp only [decide_eq_false_iff_not] at h2
      omega
    conv => whnf
    refine cndK_intro (fun h3 => ?_) (fun h3 => ?_)
    · have hk0 : k = 0 := by simp at h3; omega
      have hv : (lvl 2 d h 1)[k]? = some (if (2 : Nat) = 1 then 1 - (k : Int) else (k : Int) * ([0, 1, 1, 2] : List Int).getD 1 0) := by
        rw [hk0]; exact lvl_get0 2 d h 1
      conv => whnf
      try (rw [h3]; conv => whnf)
      refine Or.inl ⟨14, by kernel_rfl, ?_⟩
      conv => whnf
      refine ⟨⟨by decide, by decide⟩, ?_⟩
      conv => whnf
      refine ⟨⟨by omega, by omega⟩, ?_⟩
      conv => whnf
      refine optK_intro _ (nest_last (rowsZ 2 d 1 h) _ _ (by rw [rowsZ_length]; simp)) ?_
      conv => whnf
      refine ⟨_, start_pure 2 1 k (by decide) (by omega) (by omega), ?_⟩
      conv => whnf
      refine ⟨⟨by omega, by omega⟩, ?_⟩
      conv => whnf
      refine optK_intro _ hov ?_
      conv => whnf
      rw [ek]
      refine wk_mask [false, true, false, true, true, false, true, true] _ rfl ?_
      rw [to_set 2 d 1 h k (p 1) hpk _ hv]
      exact next
    · have h0 : ((h : Int) == 0) = false := by simp; omega
      conv => whnf
      try (rw [h3]; conv => whnf)
      rw [h0]
      conv => whnf
      refine Or.inl ⟨18, by kernel_rfl, ?_⟩
      conv => whnf
      refine ⟨⟨by decide, by decide⟩, ?_⟩
      conv => whnf
      refine ⟨⟨by omega, by omega⟩, ?_⟩
      conv => whnf
      refine optK_intro _ (nest_last (rowsZ 2 d 1 h) _ _ (by rw [rowsZ_length]; simp)) ?_
      conv => whnf
      refine ⟨Nat.le_refl _, Or.inl ?_⟩
      conv => whnf
      refine ⟨by simp [nest2, rowsZ], Or.inr ⟨_, to_rows (toHf2 d h p) (rowsZ 2 d 0 h) (fillL (lvl 2 d h 0) (p 0)) 4 0 (2 ^ h + 1) (h + 1) rfl (by rw [fillL_length, lvl_length]) (by rw [rowsZ_length]), ?_⟩⟩
      conv => whnf
      refine ⟨by simp [nest2, rowsZ], Or.inr ⟨_, to_rows (toHf2 d h p) (rowsZ 2 d 1 h) (fillL (lvl 2 d h 1) (p 1)) 6 0 (2 ^ h + 1) (h + 1) rfl (by rw [fillL_length, lvl_length]) (by rw [rowsZ_length]), ?_⟩⟩
      conv => whnf

      obtain ⟨g, rfl⟩ : ∃ g, h = g + 1 := ⟨h - 1, by omega⟩
      have hall : ∀ b, b < 2 → RowAt [rowsZ 2 d 0 (g + 1) ++ [fillL (lvl 2 d (g + 1) 0) (p 0)], rowsZ 2 d 1 (g + 1) ++ [fillL (lvl 2 d (g + 1) 1) (p 1)]] b g (lvl 2 d g b) := fun b hb => by
        match b, hb with
        | 0, _ => exact ⟨_, rfl, rowsZ_get ..⟩
        | 1, _ => exact ⟨_, rfl, rowsZ_get ..⟩
      have hk0 : k ≠ 0 := by simp at h3; omega
      refine ⟨_, best3_pure 2 d 1 g k [rowsZ 2 d 0 (g + 1) ++ [fillL (lvl 2 d (g + 1) 0) (p 0)], rowsZ 2 d 1 (g + 1) ++ [fillL (lvl 2 d (g + 1) 1) (p 1)]] (lvl 2 d g 0) (lvl 2 d g (belowN 2 d 1 (g + 1))) (by decide) (by decide) (by decide) (by decide) hh hd (hall 0 (by decide))
        (fun hne => hall _ (by first | exact absurd rfl hne | exact (by decide : 1 < 2) | exact belowN_lt _ _ _ _ (by decide))) (lvl_length ..) (fun _ => lvl_length ..) (lvl_small 2 d g 0 (by omega)) (fun _ => lvl_small 2 d g _ (by omega)) (by omega), ?_⟩
      conv => whnf
      refine ⟨⟨by omega, by omega⟩, ?_⟩
      conv => whnf
      refine optK_intro _ hov ?_
      conv => whnf
      rw [ek]
      refine wk_mask [false, true, false, true, true, false, true, true] _ rfl ?_
      rw [to_set 2 d 1 (g + 1) k (p 1) hpk _ (lvl_getS 2 d g 1 k hk0 hkb)]
      exact next
theorem to_row_3_0 (E : EqT) (d h : Nat) (h1 : 1 ≤ h) (hh : h ≤ d) (hd : d ≤ 6) (K : K) :
    ∀ (c k n : Nat) (p : Nat → Nat), k + c = 2 ^ h + 1 → c + 60 ≤ n → p 0 = k →
      (∀ j, K (.exit 6) (mkJ 90 [(1, .pt 0 0 0 0 0), (3, .sl 1 0 1 0 4), (4, .v (.int .i64 h)), (6, .v (.int .i64 (0 : Nat)))] j) (toHf3 d h (fun s => if s = 0 then 2 ^ h + 1 else p s)) []) →
      loopF (run Go.Proofs.Try.prog E (envL Go.Proofs.Try.prog toEnv) n) 0 0 (loopB Go.Proofs.Try.prog 42 3) (mkT 90 [(1, .pt 0 0 0 0 0), (3, .sl 1 0 1 0 4), (4, .v (.int .i64 h)), (6, .v (.int .i64 (0 : Nat))), (7, .v (.int .i64 k))]) (toHf3 d h p) [] K := by
  intro c
  have hp6 := pow_le6 (show h ≤ 6 by omega)
  have eu : IntKind.u64.wrap (h : Int) = (h : Int) := by simp [IntKind.wrap, IntKind.bits, IntKind.signed]; omega
  have es : IntKind.i64.wrap (1 * 2 ^ min (IntKind.u64.wrap (h : Int)).toNat IntKind.i64.bits) = ((2 ^ h : Nat) : Int) := by rw [eu]; exact shl1 (by omega)
  induction c with
  | zero =>
    intro k n p hi hn hpk hK
    obtain ⟨n, rfl⟩ : ∃ m, n = m + 60 := ⟨n - 60, by omega⟩
    have e : (fun s => if s = 0 then 2 ^ h + 1 else p s) = p := by
      funext s; split
      · rename_i hs; subst hs; omega
      · rfl
    rw [e] at hK
    conv => whnf
    refine ⟨by rw [eu]; omega, ?_⟩
    conv => whnf
    rw [es]
    refine cndK_intro (fun h => ?_) (fun h => ?_)
    · exfalso
      simp only [decide_eq_true_eq] at h
      omega
    · conv => whnf
      exact useJ hK rfl
  | succ c ih =>
    intro k n p hi hn hpk hK
    obtain ⟨n, rfl⟩ : ∃ m, n = m + 60 := ⟨n - 60, by omega⟩
    have ek : IntKind.i64.wrap ((k : Int) + 1) = ((k + 1 : Nat) : Int) := by rw [wrap64 (by omega) (by omega)]; omega
    have hK2 : ∀ j, K (.exit 6) (mkJ 90 [(1, .pt 0 0 0 0 0), (3, .sl 1 0 1 0 4), (4, .v (.int .i64 h)), (6, .v (.int .i64 (0 : Nat)))] j)
        (toHf3 d h (fun s => if s = 0 then 2 ^ h + 1 else (fun s => if s = 0 then p s + 1 else p s) s)) [] := fun j => by
      have := hK j
      have e : (fun s => if s = 0 then 2 ^ h + 1 else (fun s => if s = 0 then p s + 1 else p s) s) = (fun s => if s = 0 then 2 ^ h + 1 else p s) := by
        funext s; split <;> simp_all
      rw [e]; exact this
    have next := ih (k + 1) (n + 59) (fun s => if s = 0 then p s + 1 else p s) (by omega) (by omega) (by simp [hpk]) hK2
    clear hK hK2 ih
    have hkb : k < 2 ^ h + 1 := by omega
    obtain ⟨ov, hov⟩ := to_get 3 d 0 h k (p 0) hkb
    conv => whnf
    refine ⟨by rw [eu]; omega, ?_⟩
    conv => whnf
    rw [es]
    refine cndK_intro (fun h2 => ?_) (fun h2 => ?_)
    rotate_left
    · exfalso
      simp only [decide_eq_false_iff_not] at h2
      omega
    conv => whnf
    refine cndK_intro (fun h3 => ?_) (fun h3 => ?_)
    · have hk0 : k = 0 := by simp at h3; omega
      have hv : (lvl 3 d h 0)[k]? = some (if (3 : Nat) = 1 then 1 - (k : Int) else (k : Int) * ([0, 1, 1, 2] : List Int).getD 0 0) := by
        rw [hk0]; exact lvl_get0 3 d h 0
      conv => whnf
      try (rw [h3]; conv => whnf)
      refine Or.inl ⟨14, by kernel_rfl, ?_⟩
      conv => whnf
      refine ⟨⟨by decide, by decide⟩, ?_⟩
      conv => whnf
      refine ⟨⟨by omega, by omega⟩, ?_⟩
      conv => whnf
      refine optK_intro _ (nest_last (rowsZ 3 d 0 h) _ _ (by rw [rowsZ_length]; simp)) ?_
      conv => whnf
      refine ⟨_, start_pure 3 0 k (by decide) (by omega) (by omega), ?_⟩
      conv => whnf
      refine ⟨⟨by omega, by omega⟩, ?_⟩
      conv => whnf
      refine optK_intro _ hov ?_
      conv => whnf
      rw [ek]
      refine wk_mask [false, true, false, true, true, false, true, true] _ rfl ?_
      rw [to_set 3 d 0 h k (p 0) hpk _ hv]
      exact next
    · have h0 : ((h : Int) == 0) = false := by simp; omega
      conv => whnf
      try (rw [h3]; conv => whnf)
      rw [h0]
      conv => whnf
      refine Or.inl ⟨18, by kernel_rfl, ?_⟩
      conv => whnf
      refine ⟨⟨by decide, by decide⟩, ?_⟩
      conv => whnf
      refine ⟨⟨by omega, by omega⟩, ?_⟩
      conv => whnf
      refine optK_intro _ (nest_last (rowsZ 3 d 0 h) _ _ (by rw [rowsZ_length]; simp)) ?_
      conv => whnf
      refine ⟨Nat.le_refl _, Or.inl ?_⟩
      conv => whnf
      refine ⟨by simp [nest2, rowsZ], Or.inr ⟨_, to_rows (toHf3 d h p) (rowsZ 3 d 0 h) (fillL (lvl 3 d h 0) (p 0)) 6 0 (2 ^ h + 1) (h + 1) rfl (by rw [fillL_length, lvl_length]) (by rw [rowsZ_length]), ?_⟩⟩
      conv => whnf
      refine ⟨by simp [nest2, rowsZ], Or.inr ⟨_, to_rows (toHf3 d h p) (rowsZ 3 d 1 h) (fillL (lvl 3 d h 1) (p 1)) 8 0 (2 ^ h + 1) (h + 1) rfl (by rw [fillL_length, lvl_length]) (by rw [rowsZ_length]), ?_⟩⟩
      conv => whnf
      refine ⟨by simp [nest2, rowsZ], Or.inr ⟨_, to_rows (toHf3 d h p) (rowsZ 3 d 2 h) (fillL (lvl 3 d h 2) (p 2)) 10 0 (2 ^ h + 1) (h + 1) rfl (by rw [fillL_length, lvl_length]) (by rw [rowsZ_length]), ?_⟩⟩
      conv => whnf
      refine ⟨by simp [nest2, rowsZ], Or.inr ⟨_, to_rows (toHf3 d h p) (rowsZ 3 d 3 h) (fillL (lvl 3 d h 3) (p 3)) 12 0 (2 ^ h + 1) (h + 1) rfl (by rw [fillL_length, lvl_length]) (by rw [rowsZ_length]), ?_⟩⟩
      conv => whnf

      obtain ⟨g, rfl⟩ : ∃ g, h = g + 1 := ⟨h - 1, by omega⟩
      have hall : ∀ b, b < 4 → RowAt [rowsZ 3 d 0 (g + 1) ++ [fillL (lvl 3 d (g + 1) 0) (p 0)], rowsZ 3 d 1 (g + 1) ++ [fillL (lvl 3 d (g + 1) 1) (p 1)], rowsZ 3 d 2 (g + 1) ++ [fillL (lvl 3 d (g + 1) 2) (p 2)], rowsZ 3 d 3 (g + 1) ++ [fillL (lvl 3 d (g + 1) 3) (p 3)]] b g (lvl 3 d g b) := fun b hb => by
        match b, hb with
        | 0, _ => exact ⟨_, rfl, rowsZ_get ..⟩
        | 1, _ => exact ⟨_, rfl, rowsZ_get ..⟩
        | 2, _ => exact ⟨_, rfl, rowsZ_get ..⟩
        | 3, _ => exact ⟨_, rfl, rowsZ_get ..⟩
      have hk0 : k ≠ 0 := by simp at h3; omega
      refine ⟨_, best3_pure 3 d 0 g k [rowsZ 3 d 0 (g + 1) ++ [fillL (lvl 3 d (g + 1) 0) (p 0)], rowsZ 3 d 1 (g + 1) ++ [fillL (lvl 3 d (g + 1) 1) (p 1)], rowsZ 3 d 2 (g + 1) ++ [fillL (lvl 3 d (g + 1) 2) (p 2)], rowsZ 3 d 3 (g + 1) ++ [fillL (lvl 3 d (g + 1) 3) (p 3)]] (lvl 3 d g 0) (lvl 3 d g (belowN 3 d 0 (g + 1))) (by decide) (by decide) (by decide) (by decide) hh hd (hall 0 (by decide))
        (fun hne => hall _ (by first | exact absurd rfl hne | exact (by decide : 1 < 2) | exact belowN_lt _ _ _ _ (by decide))) (lvl_length ..) (fun _ => lvl_length ..) (lvl_small 3 d g 0 (by omega)) (fun _ => lvl_small 3 d g _ (by omega)) (by omega), ?_⟩
      conv => whnf
      refine ⟨⟨by omega, by omega⟩, ?_⟩
      conv => whnf
      refine optK_intro _ hov ?_
      conv => whnf
      rw [ek]
      refine wk_mask [false, true, false, true, true, false, true, true] _ rfl ?_
      rw [to_set 3 d 0 (g + 1) k (p 0) hpk _ (lvl_getS 3 d g 0 k hk0 hkb)]
      exact next
theorem to_row_3_1 (E : EqT) (d h : Nat) (h1 : 1 ≤ h) (hh : h ≤ d) (hd : d ≤ 6) (K : K) :
    ∀ (c k n : Nat) (p : Nat → Nat), k + c = 2 ^ h + 1 → c + 60 ≤ n → p 1 = k →
      (∀ j, K (.exit 6) (mkJ 90 [(1, .pt 0 0 0 0 0), (3, .sl 1 0 1 0 4), (4, .v (.int .i64 h)), (6, .v (.int .i64 (1 : Nat)))] j) (toHf3 d h (fun s => if s = 1 then 2 ^ h + 1 else p s)) []) →
      loopF (run Go.Proofs.Try.prog E (envL Go.Proofs.Try.prog toEnv) n) 0 0 (loopB Go.Proofs.Try.prog 42 3) (mkT 90 [(1, .pt 0 0 0 0 0), (3, .sl 1 0 1 0 4), (4, .v (.int .i64 h)), (6, .v (.int .i64 (1 : Nat))), (7, .v (.int .i64 k))]) (toHf3 d h p) [] K := by
  intro c
  have hp6 := pow_le6 (show h ≤ 6 by omega)
  have eu : IntKind.u64.wrap (h : Int) = (h : Int) := by simp [IntKind.wrap, IntKind.bits, IntKind.signed]; omega
  have es : IntKind.i64.wrap (1 * 2 ^ min (IntKind.u64.wrap (h : Int)).toNat IntKind.i64.bits) = ((2 ^ h : Nat) : Int) := by rw [eu]; exact shl1 (by omega)
  induction c with
  | zero =>
    intro k n p hi hn hpk hK
    obtain ⟨n, rfl⟩ : ∃ m, n = m + 60 := ⟨n - 60, by omega⟩
    have e : (fun s => if s = 1 then 2 ^ h + 1 else p s) = p := by
      funext s; split
      · rename_i hs; subst hs; omega
      · rfl
    rw [e] at hK
    conv => whnf
    refine ⟨by rw [eu]; omega, ?_⟩
    conv => whnf
    rw [es]
    refine cndK_intro (fun h => ?_) (fun h => ?_)
    · exfalso
      simp only [decide_eq_true_eq] at h
      omega
    · conv => whnf
      exact useJ hK rfl
  | succ c ih =>
    intro k n p hi hn hpk hK
    obtain ⟨n, rfl⟩ : ∃ m, n = m + 60 := ⟨n - 60, by omega⟩
    have ek : IntKind.i64.wrap ((k : Int) + 1) = ((k + 1 : Nat) : Int) := by rw [wrap64 (by omega) (by omega)]; omega
    have hK2 : ∀ j, K (.exit 6) (mkJ 90 [(1, .pt 0 0 0 0 0), (3, .sl 1 0 1 0 4), (4, .v (.int .i64 h)), (6, .v (.int .i64 (1 : Nat)))] j)
        (toHf3 d h (fun s => if s = 1 then 2 ^ h + 1 else (fun s => if s = 1 then p s + 1 else p s) s)) [] := fun j => by
      have := hK j
      have e : (fun s => if s = 1 then 2 ^ h + 1 else (fun s => if s = 1 then p s + 1 else p s) s) = (fun s => if s = 1 then 2 ^ h + 1 else p s) := by
        funext s; split <;> simp_all
      rw [e]; exact this
    have next := ih (k + 1) (n + 59) (fun s => if s = 1 then p s + 1 else p s) (by omega) (by omega) (by simp [hpk]) hK2
    clear hK hK2 ih
    have hkb : k < 2 ^ h + 1 := by omega
    obtain ⟨ov, hov⟩ := to_get 3 d 1 h k (p 1) hkb
    conv => whnf
    refine ⟨by rw [eu]; omega, ?_⟩
    conv => whnf
    rw [es]
    refine cndK_intro (fun h2 => ?_) (fun h2 => ?_)
    rotate_left
    · exfalso
      simp only [decide_eq_false_iff_not] at h2
      omega
    conv => whnf
    refine cndK_intro (fun h3 => ?_) (fun h3 => ?_)
    · have hk0 : k = 0 := by simp at h3; omega
      have hv : (lvl 3 d h 1)[k]? = some (if (3 : Nat) = 1 then 1 - (k : Int) else (k : Int) * ([0, 1, 1, 2] : List Int).getD 1 0) := by
        rw [hk0]; exact lvl_get0 3 d h 1
      conv => whnf
      try (rw [h3]; conv => whnf)
      refine Or.inl ⟨14, by kernel_rfl, ?_⟩
      conv => whnf
      refine ⟨⟨by decide, by decide⟩, ?_⟩
      conv => whnf
      refine ⟨⟨by omega, by omega⟩, ?_⟩
      conv => whnf
      refine optK_intro _ (nest_last (rowsZ 3 d 1 h) _ _ (by rw [rowsZ_length]; simp)) ?_
      conv => whnf
      refine ⟨_, start_pure 3 1 k (by decide) (by omega) (by omega), ?_⟩
      conv => whnf
      refine ⟨⟨by omega, by omega⟩, ?_⟩
      conv => whnf
      refine optK_intro _ hov ?_
      conv => whnf
      rw [ek]
      refine wk_mask [false, true, false, true, true, false, true, true] _ rfl ?_
      rw [to_set 3 d 1 h k (p 1) hpk _ hv]
      exact next
    · have h0 : ((h : Int) == 0) = false := by simp; omega
      conv => whnf
      try (rw [h3]; conv => whnf)
      rw [h0]
      conv => whnf
      refine Or.inl ⟨18, by kernel_rfl, ?_⟩
      conv => whnf
      refine ⟨⟨by decide, by decide⟩, ?_⟩
      conv => whnf
      refine ⟨⟨by omega, by omega⟩, ?_⟩
      conv => whnf
      refine optK_intro _ (nest_last (rowsZ 3 d 1 h) _ _ (by rw [rowsZ_length]; simp)) ?_
      conv => whnf
      refine ⟨Nat.le_refl _, Or.inl ?_⟩
      conv => whnf
      refine ⟨by simp [nest2, rowsZ], Or.inr ⟨_, to_rows (toHf3 d h p) (rowsZ 3 d 0 h) (fillL (lvl 3 d h 0) (p 0)) 6 0 (2 ^ h + 1) (h + 1) rfl (by rw [fillL_length, lvl_length]) (by rw [rowsZ_length]), ?_⟩⟩
      conv => whnf
      refine ⟨by simp [nest2, rowsZ], Or.inr ⟨_, to_rows (toHf3 d h p) (rowsZ 3 d 1 h) (fillL (lvl 3 d h 1) (p 1)) 8 0 (2 ^ h + 1) (h + 1) rfl (by rw [fillL_length, lvl_length]) (by rw [rowsZ_length]), ?_⟩⟩
      conv => whnf
      refine ⟨by simp [nest2, rowsZ], Or.inr ⟨_, to_rows (toHf3 d h p) (rowsZ 3 d 2 h) (fillL (lvl 3 d h 2) (p 2)) 10 0 (2 ^ h + 1) (h + 1) rfl (by rw [fillL_length, lvl_length]) (by rw [rowsZ_length]), ?_⟩⟩
      conv => whnf
      refine ⟨by simp [nest2, rowsZ], Or.inr ⟨_, to_rows (toHf3 d h p) (rowsZ 3 d 3 h) (fillL (lvl 3 d h 3) (p 3)) 12 0 (2 ^ h + 1) (h + 1) rfl (by rw [fillL_length, lvl_length]) (by rw [rowsZ_length]), ?_⟩⟩
      conv => whnf

      obtain ⟨g, rfl⟩ : ∃ g, h = g + 1 := ⟨h - 1, by omega⟩
      have hall : ∀ b, b < 4 → RowAt [rowsZ 3 d 0 (g + 1) ++ [fillL (lvl 3 d (g + 1) 0) (p 0)], rowsZ 3 d 1 (g + 1) ++ [fillL (lvl 3 d (g + 1) 1) (p 1)], rowsZ 3 d 2 (g + 1) ++ [fillL (lvl 3 d (g + 1) 2) (p 2)], rowsZ 3 d 3 (g + 1) ++ [fillL (lvl 3 d (g + 1) 3) (p 3)]] b g (lvl 3 d g b) := fun b hb => by
        match b, hb with
        | 0, _ => exact ⟨_, rfl, rowsZ_get ..⟩
        | 1, _ => exact ⟨_, rfl, rowsZ_get ..⟩
        | 2, _ => exact ⟨_, rfl, rowsZ_get ..⟩
        | 3, _ => exact ⟨_, rfl, rowsZ_get ..⟩
      have hk0 : k ≠ 0 := by simp at h3; omega
      refine ⟨_, best3_pure 3 d 1 g k [rowsZ 3 d 0 (g + 1) ++ [fillL (lvl 3 d (g + 1) 0) (p 0)], rowsZ 3 d 1 (g + 1) ++ [fillL (lvl 3 d (g + 1) 1) (p 1)], rowsZ 3 d 2 (g + 1) ++ [fillL (lvl 3 d (g + 1) 2) (p 2)], rowsZ 3 d 3 (g + 1) ++ [fillL (lvl 3 d (g + 1) 3) (p 3)]] (lvl 3 d g 0) (lvl 3 d g (belowN 3 d 1 (g + 1))) (by decide) (by decide) (by decide) (by decide) hh hd (hall 0 (by decide))
        (fun hne => hall _ (by first | exact absurd rfl hne | exact (by decide : 1 < 2) | exact belowN_lt _ _ _ _ (by decide))) (lvl_length ..) (fun _ => lvl_length ..) (lvl_small 3 d g 0 (by omega)) (fun _ => lvl_small 3 d g _ (by omega)) (by omega), ?_⟩
      conv => whnf
      refine ⟨⟨by omega, by omega⟩, ?_⟩
      conv => whnf
      refine optK_intro _ hov ?_
      conv => whnf
      rw [ek]
      refine wk_mask [false, true, false, true, true, false, true, true] _ rfl ?_
      rw [to_set 3 d 1 (g + 1) k (p 1) hpk _ (lvl_getS 3 d g 1 k hk0 hkb)]
      exact next
theorem to_row_3_2 (E : EqT) (d h : Nat) (h1 : 1 ≤ h) (hh : h ≤ d) (hd : d ≤ 6) (K : K) :
    ∀ (c k n : Nat) (p : Nat → Nat), k + c = 2 ^ h + 1 → c + 60 ≤ n → p 2 = k →
      (∀ j, K (.exit 6) (mkJ 90 [(1, .pt 0 0 0 0 0), (3, .sl 1 0 1 0 4), (4, .v (.int .i64 h)), (6, .v (.int .i64 (2 : Nat)))] j) (toHf3 d h (fun s => if s = 2 then 2 ^ h + 1 else p s)) []) →
      loopF (run Go.Proofs.Try.prog E (envL Go.Proofs.Try.prog toEnv) n) 0 0 (loopB Go.Proofs.Try.prog 42 3) (mkT 90 [(1, .pt 0 0 0 0 0), (3, .sl 1 0 1 0 4), (4, .v (.int .i64 h)), (6, .v (.int .i64 (2 : Nat))), (7, .v (.int .i64 k))]) (toHf3 d h p) [] K := by
  intro c
  have hp6 := pow_le6 (show h ≤ 6 by omega)
  have eu : IntKind.u64.wrap (h : Int) = (h : Int) := by simp [IntKind.wrap, IntKind.bits, IntKind.signed]; omega
  have es : IntKind.i64.wrap (1 * 2 ^ min (IntKind.u64.wrap (h : Int)).toNat IntKind.i64.bits) = ((2 ^ h : Nat) : Int) := by rw [eu]; exact shl1 (by omega)
  induction c with
  | zero =>
    intro k n p hi hn hpk hK
    obtain ⟨n, rfl⟩ : ∃ m, n = m + 60 := ⟨n - 60, by omega⟩
    have e : (fun s => if s = 2 then 2 ^ h + 1 else p s) = p := by
      funext s; split
      · rename_i hs; subst hs; omega
      · rfl
    rw [e] at hK
    conv => whnf
    refine ⟨by rw [eu]; omega, ?_⟩
    conv => whnf
    rw [es]
    refine cndK_intro (fun h => ?_) (fun h => ?_)
    · exfalso
      simp only [decide_eq_true_eq] at h
      omega
    · conv => whnf
      exact useJ hK rfl
  | succ c ih =>
    intro k n p hi hn hpk hK
    obtain ⟨n, rfl⟩ : ∃ m, n = m + 60 := ⟨n - 60, by omega⟩
    have ek : IntKind.i64.wrap ((k : Int) + 1) = ((k + 1 : Nat) : Int) := by rw [wrap64 (by omega) (by omega)]; omega
    have hK2 : ∀ j, K (.exit 6) (mkJ 90 [(1, .pt 0 0 0 0 0), (3, .sl 1 0 1 0 4), (4, .v (.int .i64 h)), (6, .v (.int .i64 (2 : Nat)))] j)
        (toHf3 d h (fun s => if s = 2 then 2 ^ h + 1 else (fun s => if s = 2 then p s + 1 else p s) s)) [] := fun j => by
      have := hK j
      have e : (fun s => if s = 2 then 2 ^ h + 1 else (fun s => if s = 2 then p s + 1 else p s) s) = (fun s => if s = 2 then 2 ^ h + 1 else p s) := by
        funext s; split <;> simp_all
      rw [e]; exact this
    have next := ih (k + 1) (n + 59) (fun s => if s = 2 then p s + 1 else p s) (by omega) (by omega) (by simp [hpk]) hK2
    clear hK hK2 ih
    have hkb : k < 2 ^ h + 1 := by omega
    obtain ⟨ov, hov⟩ := to_get 3 d 2 h k (p 2) hkb
    conv => whnf
    refine ⟨by rw [eu]; omega, ?_⟩
    conv => whnf
    rw [es]
    refine cndK_intro (fun h2 => ?_) (fun h2 => ?_)
    rotate_left
    · exfalso
      simp only [decide_eq_false_iff_not] at h2
      omega
    conv => whnf
    refine cndK_intro (fun h3 => ?_) (fun h3 => ?_)
    · have hk0 : k = 0 := by simp at h3; omega
      have hv : (lvl 3 d h 2)[k]? = some (if (3 : Nat) = 1 then 1 - (k : Int) else (k : Int) * ([0, 1, 1, 2] : List Int).getD 2 0) := by
        rw [hk0]; exact lvl_get0 3 d h 2
      conv => whnf
      try (rw [h3]; conv => whnf)
      refine Or.inl ⟨14, by kernel_rfl, ?_⟩
      conv => whnf
      refine ⟨⟨by decide, by decide⟩, ?_⟩
      conv => whnf
      refine ⟨⟨by omega, by omega⟩, ?_⟩
      conv => whnf
      refine optK_intro _ (nest_last (rowsZ 3 d 2 h) _ _ (by rw [rowsZ_length]; simp)) ?_
      conv => whnf
      refine ⟨_, start_pure 3 2 k (by decide) (by omega) (by omega), ?_⟩
      conv => whnf
      refine ⟨⟨by omega, by omega⟩, ?_⟩
      conv => whnf
      refine optK_intro _ hov ?_
      conv => whnf
      rw [ek]
      refine wk_mask [false, true, false, true, true, false, true, true] _ rfl ?_
      rw [to_set 3 d 2 h k (p 2) hpk _ hv]
      exact next
    · have h0 : ((h : Int) == 0) = false := by simp; omega
      conv => whnf
      try (rw [h3]; conv => whnf)
      rw [h0]
      conv => whnf
      refine Or.inl ⟨18, by kernel_rfl, ?_⟩
      conv => whnf
      refine ⟨⟨by decide, by decide⟩, ?_⟩
      conv => whnf
      refine ⟨⟨by omega, by omega⟩, ?_⟩
      conv => whnf
      refine optK_intro _ (nest_last (rowsZ 3 d 2 h) _ _ (by rw [rowsZ_length]; simp)) ?_
      conv => whnf
      refine ⟨Nat.le_refl _, Or.inl ?_⟩
      conv => whnf
      refine ⟨by simp [nest2, rowsZ], Or.inr ⟨_, to_rows (toHf3 d h p) (rowsZ 3 d 0 h) (fillL (lvl 3 d h 0) (p 0)) 6 0 (2 ^ h + 1) (h + 1) rfl (by rw [fillL_length, lvl_length]) (by rw [rowsZ_length]), ?_⟩⟩
      conv => whnf
      refine ⟨by simp [nest2, rowsZ], Or.inr ⟨_, to_rows (toHf3 d h p) (rowsZ 3 d 1 h) (fillL (lvl 3 d h 1) (p 1)) 8 0 (2 ^ h + 1) (h + 1) rfl (by rw [fillL_length, lvl_length]) (by rw [rowsZ_length]), ?_⟩⟩
      conv => whnf
      refine ⟨by simp [nest2, rowsZ], Or.inr ⟨_, to_rows (toHf3 d h p) (rowsZ 3 d 2 h) (fillL (lvl 3 d h 2) (p 2)) 10 0 (2 ^ h + 1) (h + 1) rfl (by rw [fillL_length, lvl_length]) (by rw [rowsZ_length]), ?_⟩⟩
      conv => whnf
      refine ⟨by simp [nest2, rowsZ], Or.inr ⟨_, to_rows (toHf3 d h p) (rowsZ 3 d 3 h) (fillL (lvl 3 d h 3) (p 3)) 12 0 (2 ^ h + 1) (h + 1) rfl (by rw [fillL_length, lvl_length]) (by rw [rowsZ_length]), ?_⟩⟩
      conv => whnf

      obtain ⟨g, rfl⟩ : ∃ g, h = g + 1 := ⟨h - 1, by omega⟩
      have hall : ∀ b, b < 4 → RowAt [rowsZ 3 d 0 (g + 1) ++ [fillL (lvl 3 d (g + 1) 0) (p 0)], rowsZ 3 d 1 (g + 1) ++ [fillL (lvl 3 d (g + 1) 1) (p 1)], rowsZ 3 d 2 (g + 1) ++ [fillL (lvl 3 d (g + 1) 2) (p 2)], rowsZ 3 d 3 (g + 1) ++ [fillL (lvl 3 d (g + 1) 3) (p 3)]] b g (lvl 3 d g b) := fun b hb => by
        match b, hb with
        | 0, _ => exact ⟨_, rfl, rowsZ_get ..⟩
        | 1, _ => exact ⟨_, rfl, rowsZ_get ..⟩
        | 2, _ => exact ⟨_, rfl, rowsZ_get ..⟩
        | 3, _ => exact ⟨_, rfl, rowsZ_get ..⟩
      have hk0 : k ≠ 0 := by simp at h3; omega
      refine ⟨_, best3_pure 3 d 2 g k [rowsZ 3 d 0 (g + 1) ++ [fillL (lvl 3 d (g + 1) 0) (p 0)], rowsZ 3 d 1 (g + 1) ++ [fillL (lvl 3 d (g + 1) 1) (p 1)], rowsZ 3 d 2 (g + 1) ++ [fillL (lvl 3 d (g + 1) 2) (p 2)], rowsZ 3 d 3 (g + 1) ++ [fillL (lvl 3 d (g + 1) 3) (p 3)]] (lvl 3 d g 0) (lvl 3 d g (belowN 3 d 2 (g + 1))) (by decide) (by decide) (by decide) (by decide) hh hd (hall 0 (by decide))
        (fun hne => hall _ (by first | exact absurd rfl hne | exact (by decide : 1 < 2) | exact belowN_lt _ _ _ _ (by decide))) (lvl_length ..) (fun _ => lvl_length ..) (lvl_small 3 d g 0 (by omega)) (fun _ => lvl_small 3 d g _ (by omega)) (by omega), ?_⟩
      conv => whnf
      refine ⟨⟨by omega, by omega⟩, ?_⟩
      conv => whnf
      refine optK_intro _ hov ?_
      conv => whnf
      rw [ek]
      refine wk_mask [false, true, false, true, true, false, true, true] _ rfl ?_
      rw [to_set 3 d 2 (g + 1) k (p 2) hpk _ (lvl_getS 3 d g 2 k hk0 hkb)]
      exact next
theorem to_row_3_3 (E : EqT) (d h : Nat) (h1 : 1 ≤ h) (hh : h ≤ d) (hd : d ≤ 6) (K : K) :
    ∀ (c k n : Nat) (p : Nat → Nat), k + c = 2 ^ h + 1 → c + 60 ≤ n → p 3 = k →
      (∀ j, K (.exit 6) (mkJ 90 [(1, .pt 0 0 0 0 0), (3, .sl 1 0 1 0 4), (4, .v (.int .i64 h)), (6, .v (.int .i64 (3 : Nat)))] j) (toHf3 d h (fun s => if s = 3 then 2 ^ h + 1 else p s)) []) →
      loopF (run Go.Proofs.Try.prog E (envL Go.Proofs.Try.prog toEnv) n) 0 0 (loopB Go.Proofs.Try.prog 42 3) (mkT 90 [(1, .pt 0 0 0 0 0), (3, .sl 1 0 1 0 4), (4, .v (.int .i64 h)), (6, .v (.int .i64 (3 : Nat))), (7, .v (.int .i64 k))]) (toHf3 d h p) [] K := by
  intro c
  have hp6 := pow_le6 (show h ≤ 6 by omega)
  have eu : IntKind.u64.wrap (h : Int) = (h : Int) := by simp [IntKind.wrap, IntKind.bits, IntKind.signed]; omega
  have es : IntKind.i64.wrap (1 * 2 ^ min (IntKind.u64.wrap (h : Int)).toNat IntKind.i64.bits) = ((2 ^ h : Nat) : Int) := by rw [eu]; exact shl1 (by omega)
  induction c with
  | zero =>
    intro k n p hi hn hpk hK
    obtain ⟨n, rfl⟩ : ∃ m, n = m + 60 := ⟨n - 60, by omega⟩
    have e : (fun s => if s = 3 then 2 ^ h + 1 else p s) = p := by
      funext s; split
      · rename_i hs; subst hs; omega
      · rfl
    rw [e] at hK
    conv => whnf
    refine ⟨by rw [eu]; omega, ?_⟩
    conv => whnf
    rw [es]
    refine cndK_intro (fun h => ?_) (fun h => ?_)
    · exfalso
      simp only [decide_eq_true_eq] at h
      omega
    · conv => whnf
      exact useJ hK rfl
  | succ c ih =>
    intro k n p hi hn hpk hK
    obtain ⟨n, rfl⟩ : ∃ m, n = m + 60 := ⟨n - 60, by omega⟩
    have ek : IntKind.i64.wrap ((k : Int) + 1) = ((k + 1 : Nat) : Int) := by rw [wrap64 (by omega) (by omega)]; omega
    have hK2 : ∀ j, K (.exit 6) (mkJ 90 [(1, .pt 0 0 0 0 0), (3, .sl 1 0 1 0 4), (4, .v (.int .i64 h)), (6, .v (.int .i64 (3 : Nat)))] j)
        (toHf3 d h (fun s => if s = 3 then 2 ^ h + 1 else (fun s => if s = 3 then p s + 1 else p s) s)) [] := fun j => by
      have := hK j
      have e : (fun s => if s = 3 then 2 ^ h + 1 else (fun s => if s = 3 then p s + 1 else p s) s) = (fun s => if s = 3 then 2 ^ h + 1 else p s) := by
        funext s; split <;> simp_all
      rw [e]; exact this
    have next := ih (k + 1) (n + 59) (fun s => if s = 3 then p s + 1 else p s) (by omega) (by omega) (by simp [hpk]) hK2
    clear hK hK2 ih
    have hkb : k < 2 ^ h + 1 := by omega
    obtain ⟨ov, hov⟩ := to_get 3 d 3 h k (p 3) hkb
    conv => whnf
    refine ⟨by rw [eu]; omega, ?_⟩
    conv => whnf
    rw [es]
    refine cndK_intro (fun h2 => ?_) (fun h2 => ?_)
    rotate_left
    · exfalso
      simp only [decide_eq_false_iff_not] at h2
      omega
    conv => whnf
    refine cndK_intro (fun h3 => ?_) (fun h3 => ?_)
    · have hk0 : k = 0 := by simp at h3; omega
      have hv : (lvl 3 d h 3)[k]? = some (if (3 : Nat) = 1 then 1 - (k : Int) else (k : Int) * ([0, 1, 1, 2] : List Int).getD 3 0) := by
        rw [hk0]; exact lvl_get0 3 d h 3
      conv => whnf
      try (rw [h3]; conv => whnf)
      refine Or.inl ⟨14, by kernel_rfl, ?_⟩
      conv => whnf
      refine ⟨⟨by decide, by decide⟩, ?_⟩
      conv => whnf
      refine ⟨⟨by omega, by omega⟩, ?_⟩
      conv => whnf
      refine optK_intro _ (nest_last (rowsZ 3 d 3 h) _ _ (by rw [rowsZ_length]; simp)) ?_
      conv => whnf
      refine ⟨_, start_pure 3 3 k (by decide) (by omega) (by omega), ?_⟩
      conv => whnf
      refine ⟨⟨by omega, by omega⟩, ?_⟩
      conv => whnf
      refine optK_intro _ hov ?_
      conv => whnf
      rw [ek]
      refine wk_mask [false, true, false, true, true, false, true, true] _ rfl ?_
      rw [to_set 3 d 3 h k (p 3) hpk _ hv]
      exact next
    · have h0 : ((h : Int) == 0) = false := by simp; omega
      conv => whnf
      try (rw [h3]; conv => whnf)
      rw [h0]
      conv => whnf
      refine Or.inl ⟨18, by kernel_rfl, ?_⟩
      conv => whnf
      refine ⟨⟨by decide, by decide⟩, ?_⟩
      conv => whnf
      refine ⟨⟨by omega, by omega⟩, ?_⟩
      conv => whnf
      refine optK_intro _ (nest_last (rowsZ 3 d 3 h) _ _ (by rw [rowsZ_length]; simp)) ?_
      conv => whnf
      refine ⟨Nat.le_refl _, Or.inl ?_⟩
      conv => whnf
      refine ⟨by simp [nest2, rowsZ], Or.inr ⟨_, to_rows (toHf3 d h p) (rowsZ 3 d 0 h) (fillL (lvl 3 d h 0) (p 0)) 6 0 (2 ^ h + 1) (h + 1) rfl (by rw [fillL_length, lvl_length]) (by rw [rowsZ_length]), ?_⟩⟩
      conv => whnf
      refine ⟨by simp [nest2, rowsZ], Or.inr ⟨_, to_rows (toHf3 d h p) (rowsZ 3 d 1 h) (fillL (lvl 3 d h 1) (p 1)) 8 0 (2 ^ h + 1) (h + 1) rfl (by rw [fillL_length, lvl_length]) (by rw [rowsZ_length]), ?_⟩⟩
      conv => whnf
      refine ⟨by simp [nest2, rowsZ], Or.inr ⟨_, to_rows (toHf3 d h p) (rowsZ 3 d 2 h) (fillL (lvl 3 d h 2) (p 2)) 10 0 (2 ^ h + 1) (h + 1) rfl (by rw [fillL_length, lvl_length]) (by rw [rowsZ_length]), ?_⟩⟩
      conv => whnf
      refine ⟨by simp [nest2, rowsZ], Or.inr ⟨_, to_rows (toHf3 d h p) (rowsZ 3 d 3 h) (fillL (lvl 3 d h 3) (p 3)) 12 0 (2 ^ h + 1) (h + 1) rfl (by rw [fillL_length, lvl_length]) (by rw [rowsZ_length]), ?_⟩⟩
      conv => whnf

      obtain ⟨g, rfl⟩ : ∃ g, h = g + 1 := ⟨h - 1, by omega⟩
      have hall : ∀ b, b < 4 → RowAt [rowsZ 3 d 0 (g + 1) ++ [fillL (lvl 3 d (g + 1) 0) (p 0)], rowsZ 3 d 1 (g + 1) ++ [fillL (lvl 3 d (g + 1) 1) (p 1)], rowsZ 3 d 2 (g + 1) ++ [fillL (lvl 3 d (g + 1) 2) (p 2)], rowsZ 3 d 3 (g + 1) ++ [fillL (lvl 3 d (g + 1) 3) (p 3)]] b g (lvl 3 d g b) := fun b hb => by
        match b, hb with
        | 0, _ => exact ⟨_, rfl, rowsZ_get ..⟩
        | 1, _ => exact ⟨_, rfl, rowsZ_get ..⟩
        | 2, _ => exact ⟨_, rfl, rowsZ_get ..⟩
        | 3, _ => exact ⟨_, rfl, rowsZ_get ..⟩
      have hk0 : k ≠ 0 := by simp at h3; omega
      refine ⟨_, best3_pure 3 d 3 g k [rowsZ 3 d 0 (g + 1) ++ [fillL (lvl 3 d (g + 1) 0) (p 0)], rowsZ 3 d 1 (g + 1) ++ [fillL (lvl 3 d (g + 1) 1) (p 1)], rowsZ 3 d 2 (g + 1) ++ [fillL (lvl 3 d (g + 1) 2) (p 2)], rowsZ 3 d 3 (g + 1) ++ [fillL (lvl 3 d (g + 1) 3) (p 3)]] (lvl 3 d g 0) (lvl 3 d g (belowN 3 d 3 (g + 1))) (by decide) (by decide) (by decide) (by decide) hh hd (hall 0 (by decide))
        (fun hne => hall _ (by first | exact absurd rfl hne | exact (by decide : 1 < 2) | exact belowN_lt _ _ _ _ (by decide))) (lvl_length ..) (fun _ => lvl_length ..) (lvl_small 3 d g 0 (by omega)) (fun _ => lvl_small 3 d g _ (by omega)) (by omega), ?_⟩
      conv => whnf
      refine ⟨⟨by omega, by omega⟩, ?_⟩
      conv => whnf
      refine optK_intro _ hov ?_
      conv => whnf
      rw [ek]
      refine wk_mask [false, true, false, true, true, false, true, true] _ rfl ?_
      rw [to_set 3 d 3 (g + 1) k (p 3) hpk _ (lvl_getS 3 d g 3 k hk0 hkb)]
      exact next
theorem to_loop_1 (E : EqT) (d : Nat) (hd : d ≤ 6) (K : K) : ∀ (c h n : Nat), h + c = d + 1 → 1 ≤ h → c + 300 ≤ n →
      (∀ j, K (.exit 0) (mkJ 90 [(1, .pt 0 0 0 0 0), (3, .sl 1 0 1 0 1)] j) (toHp1 d (d + 1)) []) →
      loopF (run Go.Proofs.Try.prog E (envL Go.Proofs.Try.prog toEnv) n) 0 0 (loopB Go.Proofs.Try.prog 42 0) (mkT 90 [(1, .pt 0 0 0 0 0), (3, .sl 1 0 1 0 1), (4, .v (.int .i64 h))]) (toHp1 d h) [] K := by
  intro c
  induction c with
  | zero =>
    intro h n hi hh hn hK
    obtain ⟨n, rfl⟩ : ∃ m, n = m + 300 := ⟨n - 300, by omega⟩
    obtain rfl : h = d + 1 := by omega
    conv => whnf
    refine cndK_intro (fun h => ?_) (fun h => ?_)
    · exfalso
      simp only [decide_eq_true_eq] at h
      omega
    · conv => whnf
      exact useJ hK rfl
  | succ c ih =>
    intro h n hi hh hn hK
    obtain ⟨n, rfl⟩ : ∃ m, n = m + 300 := ⟨n - 300, by omega⟩
    have hp6 := pow_le6 (show h ≤ 6 by omega)
    have eu : IntKind.u64.wrap (h : Int) = (h : Int) := by simp [IntKind.wrap, IntKind.bits, IntKind.signed]; omega
    have es : IntKind.i64.wrap (1 * 2 ^ min (IntKind.u64.wrap (h : Int)).toNat IntKind.i64.bits) = ((2 ^ h : Nat) : Int) := by rw [eu]; exact shl1 (by omega)
    have e1 : IntKind.i64.wrap (1 + ((2 ^ h : Nat) : Int)) = ((2 ^ h + 1 : Nat) : Int) := by rw [wrap64 (by omega) (by omega)]; omega
    have eh : IntKind.i64.wrap ((h : Int) + 1) = ((h + 1 : Nat) : Int) := by rw [wrap64 (by omega) (by omega)]; omega
    have next := ih (h + 1) (n + 299) (by omega) (by omega) (by omega) hK
    clear ih hK
    conv => whnf
    refine cndK_intro (fun h2 => ?_) (fun h2 => ?_)
    rotate_left
    · exfalso
      simp only [decide_eq_false_iff_not] at h2
      omega
    conv => whnf
    refine wk_none ?_
    conv => whnf
    refine Or.inl ⟨12, by kernel_rfl, ?_⟩
    conv => whnf
    refine ⟨⟨by decide, by decide⟩, ?_⟩
    conv => whnf
    refine ⟨by rw [eu]; omega, ?_⟩
    conv => whnf
    rw [es, e1]
    refine ⟨⟨by omega, by omega, by show ((2 ^ h + 1 : Nat) : Int) * ((8 : Nat) : Int) ≤ 70368744177664; omega⟩, ?_⟩
    conv => whnf
    rw [to_repl 1 d h 0]
    refine ⟨by rw [ints_length, fillL_length, lvl_length]; simp, ?_⟩
    conv => whnf
    refine ⟨Nat.le_refl 1, ?_⟩
    conv => whnf
    refine ⟨⟨rfl, by rw [nest2_length, rowsZ_length]; exact Nat.le_refl _, by show ((h + 1 : Nat) : Int) * ((24 : Nat) : Int) ≤ 70368744177664; omega, by simp [cellsOf]⟩,
      nest2 (rowsZ 1 d 0 h) ++ [[A.sl 3 0 1 0 (2 ^ h + 1)]], by rw [List.take_of_length_le (by rw [nest2_length, rowsZ_length]; exact Nat.le_refl _)]; rfl, ?_⟩
    conv => whnf
    refine ⟨⟨by decide, by decide⟩, ?_⟩
    conv => whnf
    refine wk_none ?_
    conv => whnf
    refine wk_mask [false, true, false, true, true, false, true] (mkT 90 [(1, .pt 0 0 0 0 0), (3, .sl 1 0 1 0 1), (4, .v (.int .i64 h)), (6, .v (.int .i64 (0 : Nat)))]) rfl ?_
    conv => whnf
    refine wk_mask [false, true, false, true, true, false, true, true] (mkT 90 [(1, .pt 0 0 0 0 0), (3, .sl 1 0 1 0 1), (4, .v (.int .i64 h)), (6, .v (.int .i64 (0 : Nat))), (7, .v (.int .i64 (0 : Nat)))]) rfl ?_
    refine to_row_1_0 E d h hh (by omega) hd _ (2 ^ h + 1) 0 (n + 287) (fun _ => 0) (by omega) (by omega) rfl fun j => ?_
    rw [show toHf1 d h _ = toHm1 d h from by simp [toHf1, toHm1, fillL_all, lvl_length]]
    conv => whnf
    refine wk_none ?_
    conv => whnf
    rw [eh]
    refine wk_then (ts1 := (mkT 90 [(1, .pt 0 0 0 0 0), (3, .sl 1 0 1 0 1), (4, .v (.int .i64 (h + 1 : Nat)))])) (hp1 := toHm1 d h) (lp1 := []) (Wk.mask [false, true, false, true, true]) ?_
    exact to_end_1 d h _ next
theorem to_loop_2 (E : EqT) (d : Nat) (hd : d ≤ 6) (K : K) : ∀ (c h n : Nat), h + c = d + 1 → 1 ≤ h → c + 300 ≤ n →
      (∀ j, K (.exit 0) (mkJ 90 [(1, .pt 0 0 0 0 0), (3, .sl 1 0 1 0 2)] j) (toHp2 d (d + 1)) []) →
      loopF (run Go.Proofs.Try.prog E (envL Go.Proofs.Try.prog toEnv) n) 0 0 (loopB Go.Proofs.Try.prog 42 0) (mkT 90 [(1, .pt 0 0 0 0 0), (3, .sl 1 0 1 0 2), (4, .v (.int .i64 h))]) (toHp2 d h) [] K := by
  intro c
  induction c with
  | zero =>
    intro h n hi hh hn hK
    obtain ⟨n, rfl⟩ : ∃ m, n = m + 300 := ⟨n - 300, by omega⟩
    obtain rfl : h = d + 1 := by omega
    conv => whnf
    refine cndK_intro (fun h => ?_) (fun h => ?_)
    · exfalso
      simp only [decide_eq_true_eq] at h
      omega
    · conv => whnf
      exact useJ hK rfl
  | succ c ih =>
    intro h n hi hh hn hK
    obtain ⟨n, rfl⟩ : ∃ m, n = m + 300 := ⟨n - 300, by omega⟩
    have hp6 := pow_le6 (show h ≤ 6 by omega)
    have eu : IntKind.u64.wrap (h : Int) = (h : Int) := by simp [IntKind.wrap, IntKind.bits, IntKind.signed]; omega
    have es : IntKind.i64.wrap (1 * 2 ^ min (IntKind.u64.wrap (h : Int)).toNat IntKind.i64.bits) = ((2 ^ h : Nat) : Int) := by rw [eu]; exact shl1 (by omega)
    have e1 : IntKind.i64.wrap (1 + ((2 ^ h : Nat) : Int)) = ((2 ^ h + 1 : Nat) : Int) := by rw [wrap64 (by omega) (by omega)]; omega
    have eh : IntKind.i64.wrap ((h : Int) + 1) = ((h + 1 : Nat) : Int) := by rw [wrap64 (by omega) (by omega)]; omega
    have next := ih (h + 1) (n + 299) (by omega) (by omega) (by omega) hK
    clear ih hK
    conv => whnf
    refine cndK_intro (fun h2 => ?_) (fun h2 => ?_)
    rotate_left
    · exfalso
      simp only [decide_eq_false_iff_not] at h2
      omega
    conv => whnf
    refine wk_none ?_
    conv => whnf
    refine Or.inl ⟨12, by kernel_rfl, ?_⟩
    conv => whnf
    refine ⟨⟨by decide, by decide⟩, ?_⟩
    conv => whnf
    refine ⟨by rw [eu]; omega, ?_⟩
    conv => whnf
    rw [es, e1]
    refine ⟨⟨by omega, by omega, by show ((2 ^ h + 1 : Nat) : Int) * ((8 : Nat) : Int) ≤ 70368744177664; omega⟩, ?_⟩
    conv => whnf
    rw [to_repl 2 d h 0]
    refine ⟨by rw [ints_length, fillL_length, lvl_length]; simp, ?_⟩
    conv => whnf
    refine ⟨Nat.le_refl 1, ?_⟩
    conv => whnf
    refine ⟨⟨rfl, by rw [nest2_length, rowsZ_length]; exact Nat.le_refl _, by show ((h + 1 : Nat) : Int) * ((24 : Nat) : Int) ≤ 70368744177664; omega, by simp [cellsOf]⟩,
      nest2 (rowsZ 2 d 0 h) ++ [[A.sl 4 0 1 0 (2 ^ h + 1)]], by rw [List.take_of_length_le (by rw [nest2_length, rowsZ_length]; exact Nat.le_refl _)]; rfl, ?_⟩
    conv => whnf
    refine ⟨⟨by decide, by decide⟩, ?_⟩
    conv => whnf
    refine wk_none ?_
    conv => whnf
    refine Or.inl ⟨12, by kernel_rfl, ?_⟩
    conv => whnf
    refine ⟨⟨by decide, by decide⟩, ?_⟩
    conv => whnf
    refine ⟨by rw [eu]; omega, ?_⟩
    conv => whnf
    rw [es, e1]
    refine ⟨⟨by omega, by omega, by show ((2 ^ h + 1 : Nat) : Int) * ((8 : Nat) : Int) ≤ 70368744177664; omega⟩, ?_⟩
    conv => whnf
    rw [to_repl 2 d h 1]
    refine ⟨by rw [ints_length, fillL_length, lvl_length]; simp, ?_⟩
    conv => whnf
    refine ⟨Nat.le_refl 1, ?_⟩
    conv => whnf
    refine ⟨⟨rfl, by rw [nest2_length, rowsZ_length]; exact Nat.le_refl _, by show ((h + 1 : Nat) : Int) * ((24 : Nat) : Int) ≤ 70368744177664; omega, by simp [cellsOf]⟩,
      nest2 (rowsZ 2 d 1 h) ++ [[A.sl 6 0 1 0 (2 ^ h + 1)]], by rw [List.take_of_length_le (by rw [nest2_length, rowsZ_length]; exact Nat.le_refl _)]; rfl, ?_⟩
    conv => whnf
    refine ⟨⟨by decide, by decide⟩, ?_⟩
    conv => whnf
    refine wk_none ?_
    conv => whnf
    refine wk_mask [false, true, false, true, true, false, true] (mkT 90 [(1, .pt 0 0 0 0 0), (3, .sl 1 0 1 0 2), (4, .v (.int .i64 h)), (6, .v (.int .i64 (0 : Nat)))]) rfl ?_
    conv => whnf
    refine wk_mask [false, true, false, true, true, false, true, true] (mkT 90 [(1, .pt 0 0 0 0 0), (3, .sl 1 0 1 0 2), (4, .v (.int .i64 h)), (6, .v (.int .i64 (0 : Nat))), (7, .v (.int .i64 (0 : Nat)))]) rfl ?_
    refine to_row_2_0 E d h hh (by omega) hd _ (2 ^ h + 1) 0 (n + 287) (fun _ => 0) (by omega) (by omega) rfl fun j => ?_
    conv => whnf
    refine wk_mask [false, true, false, true, true, false, true] (mkT 90 [(1, .pt 0 0 0 0 0), (3, .sl 1 0 1 0 2), (4, .v (.int .i64 h)), (6, .v (.int .i64 (1 : Nat)))]) rfl ?_
    conv => whnf
    refine wk_mask [false, true, false, true, true, false, true, true] (mkT 90 [(1, .pt 0 0 0 0 0), (3, .sl 1 0 1 0 2), (4, .v (.int .i64 h)), (6, .v (.int .i64 (1 : Nat))), (7, .v (.int .i64 (0 : Nat)))]) rfl ?_
    refine to_row_2_1 E d h hh (by omega) hd _ (2 ^ h + 1) 0 (n + 286) (fun s => if s = 0 then 2 ^ h + 1 else (fun _ => 0) s) (by omega) (by omega) rfl fun j => ?_
    rw [show toHf2 d h _ = toHm2 d h from by simp [toHf2, toHm2, fillL_all, lvl_length]]
    conv => whnf
    refine wk_none ?_
    conv => whnf
    rw [eh]
    refine wk_then (ts1 := (mkT 90 [(1, .pt 0 0 0 0 0), (3, .sl 1 0 1 0 2), (4, .v (.int .i64 (h + 1 : Nat)))])) (hp1 := toHm2 d h) (lp1 := []) (Wk.mask [false, true, false, true, true]) ?_
    exact to_end_2 d h _ next
theorem to_loop_3 (E : EqT) (d : Nat) (hd : d ≤ 6) (K : K) : ∀ (c h n : Nat), h + c = d + 1 → 1 ≤ h → c + 300 ≤ n →
      (∀ j, K (.exit 0) (mkJ 90 [(1, .pt 0 0 0 0 0), (3, .sl 1 0 1 0 4)] j) (toHp3 d (d + 1)) []) →
      loopF (run Go.Proofs.Try.prog E (envL Go.Proofs.Try.prog toEnv) n) 0 0 (loopB Go.Proofs.Try.prog 42 0) (mkT 90 [(1, .pt 0 0 0 0 0), (3, .sl 1 0 1 0 4), (4, .v (.int .i64 h))]) (toHp3 d h) [] K := by
  intro c
  induction c with
  | zero =>
    intro h n hi hh hn hK
    obtain ⟨n, rfl⟩ : ∃ m, n = m + 300 := ⟨n - 300, by omega⟩
    obtain rfl : h = d + 1 := by omega
    conv => whnf
    refine cndK_intro (fun h => ?_) (fun h => ?_)
    · exfalso
      simp only [decide_eq_true_eq] at h
      omega
    · conv => whnf
      exact useJ hK rfl
  | succ c ih =>
    intro h n hi hh hn hK
    obtain ⟨n, rfl⟩ : ∃ m, n = m + 300 := ⟨n - 300, by omega⟩
    have hp6 := pow_le6 (show h ≤ 6 by omega)
    have eu : IntKind.u64.wrap (h : Int) = (h : Int) := by simp [IntKind.wrap, IntKind.bits, IntKind.signed]; omega
    have es : IntKind.i64.wrap (1 * 2 ^ min (IntKind.u64.wrap (h : Int)).toNat IntKind.i64.bits) = ((2 ^ h : Nat) : Int) := by rw [eu]; exact shl1 (by omega)
    have e1 : IntKind.i64.wrap (1 + ((2 ^ h : Nat) : Int)) = ((2 ^ h + 1 : Nat) : Int) := by rw [wrap64 (by omega) (by omega)]; omega
    have eh : IntKind.i64.wrap ((h : Int) + 1) = ((h + 1 : Nat) : Int) := by rw [wrap64 (by omega) (by omega)]; omega
    have next := ih (h + 1) (n + 299) (by omega) (by omega) (by omega) hK
    clear ih hK
    conv => whnf
    refine cndK_intro (fun h2 => ?_) (fun h2 => ?_)
    rotate_left
    · exfalso
      simp only [decide_eq_false_iff_not] at h2
      omega
    conv => whnf
    refine wk_none ?_
    conv => whnf
    refine Or.inl ⟨12, by kernel_rfl, ?_⟩
    conv => whnf
    refine ⟨⟨by decide, by decide⟩, ?_⟩
    conv => whnf
    refine ⟨by rw [eu]; omega, ?_⟩
    conv => whnf
    rw [es, e1]
    refine ⟨⟨by omega, by omega, by show ((2 ^ h + 1 : Nat) : Int) * ((8 : Nat) : Int) ≤ 70368744177664; omega⟩, ?_⟩
    conv => whnf
    rw [to_repl 3 d h 0]
    refine ⟨by rw [ints_length, fillL_length, lvl_length]; simp, ?_⟩
    conv => whnf
    refine ⟨Nat.le_refl 1, ?_⟩
    conv => whnf
    refine ⟨⟨rfl, by rw [nest2_length, rowsZ_length]; exact Nat.le_refl _, by show ((h + 1 : Nat) : Int) * ((24 : Nat) : Int) ≤ 70368744177664; omega, by simp [cellsOf]⟩,
      nest2 (rowsZ 3 d 0 h) ++ [[A.sl 6 0 1 0 (2 ^ h + 1)]], by rw [List.take_of_length_le (by rw [nest2_length, rowsZ_length]; exact Nat.le_refl _)]; rfl, ?_⟩
    conv => whnf
    refine ⟨⟨by decide, by decide⟩, ?_⟩
    conv => whnf
    refine wk_none ?_
    conv => whnf
    refine Or.inl ⟨12, by kernel_rfl, ?_⟩
    conv => whnf
    refine ⟨⟨by decide, by decide⟩, ?_⟩
    conv => whnf
    refine ⟨by rw [eu]; omega, ?_⟩
    conv => whnf
    rw [es, e1]
    refine ⟨⟨by omega, by omega, by show ((2 ^ h + 1 : Nat) : Int) * ((8 : Nat) : Int) ≤ 70368744177664; omega⟩, ?_⟩
    conv => whnf
    rw [to_repl 3 d h 1]
    refine ⟨by rw [ints_length, fillL_length, lvl_length]; simp, ?_⟩
    conv => whnf
    refine ⟨Nat.le_refl 1, ?_⟩
    conv => whnf
    refine ⟨⟨rfl, by rw [nest2_length, rowsZ_length]; exact Nat.le_refl _, by show ((h + 1 : Nat) : Int) * ((24 : Nat) : Int) ≤ 70368744177664; omega, by simp [cellsOf]⟩,
      nest2 (rowsZ 3 d 1 h) ++ [[A.sl 8 0 1 0 (2 ^ h + 1)]], by rw [List.take_of_length_le (by rw [nest2_length, rowsZ_length]; exact Nat.le_refl _)]; rfl, ?_⟩
    conv => whnf
    refine ⟨⟨by decide, by decide⟩, ?_⟩
    conv => whnf
    refine wk_none ?_
    conv => whnf
    refine Or.inl ⟨12, by kernel_rfl, ?_⟩
    conv => whnf
    refine ⟨⟨by decide, by decide⟩, ?_⟩
    conv => whnf
    refine ⟨by rw [eu]; omega, ?_⟩
    conv => whnf
    rw [es, e1]
    refine ⟨⟨by omega, by omega, by show ((2 ^ h + 1 : Nat) : Int) * ((8 : Nat) : Int) ≤ 70368744177664; omega⟩, ?_⟩
    conv => whnf
    rw [to_repl 3 d h 2]
    refine ⟨by rw [ints_length, fillL_length, lvl_length]; simp, ?_⟩
    conv => whnf
    refine ⟨Nat.le_refl 1, ?_⟩
    conv => whnf
    refine ⟨⟨rfl, by rw [nest2_length, rowsZ_length]; exact Nat.le_refl _, by show ((h + 1 : Nat) : Int) * ((24 : Nat) : Int) ≤ 70368744177664; omega, by simp [cellsOf]⟩,
      nest2 (rowsZ 3 d 2 h) ++ [[A.sl 10 0 1 0 (2 ^ h + 1)]], by rw [List.take_of_length_le (by rw [nest2_length, rowsZ_length]; exact Nat.le_refl _)]; rfl, ?_⟩
    conv => whnf
    refine ⟨⟨by decide, by decide⟩, ?_⟩
    conv => whnf
    refine wk_none ?_
    conv => whnf
    refine Or.inl ⟨12, by kernel_rfl, ?_⟩
    conv => whnf
    refine ⟨⟨by decide, by decide⟩, ?_⟩
    conv => whnf
    refine ⟨by rw [eu]; omega, ?_⟩
    conv => whnf
    rw [es, e1]
    refine ⟨⟨by omega, by omega, by show ((2 ^ h + 1 : Nat) : Int) * ((8 : Nat) : Int) ≤ 70368744177664; omega⟩, ?_⟩
    conv => whnf
    rw [to_repl 3 d h 3]
    refine ⟨by rw [ints_length, fillL_length, lvl_length]; simp, ?_⟩
    conv => whnf
    refine ⟨Nat.le_refl 1, ?_⟩
    conv => whnf
    refine ⟨⟨rfl, by rw [nest2_length, rowsZ_length]; exact Nat.le_refl _, by show ((h + 1 : Nat) : Int) * ((24 : Nat) : Int) ≤ 70368744177664; omega, by simp [cellsOf]⟩,
      nest2 (rowsZ 3 d 3 h) ++ [[A.sl 12 0 1 0 (2 ^ h + 1)]], by rw [List.take_of_length_le (by rw [nest2_length, rowsZ_length]; exact Nat.le_refl _)]; rfl, ?_⟩
    conv => whnf
    refine ⟨⟨by decide, by decide⟩, ?_⟩
    conv => whnf
    refine wk_none ?_
    conv => whnf
    refine wk_mask [false, true, false, true, true, false, true] (mkT 90 [(1, .pt 0 0 0 0 0), (3, .sl 1 0 1 0 4), (4, .v (.int .i64 h)), (6, .v (.int .i64 (0 : Nat)))]) rfl ?_
    conv => whnf
    refine wk_mask [false, true, false, true, true, false, true, true] (mkT 90 [(1, .pt 0 0 0 0 0), (3, .sl 1 0 1 0 4), (4, .v (.int .i64 h)), (6, .v (.int .i64 (0 : Nat))), (7, .v (.int .i64 (0 : Nat)))]) rfl ?_
    refine to_row_3_0 E d h hh (by omega) hd _ (2 ^ h + 1) 0 (n + 287) (fun _ => 0) (by omega) (by omega) rfl fun j => ?_
    conv => whnf
    refine wk_mask [false, true, false, true, true, false, true] (mkT 90 [(1, .pt 0 0 0 0 0), (3, .sl 1 0 1 0 4), (4, .v (.int .i64 h)), (6, .v (.int .i64 (1 : Nat)))]) rfl ?_
    conv => whnf
    refine wk_mask [false, true, false, true, true, false, true, true] (mkT 90 [(1, .pt 0 0 0 0 0), (3, .sl 1 0 1 0 4), (4, .v (.int .i64 h)), (6, .v (.int .i64 (1 : Nat))), (7, .v (.int .i64 (0 : Nat)))]) rfl ?_
    refine to_row_3_1 E d h hh (by omega) hd _ (2 ^ h + 1) 0 (n + 286) (fun s => if s = 0 then 2 ^ h + 1 else (fun _ => 0) s) (by omega) (by omega) rfl fun j => ?_
    conv => whnf
    refine wk_mask [false, true, false, true, true, false, true] (mkT 90 [(1, .pt 0 0 0 0 0), (3, .sl 1 0 1 0 4), (4, .v (.int .i64 h)), (6, .v (.int .i64 (2 : Nat)))]) rfl ?_
    conv => whnf
    refine wk_mask [false, true, false, true, true, false, true, true] (mkT 90 [(1, .pt 0 0 0 0 0), (3, .sl 1 0 1 0 4), (4, .v (.int .i64 h)), (6, .v (.int .i64 (2 : Nat))), (7, .v (.int .i64 (0 : Nat)))]) rfl ?_
    refine to_row_3_2 E d h hh (by omega) hd _ (2 ^ h + 1) 0 (n + 285) (fun s => if s = 1 then 2 ^ h + 1 else (fun s => if s = 0 then 2 ^ h + 1 else (fun _ => 0) s) s) (by omega) (by omega) rfl fun j => ?_
    conv => whnf
    refine wk_mask [false, true, false, true, true, false, true] (mkT 90 [(1, .pt 0 0 0 0 0), (3, .sl 1 0 1 0 4), (4, .v (.int .i64 h)), (6, .v (.int .i64 (3 : Nat)))]) rfl ?_
    conv => whnf
    refine wk_mask [false, true, false, true, true, false, true, true] (mkT 90 [(1, .pt 0 0 0 0 0), (3, .sl 1 0 1 0 4), (4, .v (.int .i64 h)), (6, .v (.int .i64 (3 : Nat))), (7, .v (.int .i64 (0 : Nat)))]) rfl ?_
    refine to_row_3_3 E d h hh (by omega) hd _ (2 ^ h + 1) 0 (n + 284) (fun s => if s = 2 then 2 ^ h + 1 else (fun s => if s = 1 then 2 ^ h + 1 else (fun s => if s = 0 then 2 ^ h + 1 else (fun _ => 0) s) s) s) (by omega) (by omega) rfl fun j => ?_
    rw [show toHf3 d h _ = toHm3 d h from by simp [toHf3, toHm3, fillL_all, lvl_length]]
    conv => whnf
    refine wk_none ?_
    conv => whnf
    rw [eh]
    refine wk_then (ts1 := (mkT 90 [(1, .pt 0 0 0 0 0), (3, .sl 1 0 1 0 4), (4, .v (.int .i64 (h + 1 : Nat)))])) (hp1 := toHm3 d h) (lp1 := []) (Wk.mask [false, true, false, true, true]) ?_
    exact to_end_3 d h _ next
end Go.YtoeophdffhmpmaaE
