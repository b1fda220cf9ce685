/- B1: math/bits.Len64, Len: as contracts; levels of nodes. B2: cover.path, first, (tree).cut. B3: (tree).has, below, subset. B4: cover.enter, (tree).labels, Storage. B5: headendref03.Path. B6: headendref03.Node, Level, Below, Special, between, IsSubset. B7: headendref03.LabelsOf, Storage. N4: Choices: headendref10.SchemeOf; plan.Choose. N5: plan.Choose. N6: headendref10.Chosen, Choose. N7: headendref10.SameNumbers, SameChoice; plan.Make. N8: plan.Make; headendref10.Made. N9: plan.Make; headendref10.Made, Make: contracts. N10: headendref10.Same of a plan with itself; the law's function: PlanMakes. -/
import Derived.Test.YtoeophdffhmpmaaGA1
import Derived.Test.YtoeophdffhmpmaaG6

section
set_option linter.unusedVariables false
set_option linter.unusedSimpArgs false
set_option maxRecDepth 100000
set_option maxHeartbeats 1000000
namespace Go.YtoeophdffhmpmaaE
open Go Go.RowKit

/-- What hands back a number and turns nothing. -/
theorem pure_calls1 {P : Program} {f : Nat} {k k' : IntKind} {x y : Int} (h : ∀ w, Calls P f #[.int k x] w fun e w' => e = .returned (.int k' y) ∧ w' = w) : Pure P f [.v (.int k x)] ⟨.v (.int k' y), []⟩ := by
  intro w I vs hI harel
  obtain ⟨hl, hv⟩ := harel
  have h0 := hv 0 (by simp)
  obtain rfl : vs = #[.int k x] := by
    obtain ⟨l⟩ := vs
    match l, hl with
    | [a], _ =>
      have h0 : VR (gI I) w (fun _ => .hole) (.v (.int k x)) a := h0
      cases h0
      rfl
  refine (h w).mono fun e w' ⟨he, hw⟩ => ?_
  subst hw
  refine ⟨_, gI I, he, ⟨⟨fun b b' hb => ?_, fun b hb => ?_, hI, fun b hb => ?_, fun b hb => ?_, fun b => ?_⟩, Below.refl _ _, Nat.le_refl _, fun x hx => .inl hx⟩, fun x hx => .inl hx, fun x hx => hx, VR.v _ rfl⟩
  all_goals first
    | exact absurd (hf_none [] b (Nat.zero_le _)) (fun h => h hb)
    | (have : Go.YtoeophdffhmpmaaE.hf ([] : List Blk) b = .hole := by simp [Go.YtoeophdffhmpmaaE.hf]
       rw [this]; trivial)
theorem Len_pure (x : Nat) (h : x ≤ 18446744073709551615) : Pure Go.Proofs.Try.prog 104 [.v (.int .u64 x)] ⟨.v (.int .i64 (Lib.bitLen x)), []⟩ :=
  pure_calls1 fun w => Go.Proofs.Ytoeophdffhmpmaa.lib_Len x w (by omega) (by omega)
theorem bitLenAux_le : ∀ f x, Lib.bitLenAux f x ≤ f
  | 0, _ => Nat.le_refl 0
  | f + 1, x => by
    unfold Lib.bitLenAux
    have := bitLenAux_le f (x / 2)
    split <;> omega
theorem bitLen_le (x : Nat) : Lib.bitLen x ≤ 64 := bitLenAux_le 64 x
/-- The level of a node. -/
def levN (v : Nat) : Int := (Lib.bitLen v : Int) - 1
theorem level_pure (v : Nat) (h : v ≤ 1000000) : Pure Go.Proofs.Try.prog 102 [.v (.int .i64 v)] ⟨.v (.int .i64 (levN v)), []⟩ := by
  refine pure_sz pf eqOk_none (env_ok [104] rfl) fun _ => ⟨60, ?_⟩
  conv => whnf
  rw [wrapu (n := v) (by omega)]
  refine ⟨_, Len_pure v (by omega), ?_⟩
  conv => whnf
  left
  conv => whnf
  have := bitLen_le v
  rw [show IntKind.i64.wrap ((Lib.bitLen v : Int) - 1) = levN v from wrap64 (by omega) (by omega)]
def subA (v w : Int) : A := .agg [.v (.int .i64 v), .v (.int .i64 w)]
/-- A node's ancestor at a level. -/
def ancN (w l : Nat) : Nat := w / 2 ^ (w.log2 - l)
theorem bitLenAux_log : ∀ f x, 1 ≤ x → x < 2 ^ f → Lib.bitLenAux f x = x.log2 + 1
  | 0, x, h1, h2 => by simp at h2; omega
  | f + 1, x, h1, h2 => by
    unfold Lib.bitLenAux
    rw [if_neg (by omega), Nat.log2_def]
    split
    · rw [bitLenAux_log f (x / 2) (by omega) (by rw [Nat.pow_succ] at h2; omega)]; omega
    · have e : x = 1 := by omega
      subst e
      cases f <;> rfl
theorem levN_log {v : Nat} (h1 : 1 ≤ v) (h2 : v ≤ 1000000) : levN v = (v.log2 : Nat) := by
  unfold levN Lib.bitLen
  rw [bitLenAux_log 64 v h1 (by omega)]; omega
theorem level_pure' (v : Nat) (h1 : 1 ≤ v) (h2 : v ≤ 1000000) : Pure Go.Proofs.Try.prog 102 [.v (.int .i64 v)] ⟨.v (.int .i64 (v.log2 : Nat)), []⟩ := by
  rw [← levN_log h1 h2]; exact level_pure v h2
theorem special_pure (kind d stride v : Nat) (h1 : 1 ≤ v) (h2 : v ≤ 1000000) (hs : 1 ≤ stride) :
    Pure Go.Proofs.Try.prog 68 [treeA kind d stride, .v (.int .i64 v)] ⟨.v (.bool (decide (v.log2 % stride = 0))), []⟩ := by
  refine pure_sz pf eqOk_none (env_ok [102] rfl) fun _ => ⟨60, ?_⟩
  conv => whnf
  refine Or.inl ⟨7, by kernel_rfl, ?_⟩
  conv => whnf
  refine ⟨_, level_pure' v h1 h2, ?_⟩
  conv => whnf
  refine ⟨by omega, ?_⟩
  conv => whnf
  left
  conv => whnf
  refine congrArg (fun b => (⟨.v (.bool b), []⟩ : Res)) ?_
  rw [tmodN, Bool.eq_iff_iff, beq_iff_eq, decide_eq_true_eq]
  omega
theorem log2_le {v : Nat} (h1 : 1 ≤ v) (h2 : v ≤ 1000000) : v.log2 ≤ 19 := by
  have : v.log2 < 20 := (Nat.log2_lt (by omega)).2 (by omega)
  omega
/-- The child of a node toward one below it. -/
theorem toward_pure (v w : Nat) (h1 : 1 ≤ v) (h2 : v ≤ 1000000) (h3 : 1 ≤ w) (h4 : w ≤ 1000000) (h5 : v.log2 < w.log2) :
    Pure Go.Proofs.Try.prog 114 [.v (.int .i64 v), .v (.int .i64 w)] ⟨.v (.int .i64 (ancN w (v.log2 + 1) : Nat)), []⟩ := by
  refine pure_sz pf eqOk_none (env_ok [102] rfl) fun _ => ⟨60, ?_⟩
  have l1 := log2_le h1 h2
  have l2 := log2_le h3 h4
  conv => whnf
  refine ⟨_, level_pure' w h3 h4, ?_⟩
  conv => whnf
  refine ⟨_, level_pure' v h1 h2, ?_⟩
  conv => whnf
  have e : IntKind.i64.wrap (IntKind.i64.wrap ((w.log2 : Int) - (v.log2 : Int)) - 1) = ((w.log2 - (v.log2 + 1) : Nat) : Int) := by
    rw [wrap64 (n := (w.log2 : Int) - (v.log2 : Int)) (by omega) (by omega), wrap64 (by omega) (by omega)]; omega
  rw [e]
  refine ⟨by omega, ?_⟩
  conv => whnf
  left
  conv => whnf
  refine congrArg (fun b => (⟨.v (.int .i64 b), []⟩ : Res)) ?_
  have e2 : min ((w.log2 - (v.log2 + 1) : Nat) : Int).toNat IntKind.i64.bits = w.log2 - (v.log2 + 1) := by
    rw [Int.toNat_natCast]; exact Nat.min_eq_left (by show _ ≤ 64; omega)
  rw [e2, Int.fdiv_eq_ediv_of_nonneg _ (by exact Int.le_of_lt (Int.pow_pos (by decide)))]
  unfold ancN
  rw [Int.natCast_ediv, Int.natCast_pow]; rfl
end Go.YtoeophdffhmpmaaE
end

section
set_option linter.unusedVariables false
set_option linter.unusedSimpArgs false
set_option maxRecDepth 100000
set_option maxHeartbeats 1000000
namespace Go.YtoeophdffhmpmaaE
open Go Go.RowKit

theorem path_pure (v w : Nat) : Pure Go.Proofs.Try.prog 101 [.v (.int .i64 v), .v (.int .i64 w)] ⟨.fn 120 [] [.rp [.v (.int .i64 v)], .rp [.v (.int .i64 w)]], []⟩ := by
  refine pure_sz pf eqOk_none (env_ok [] rfl) fun _ => ⟨60, ?_⟩
  conv => whnf
  left
  conv => whnf
  try rfl
theorem ancN_full (w : Nat) : ancN w w.log2 = w := by unfold ancN; rw [Nat.sub_self]; simp
theorem ancN_pos {w : Nat} (h : 1 ≤ w) (l : Nat) : 1 ≤ ancN w l := by
  unfold ancN
  have h1 : 2 ^ w.log2 ≤ w := Nat.log2_self_le (by omega)
  have h2 : 2 ^ (w.log2 - l) ≤ 2 ^ w.log2 := Nat.pow_le_pow_right (by decide) (by omega)
  exact (Nat.le_div_iff_mul_le (Nat.pow_pos (by decide))).2 (by omega)
theorem ancN_le (w l : Nat) : ancN w l ≤ w := Nat.div_le_self ..
theorem ancN_log {w l : Nat} (h : 1 ≤ w) (hl : l ≤ w.log2) : (ancN w l).log2 = l := by
  have hp := ancN_pos h l
  have h0 : w ≠ 0 := by omega
  apply (Nat.log2_eq_iff (by omega)).2
  unfold ancN
  have h1 : 2 ^ w.log2 ≤ w := Nat.log2_self_le h0
  have h2 : w < 2 ^ (w.log2 + 1) := Nat.lt_log2_self
  have e1 : 2 ^ w.log2 = 2 ^ l * 2 ^ (w.log2 - l) := by rw [← Nat.pow_add]; congr 1; omega
  have e2 : 2 ^ (w.log2 + 1) = 2 ^ (l + 1) * 2 ^ (w.log2 - l) := by rw [← Nat.pow_add]; congr 1; omega
  have hpos : 0 < 2 ^ (w.log2 - l) := Nat.pow_pos (by decide)
  constructor
  · exact (Nat.le_div_iff_mul_le hpos).2 (by rw [← e1]; exact h1)
  · exact (Nat.div_lt_iff_lt_mul hpos).2 (by rw [← e2]; exact h2)
/-- The first special node from a level's child on, down to a node. -/
def firN (stride w : Nat) : Nat → Nat → Nat
  | 0, _ => 0
  | c + 1, l => if (l + 1) % stride = 0 then ancN w (l + 1) else firN stride w c (l + 1)
noncomputable def firTs (kind d stride : Nat) (x w : Int) : List A := mkT 12 [(0, .fn 120 [] [.rp [.v (.int .i64 x)], .rp [.v (.int .i64 w)]]), (1, .fn 68 [treeA kind d stride] []), (3, .pt 1 0 0 0 0), (4, .pt 2 0 0 0 0), (6, .fn 120 [] [.rp [.v (.int .i64 x)], .rp [.v (.int .i64 w)]])]
noncomputable def firLp (kind d stride : Nat) (x w : Int) : List Lp := [.ready (rdB Go.Proofs.Try.prog 100 0 (firTs kind d stride x w))]
def firHp (kind d stride : Nat) (y : Int) : List Blk := [.bx false [.v (.int .u8 kind), .v (.int .i64 d), .v (.int .i64 stride)], .bx false [.fn 68 [treeA kind d stride] []], .bx false [.v (.int .i64 y)]]
theorem first_loop (E : EqT) (kind d stride w : Nat) (x : Int) (h1 : 1 ≤ w) (h2 : w ≤ 1000000) (hs : 1 ≤ stride) (K : K) :
    ∀ (c l n : Nat), l + c = w.log2 → c + 80 ≤ n →
      (firN stride w c l = 0 → ∀ j, K (.exit 0) (mkJ 16 [] j) (firHp kind d stride 0) (firLp kind d stride x w)) →
      (∀ y : Nat, y ≠ 0 → firN stride w c l = y → ∀ j, K .ret (mkJ 16 [] j) (firHp kind d stride y) [.done .ret]) →
      loopF (run Go.Proofs.Try.prog E (envL Go.Proofs.Try.prog [101, 68, 114]) n) 3 1 (loopB Go.Proofs.Try.prog 120 0)
        (mkT 16 [(0, .yl 0), (1, .rp [.v (.int .i64 x)]), (2, .rp [.v (.int .i64 w)]), (4, .v (.int .i64 (ancN w l : Nat)))]) (firHp kind d stride 0) (firLp kind d stride x w) K := by
  intro c
  induction c with
  | zero =>
    intro l n hl hn hK hF
    obtain ⟨n, rfl⟩ : ∃ m, n = m + 80 := ⟨n - 80, by omega⟩
    obtain rfl : l = w.log2 := by omega
    rw [ancN_full]
    conv => whnf
    rw [show ((w : Int) != (w : Int)) = false by simp]
    conv => whnf
    exact useJ (hK rfl) rfl
  | succ c ih =>
    intro l n hl hn hK hF
    obtain ⟨n, rfl⟩ : ∃ m, n = m + 80 := ⟨n - 80, by omega⟩
    have hp := ancN_pos h1 l
    have hle := ancN_le w l
    have hlg := ancN_log h1 (l := l) (by omega)
    have hne : ((ancN w l : Nat) : Int) ≠ (w : Int) := fun e => by
      have e : ancN w l = w := by omega
      rw [e] at hlg; omega
    have ht := toward_pure (ancN w l) w hp (by omega) h1 h2 (by omega)
    rw [hlg] at ht
    have hsp := special_pure kind d stride (ancN w (l + 1)) (ancN_pos h1 _) (by have := ancN_le w (l + 1); omega) hs
    rw [ancN_log h1 (by omega)] at hsp
    conv => whnf
    rw [show (((ancN w l : Nat) : Int) != (w : Int)) = true by simpa using hne]
    conv => whnf
    refine ⟨_, ht, ?_⟩
    conv => whnf
    refine ⟨_, hsp, ?_⟩
    conv => whnf
    refine cndK_intro (fun c1 => ?_) (fun c1 => ?_)
    · rw [c1]
      conv => whnf
      refine useJ (hF (ancN w (l + 1)) (by have := ancN_pos h1 (l + 1); omega) ?_) rfl
      rw [firN, if_pos (by simpa using c1)]
    · rw [c1]
      conv => whnf
      refine wk_mask [true, true, true, false, true] _ rfl ?_
      have e : firN stride w (c + 1) l = firN stride w c (l + 1) := by rw [firN, if_neg (by simpa using c1)]
      rw [e] at hK hF
      exact ih (l + 1) (n + 79) (by omega) (by omega) hK hF
theorem shr1n (n : Nat) : Int.fdiv (n : Int) (2 ^ min (1 : Int).toNat IntKind.i64.bits) = ((n / 2 : Nat) : Int) := by
  show Int.fdiv (n : Int) 2 = _
  rw [Int.fdiv_eq_ediv_of_nonneg _ (by decide)]
  omega
/-- The first special node strictly between a node's level and it. -/
def cutN (stride w a : Nat) : Nat := firN stride (w / 2) ((w / 2).log2 - a) a
theorem cut_pure (kind d stride w a : Nat) (h1 : 2 ≤ w) (h2 : w ≤ 1000000) (ha : a < w.log2) (hs : 1 ≤ stride) :
    Pure Go.Proofs.Try.prog 67 [treeA kind d stride, .v (.int .i64 (ancN w a : Nat)), .v (.int .i64 w)] ⟨.v (.int .i64 (cutN stride w a : Nat)), []⟩ := by
  refine pure_sz pf eqOk_none (env_ok [101, 68, 114] rfl) fun _ => ⟨200, ?_⟩
  have hl : w.log2 = (w / 2).log2 + 1 := by rw [Nat.log2_def, if_pos (by omega)]
  have e : ancN w a = ancN (w / 2) a := by
    unfold ancN
    rw [hl, Nat.div_div_eq_div_mul, ← Nat.pow_succ']
    congr 2
    omega
  rw [e]
  conv => whnf
  refine Or.inl ⟨6, by kernel_rfl, ?_⟩
  conv => whnf
  refine ⟨by omega, ?_⟩
  conv => whnf
  rw [shr1n]
  refine ⟨_, path_pure _ _, ?_⟩
  conv => whnf
  have l2 := log2_le (v := w / 2) (by omega) (by omega)
  refine wk_mask [true, true, true, false, true] _ rfl ?_
  refine first_loop (fun _ => none) kind d stride (w / 2) (ancN (w / 2) a : Nat) (by omega) (by omega) hs _ ((w / 2).log2 - a) a 189 (by omega) (by omega) (fun h j => ?_) (fun y hy h j => ?_)
  · rw [cutN, h]
    conv => whnf
    left
    conv => whnf
    try rfl
  · rw [cutN, h]
    conv => whnf
    left
    conv => whnf
    try rfl
end Go.YtoeophdffhmpmaaE
end

section
set_option linter.unusedVariables false
set_option linter.unusedSimpArgs false
set_option maxRecDepth 100000
set_option maxHeartbeats 1000000
namespace Go.YtoeophdffhmpmaaE
open Go Go.RowKit

theorem has_pure (kind d stride v : Nat) (hd : d ≤ 6) (h1 : 1 ≤ v) (h2 : v < 2 ^ (d + 1)) : Pure Go.Proofs.Try.prog 118 [treeA kind d stride, .v (.int .i64 v)] ⟨.v (.bool true), []⟩ := by
  refine pure_sz pf eqOk_none (env_ok [] rfl) fun _ => ⟨60, ?_⟩
  have hp := pow_le6 hd
  rw [Nat.pow_succ] at h2
  conv => whnf
  rw [show decide ((v : Int) ≥ 1) = true by simp only [decide_eq_true_eq]; omega]
  conv => whnf
  refine ⟨by omega, ?_⟩
  conv => whnf
  rw [shl1 hd]
  rw [show IntKind.i64.wrap (2 * ((2 ^ d : Nat) : Int)) = 2 * ((2 ^ d : Nat) : Int) from wrap64 (by omega) (by omega)]
  left
  conv => whnf
  refine congrArg (fun b => (⟨.v (.bool b), []⟩ : Res)) ?_
  symm
  simp only [decide_eq_true_eq]
  omega
theorem below_pure (w a : Nat) (h1 : 1 ≤ w) (h2 : w ≤ 1000000) (ha : a ≤ w.log2) : Pure Go.Proofs.Try.prog 119 [.v (.int .i64 w), .v (.int .i64 (ancN w a : Nat))] ⟨.v (.bool true), []⟩ := by
  refine pure_sz pf eqOk_none (env_ok [102] rfl) fun _ => ⟨60, ?_⟩
  have hp := ancN_pos h1 a
  have hle := ancN_le w a
  have hl := level_pure' (ancN w a) hp (by omega)
  rw [ancN_log h1 ha] at hl
  have hw := level_pure' w h1 h2
  have l2 := log2_le h1 h2
  conv => whnf
  rw [show decide ((w : Int) < 1) = false by simp only [decide_eq_false_iff_not]; omega]
  conv => whnf
  rw [show decide (((ancN w a : Nat) : Int) < 1) = false by simp only [decide_eq_false_iff_not]; omega]
  conv => whnf
  refine ⟨_, hw, ?_⟩
  conv => whnf
  refine ⟨_, hl, ?_⟩
  conv => whnf
  rw [show decide (((w.log2 : Nat) : Int) < ((a : Nat) : Int)) = false by simp only [decide_eq_false_iff_not]; omega]
  conv => whnf
  refine ⟨_, hw, ?_⟩
  conv => whnf
  refine ⟨_, hl, ?_⟩
  conv => whnf
  have e : IntKind.i64.wrap (((w.log2 : Nat) : Int) - ((a : Nat) : Int)) = ((w.log2 - a : Nat) : Int) := by
    rw [wrap64 (by omega) (by omega)]; omega
  rw [e]
  refine ⟨by omega, ?_⟩
  conv => whnf
  left
  conv => whnf
  refine congrArg (fun b => (⟨.v (.bool b), []⟩ : Res)) ?_
  have e2 : min ((w.log2 - a : Nat) : Int).toNat IntKind.i64.bits = w.log2 - a := by
    rw [Int.toNat_natCast]; exact Nat.min_eq_left (by show _ ≤ 64; omega)
  rw [e2, Int.fdiv_eq_ediv_of_nonneg _ (by exact Int.le_of_lt (Int.pow_pos (by decide)))]
  symm
  rw [beq_iff_eq]
  unfold ancN
  rw [Int.natCast_ediv, Int.natCast_pow]; rfl
/-- Is (a node's ancestor, it) a subset? -/
def subB (kind stride w a : Nat) : Bool := decide (kind = 2) || (decide (a % stride = 0) || decide (cutN stride w a = 0))
theorem subset_pure (kind d stride w a : Nat) (hk : kind = 2 ∨ kind = 3) (hd : d ≤ 6) (h1 : 2 ≤ w) (hw : w < 2 ^ (d + 1)) (ha : a < w.log2) (hs : 1 ≤ stride) :
    Pure Go.Proofs.Try.prog 97 [treeA kind d stride, subA (ancN w a : Nat) w] ⟨.v (.bool (subB kind stride w a)), []⟩ := by
  refine pure_sz pf eqOk_none (env_ok [118, 119, 68, 67] rfl) fun _ => ⟨60, ?_⟩
  have hp := ancN_pos (w := w) (by omega) a
  have hle := ancN_le w a
  have h128 : 2 ^ (d + 1) ≤ 128 := by have := pow_le6 hd; rw [Nat.pow_succ]; omega
  have hlg := ancN_log (w := w) (by omega) (l := a) (by omega)
  have p1 := has_pure kind d stride (ancN w a) hd hp (by omega)
  have p2 := has_pure kind d stride w hd (by omega) hw
  have p3 := below_pure w a (by omega) (by omega) (by omega)
  have p4 := special_pure kind d stride (ancN w a) hp (by omega) hs
  rw [hlg] at p4
  have p5 := cut_pure kind d stride w a h1 (by omega) ha hs
  have hne : ((w : Nat) : Int) ≠ ((ancN w a : Nat) : Int) := fun e => by
    have e : w = ancN w a := by omega
    rw [← e] at hlg; omega
  conv => whnf
  refine Or.inl ⟨6, by kernel_rfl, ?_⟩
  conv => whnf
  refine ⟨_, p1, ?_⟩
  conv => whnf
  have w0 : ((w : Int) == 0) = false := by rw [beq_eq_false_iff_ne]; omega
  have wv : ((w : Int) == ((ancN w a : Nat) : Int)) = false := beq_eq_false_iff_ne.2 hne
  rcases hk with rfl | rfl
  · rw [show ((2 : Nat) : Int) = 2 from rfl]
    conv => whnf
    rw [w0]
    conv => whnf
    refine ⟨_, p2, ?_⟩
    conv => whnf
    rw [wv]
    conv => whnf
    refine ⟨_, p3, ?_⟩
    conv => whnf
    left
    conv => whnf
    try rfl
  · rw [show ((3 : Nat) : Int) = 3 from rfl]
    conv => whnf
    rw [w0]
    conv => whnf
    refine ⟨_, p2, ?_⟩
    conv => whnf
    rw [wv]
    conv => whnf
    refine ⟨_, p3, ?_⟩
    conv => whnf
    refine ⟨_, p4, ?_⟩
    by_cases c1 : a % stride = 0
    · rw [show decide (a % stride = 0) = true by simpa using c1]
      conv => whnf
      left
      conv => whnf
      rw [show subB 3 stride w a = true by simp [subB, c1]]
    · rw [show decide (a % stride = 0) = false by simpa using c1]
      conv => whnf
      refine ⟨_, p5, ?_⟩
      conv => whnf
      left
      conv => whnf
      refine congrArg (fun b => (⟨.v (.bool b), []⟩ : Res)) ?_
      rw [Bool.eq_iff_iff, beq_iff_eq]
      simp [subB, c1]
end Go.YtoeophdffhmpmaaE
end

section
set_option linter.unusedVariables false
set_option linter.unusedSimpArgs false
set_option maxRecDepth 100000
set_option maxHeartbeats 4000000
namespace Go.YtoeophdffhmpmaaE
open Go Go.RowKit

theorem enter_pure (kind d : Nat) (h1 : 1 ≤ kind) (h3 : kind ≤ 3) (hd : d ≤ 6) :
    Pure Go.Proofs.Try.prog 62 [scheme kind d 0 0 0 0, .v (.slice none 0 0)] ⟨.tup [treeA kind d (strideN d), .v (.int .i64 0)], []⟩ := by
  refine pure_sz pf eqOk_none (env_ok [85] rfl) fun _ => ⟨60, ?_⟩
  conv => whnf
  refine ⟨_, treeOf_ok kind d h1 h3 hd, ?_⟩
  conv => whnf
  refine wk_none ?_
  conv => whnf
  left
  conv => whnf
  try rfl
theorem labels_pure (kind d stride : Nat) (u : Int) : Pure Go.Proofs.Try.prog 91 [treeA kind d stride, .v (.int .i64 u)] ⟨.fn 113 [] [.rp [.v (.int .u8 kind), .v (.int .i64 d), .v (.int .i64 stride)], .rp [.v (.int .i64 u)]], []⟩ := by
  refine pure_sz pf eqOk_none (env_ok [] rfl) fun _ => ⟨60, ?_⟩
  conv => whnf
  left
  conv => whnf
  try rfl
theorem leaf_pure (kind d stride : Nat) (hd : d ≤ 6) : Pure Go.Proofs.Try.prog 64 [treeA kind d stride, .v (.int .i64 0)] ⟨.v (.int .i64 (2 ^ d : Nat)), []⟩ := by
  refine pure_sz pf eqOk_none (env_ok [] rfl) fun _ => ⟨60, ?_⟩
  have hp := pow_le6 hd
  conv => whnf
  refine ⟨by omega, ?_⟩
  conv => whnf
  rw [shl1 hd]
  left
  conv => whnf
  rw [wrap64 (by omega) (by omega)]
  simp
theorem toward_i (v w y : Int) (h : 1 ≤ v ∧ v ≤ 1000000 ∧ 1 ≤ w ∧ w ≤ 1000000 ∧ v.toNat.log2 < w.toNat.log2 ∧ ((ancN w.toNat (v.toNat.log2 + 1) : Nat) : Int) = y) :
    Pure Go.Proofs.Try.prog 114 [.v (.int .i64 v), .v (.int .i64 w)] ⟨.v (.int .i64 y), []⟩ := by
  have := toward_pure v.toNat w.toNat (by omega) (by omega) (by omega) (by omega) h.2.2.2.2.1
  rw [Int.toNat_of_nonneg (by omega : 0 ≤ v), Int.toNat_of_nonneg (by omega : 0 ≤ w), h.2.2.2.2.2] at this
  exact this
theorem path_i (v w : Int) (h : 0 ≤ v ∧ 0 ≤ w) : Pure Go.Proofs.Try.prog 101 [.v (.int .i64 v), .v (.int .i64 w)] ⟨.fn 120 [] [.rp [.v (.int .i64 v)], .rp [.v (.int .i64 w)]], []⟩ := by
  have := path_pure v.toNat w.toNat
  rw [Int.toNat_of_nonneg h.1, Int.toNat_of_nonneg h.2] at this
  exact this
theorem subset_i (kind d stride : Nat) (v w : Int) (hk : kind = 2 ∨ kind = 3) (hd : d ≤ 6) (hs : 1 ≤ stride) (h : 0 ≤ v ∧ 2 ≤ w ∧ w.toNat < 2 ^ (d + 1) ∧ v.toNat.log2 < w.toNat.log2 ∧ ancN w.toNat v.toNat.log2 = v.toNat) :
    Pure Go.Proofs.Try.prog 97 [treeA kind d stride, subA v w] ⟨.v (.bool (subB kind stride w.toNat v.toNat.log2)), []⟩ := by
  have := subset_pure kind d stride w.toNat v.toNat.log2 hk hd (by omega) h.2.2.1 h.2.2.2.1 hs
  rw [h.2.2.2.2, Int.toNat_of_nonneg (by omega : 0 ≤ v), Int.toNat_of_nonneg (by omega : 0 ≤ w)] at this
  exact this
/-- How many labels a secret has. -/
def stN (kind d : Nat) : Nat := if kind = 1 then d + 1 else 1 + ((List.range d).map fun a => ((List.range d).filter fun b => decide (a ≤ b) && subB kind (strideN d) (2 ^ (b + 1) + 1) a).length).sum
theorem storage_1_0 : Pure Go.Proofs.Try.prog 55 [scheme 1 0 0 0 0 0] ⟨.tup [.v (.int .i64 (stN 1 0 : Nat)), .v (.int .i64 0)], []⟩ := by
  refine pure_sz pf eqOk_none (env_ok [62, 91, 64, 101, 114, 97] rfl) fun _ => ⟨400, ?_⟩
  have he := enter_pure 1 0 (by decide) (by decide) (by decide)
  have hl := labels_pure 1 0 (strideN 0) 0
  have hf := leaf_pure 1 0 (strideN 0) (by decide)
  conv => whnf
  refine Or.inr ?_
  conv => whnf
  refine ⟨_, he, ?_⟩
  conv => whnf
  refine ⟨_, hl, ?_⟩
  conv => whnf
  refine ⟨_, hf, ?_⟩
  conv => whnf
  repeat (first
    | (refine wk_none ?_; conv => whnf)
    | (refine ⟨_, toward_i _ _ 2 (by decide), ?_⟩; conv => whnf)
    | (refine ⟨_, toward_i _ _ 4 (by decide), ?_⟩; conv => whnf)
    | (refine ⟨_, toward_i _ _ 8 (by decide), ?_⟩; conv => whnf)
    | (refine ⟨_, toward_i _ _ 16 (by decide), ?_⟩; conv => whnf)
    | (refine ⟨_, toward_i _ _ 32 (by decide), ?_⟩; conv => whnf)
    | (refine ⟨_, toward_i _ _ 64 (by decide), ?_⟩; conv => whnf)
    | (refine ⟨_, path_i _ _ (by decide), ?_⟩; conv => whnf)
    | (refine ⟨_, subset_i 1 0 (strideN 0) _ _ (by decide) (by decide) (by decide) (by decide), ?_⟩; conv => whnf)
    | (refine Or.inl ⟨4, by kernel_rfl, ?_⟩; conv => whnf))
  left
  conv => whnf
  refine congrArg (fun b => (⟨.tup [.v (.int .i64 b), .v (.int .i64 0)], []⟩ : Res)) ?_
  decide
theorem storage_1_1 : Pure Go.Proofs.Try.prog 55 [scheme 1 1 0 0 0 0] ⟨.tup [.v (.int .i64 (stN 1 1 : Nat)), .v (.int .i64 0)], []⟩ := by
  refine pure_sz pf eqOk_none (env_ok [62, 91, 64, 101, 114, 97] rfl) fun _ => ⟨400, ?_⟩
  have he := enter_pure 1 1 (by decide) (by decide) (by decide)
  have hl := labels_pure 1 1 (strideN 1) 0
  have hf := leaf_pure 1 1 (strideN 1) (by decide)
  conv => whnf
  refine Or.inr ?_
  conv => whnf
  refine ⟨_, he, ?_⟩
  conv => whnf
  refine ⟨_, hl, ?_⟩
  conv => whnf
  refine ⟨_, hf, ?_⟩
  conv => whnf
  repeat (first
    | (refine wk_none ?_; conv => whnf)
    | (refine ⟨_, toward_i _ _ 2 (by decide), ?_⟩; conv => whnf)
    | (refine ⟨_, toward_i _ _ 4 (by decide), ?_⟩; conv => whnf)
    | (refine ⟨_, toward_i _ _ 8 (by decide), ?_⟩; conv => whnf)
    | (refine ⟨_, toward_i _ _ 16 (by decide), ?_⟩; conv => whnf)
    | (refine ⟨_, toward_i _ _ 32 (by decide), ?_⟩; conv => whnf)
    | (refine ⟨_, toward_i _ _ 64 (by decide), ?_⟩; conv => whnf)
    | (refine ⟨_, path_i _ _ (by decide), ?_⟩; conv => whnf)
    | (refine ⟨_, subset_i 1 1 (strideN 1) _ _ (by decide) (by decide) (by decide) (by decide), ?_⟩; conv => whnf)
    | (refine Or.inl ⟨4, by kernel_rfl, ?_⟩; conv => whnf))
  left
  conv => whnf
  refine congrArg (fun b => (⟨.tup [.v (.int .i64 b), .v (.int .i64 0)], []⟩ : Res)) ?_
  decide
theorem storage_1_2 : Pure Go.Proofs.Try.prog 55 [scheme 1 2 0 0 0 0] ⟨.tup [.v (.int .i64 (stN 1 2 : Nat)), .v (.int .i64 0)], []⟩ := by
  refine pure_sz pf eqOk_none (env_ok [62, 91, 64, 101, 114, 97] rfl) fun _ => ⟨400, ?_⟩
  have he := enter_pure 1 2 (by decide) (by decide) (by decide)
  have hl := labels_pure 1 2 (strideN 2) 0
  have hf := leaf_pure 1 2 (strideN 2) (by decide)
  conv => whnf
  refine Or.inr ?_
  conv => whnf
  refine ⟨_, he, ?_⟩
  conv => whnf
  refine ⟨_, hl, ?_⟩
  conv => whnf
  refine ⟨_, hf, ?_⟩
  conv => whnf
  repeat (first
    | (refine wk_none ?_; conv => whnf)
    | (refine ⟨_, toward_i _ _ 2 (by decide), ?_⟩; conv => whnf)
    | (refine ⟨_, toward_i _ _ 4 (by decide), ?_⟩; conv => whnf)
    | (refine ⟨_, toward_i _ _ 8 (by decide), ?_⟩; conv => whnf)
    | (refine ⟨_, toward_i _ _ 16 (by decide), ?_⟩; conv => whnf)
    | (refine ⟨_, toward_i _ _ 32 (by decide), ?_⟩; conv => whnf)
    | (refine ⟨_, toward_i _ _ 64 (by decide), ?_⟩; conv => whnf)
    | (refine ⟨_, path_i _ _ (by decide), ?_⟩; conv => whnf)
    | (refine ⟨_, subset_i 1 2 (strideN 2) _ _ (by decide) (by decide) (by decide) (by decide), ?_⟩; conv => whnf)
    | (refine Or.inl ⟨4, by kernel_rfl, ?_⟩; conv => whnf))
  left
  conv => whnf
  refine congrArg (fun b => (⟨.tup [.v (.int .i64 b), .v (.int .i64 0)], []⟩ : Res)) ?_
  decide
theorem storage_1_3 : Pure Go.Proofs.Try.prog 55 [scheme 1 3 0 0 0 0] ⟨.tup [.v (.int .i64 (stN 1 3 : Nat)), .v (.int .i64 0)], []⟩ := by
  refine pure_sz pf eqOk_none (env_ok [62, 91, 64, 101, 114, 97] rfl) fun _ => ⟨400, ?_⟩
  have he := enter_pure 1 3 (by decide) (by decide) (by decide)
  have hl := labels_pure 1 3 (strideN 3) 0
  have hf := leaf_pure 1 3 (strideN 3) (by decide)
  conv => whnf
  refine Or.inr ?_
  conv => whnf
  refine ⟨_, he, ?_⟩
  conv => whnf
  refine ⟨_, hl, ?_⟩
  conv => whnf
  refine ⟨_, hf, ?_⟩
  conv => whnf
  repeat (first
    | (refine wk_none ?_; conv => whnf)
    | (refine ⟨_, toward_i _ _ 2 (by decide), ?_⟩; conv => whnf)
    | (refine ⟨_, toward_i _ _ 4 (by decide), ?_⟩; conv => whnf)
    | (refine ⟨_, toward_i _ _ 8 (by decide), ?_⟩; conv => whnf)
    | (refine ⟨_, toward_i _ _ 16 (by decide), ?_⟩; conv => whnf)
    | (refine ⟨_, toward_i _ _ 32 (by decide), ?_⟩; conv => whnf)
    | (refine ⟨_, toward_i _ _ 64 (by decide), ?_⟩; conv => whnf)
    | (refine ⟨_, path_i _ _ (by decide), ?_⟩; conv => whnf)
    | (refine ⟨_, subset_i 1 3 (strideN 3) _ _ (by decide) (by decide) (by decide) (by decide), ?_⟩; conv => whnf)
    | (refine Or.inl ⟨4, by kernel_rfl, ?_⟩; conv => whnf))
  left
  conv => whnf
  refine congrArg (fun b => (⟨.tup [.v (.int .i64 b), .v (.int .i64 0)], []⟩ : Res)) ?_
  decide
theorem storage_1_4 : Pure Go.Proofs.Try.prog 55 [scheme 1 4 0 0 0 0] ⟨.tup [.v (.int .i64 (stN 1 4 : Nat)), .v (.int .i64 0)], []⟩ := by
  refine pure_sz pf eqOk_none (env_ok [62, 91, 64, 101, 114, 97] rfl) fun _ => ⟨400, ?_⟩
  have he := enter_pure 1 4 (by decide) (by decide) (by decide)
  have hl := labels_pure 1 4 (strideN 4) 0
  have hf := leaf_pure 1 4 (strideN 4) (by decide)
  conv => whnf
  refine Or.inr ?_
  conv => whnf
  refine ⟨_, he, ?_⟩
  conv => whnf
  refine ⟨_, hl, ?_⟩
  conv => whnf
  refine ⟨_, hf, ?_⟩
  conv => whnf
  repeat (first
    | (refine wk_none ?_; conv => whnf)
    | (refine ⟨_, toward_i _ _ 2 (by decide), ?_⟩; conv => whnf)
    | (refine ⟨_, toward_i _ _ 4 (by decide), ?_⟩; conv => whnf)
    | (refine ⟨_, toward_i _ _ 8 (by decide), ?_⟩; conv => whnf)
    | (refine ⟨_, toward_i _ _ 16 (by decide), ?_⟩; conv => whnf)
    | (refine ⟨_, toward_i _ _ 32 (by decide), ?_⟩; conv => whnf)
    | (refine ⟨_, toward_i _ _ 64 (by decide), ?_⟩; conv => whnf)
    | (refine ⟨_, path_i _ _ (by decide), ?_⟩; conv => whnf)
    | (refine ⟨_, subset_i 1 4 (strideN 4) _ _ (by decide) (by decide) (by decide) (by decide), ?_⟩; conv => whnf)
    | (refine Or.inl ⟨4, by kernel_rfl, ?_⟩; conv => whnf))
  left
  conv => whnf
  refine congrArg (fun b => (⟨.tup [.v (.int .i64 b), .v (.int .i64 0)], []⟩ : Res)) ?_
  decide
theorem storage_1_5 : Pure Go.Proofs.Try.prog 55 [scheme 1 5 0 0 0 0] ⟨.tup [.v (.int .i64 (stN 1 5 : Nat)), .v (.int .i64 0)], []⟩ := by
  refine pure_sz pf eqOk_none (env_ok [62, 91, 64, 101, 114, 97] rfl) fun _ => ⟨400, ?_⟩
  have he := enter_pure 1 5 (by decide) (by decide) (by decide)
  have hl := labels_pure 1 5 (strideN 5) 0
  have hf := leaf_pure 1 5 (strideN 5) (by decide)
  conv => whnf
  refine Or.inr ?_
  conv => whnf
  refine ⟨_, he, ?_⟩
  conv => whnf
  refine ⟨_, hl, ?_⟩
  conv => whnf
  refine ⟨_, hf, ?_⟩
  conv => whnf
  repeat (first
    | (refine wk_none ?_; conv => whnf)
    | (refine ⟨_, toward_i _ _ 2 (by decide), ?_⟩; conv => whnf)
    | (refine ⟨_, toward_i _ _ 4 (by decide), ?_⟩; conv => whnf)
    | (refine ⟨_, toward_i _ _ 8 (by decide), ?_⟩; conv => whnf)
    | (refine ⟨_, toward_i _ _ 16 (by decide), ?_⟩; conv => whnf)
    | (refine ⟨_, toward_i _ _ 32 (by decide), ?_⟩; conv => whnf)
    | (refine ⟨_, toward_i _ _ 64 (by decide), ?_⟩; conv => whnf)
    | (refine ⟨_, path_i _ _ (by decide), ?_⟩; conv => whnf)
    | (refine ⟨_, subset_i 1 5 (strideN 5) _ _ (by decide) (by decide) (by decide) (by decide), ?_⟩; conv => whnf)
    | (refine Or.inl ⟨4, by kernel_rfl, ?_⟩; conv => whnf))
  left
  conv => whnf
  refine congrArg (fun b => (⟨.tup [.v (.int .i64 b), .v (.int .i64 0)], []⟩ : Res)) ?_
  decide
theorem storage_1_6 : Pure Go.Proofs.Try.prog 55 [scheme 1 6 0 0 0 0] ⟨.tup [.v (.int .i64 (stN 1 6 : Nat)), .v (.int .i64 0)], []⟩ := by
  refine pure_sz pf eqOk_none (env_ok [62, 91, 64, 101, 114, 97] rfl) fun _ => ⟨400, ?_⟩
  have he := enter_pure 1 6 (by decide) (by decide) (by decide)
  have hl := labels_pure 1 6 (strideN 6) 0
  have hf := leaf_pure 1 6 (strideN 6) (by decide)
  conv => whnf
  refine Or.inr ?_
  conv => whnf
  refine ⟨_, he, ?_⟩
  conv => whnf
  refine ⟨_, hl, ?_⟩
  conv => whnf
  refine ⟨_, hf, ?_⟩
  conv => whnf
  repeat (first
    | (refine wk_none ?_; conv => whnf)
    | (refine ⟨_, toward_i _ _ 2 (by decide), ?_⟩; conv => whnf)
    | (refine ⟨_, toward_i _ _ 4 (by decide), ?_⟩; conv => whnf)
    | (refine ⟨_, toward_i _ _ 8 (by decide), ?_⟩; conv => whnf)
    | (refine ⟨_, toward_i _ _ 16 (by decide), ?_⟩; conv => whnf)
    | (refine ⟨_, toward_i _ _ 32 (by decide), ?_⟩; conv => whnf)
    | (refine ⟨_, toward_i _ _ 64 (by decide), ?_⟩; conv => whnf)
    | (refine ⟨_, path_i _ _ (by decide), ?_⟩; conv => whnf)
    | (refine ⟨_, subset_i 1 6 (strideN 6) _ _ (by decide) (by decide) (by decide) (by decide), ?_⟩; conv => whnf)
    | (refine Or.inl ⟨4, by kernel_rfl, ?_⟩; conv => whnf))
  left
  conv => whnf
  refine congrArg (fun b => (⟨.tup [.v (.int .i64 b), .v (.int .i64 0)], []⟩ : Res)) ?_
  decide
theorem storage_2_0 : Pure Go.Proofs.Try.prog 55 [scheme 2 0 0 0 0 0] ⟨.tup [.v (.int .i64 (stN 2 0 : Nat)), .v (.int .i64 0)], []⟩ := by
  refine pure_sz pf eqOk_none (env_ok [62, 91, 64, 101, 114, 97] rfl) fun _ => ⟨400, ?_⟩
  have he := enter_pure 2 0 (by decide) (by decide) (by decide)
  have hl := labels_pure 2 0 (strideN 0) 0
  have hf := leaf_pure 2 0 (strideN 0) (by decide)
  conv => whnf
  refine Or.inr ?_
  conv => whnf
  refine ⟨_, he, ?_⟩
  conv => whnf
  refine ⟨_, hl, ?_⟩
  conv => whnf
  refine ⟨_, hf, ?_⟩
  conv => whnf
  repeat (first
    | (refine wk_none ?_; conv => whnf)
    | (refine ⟨_, toward_i _ _ 2 (by decide), ?_⟩; conv => whnf)
    | (refine ⟨_, toward_i _ _ 4 (by decide), ?_⟩; conv => whnf)
    | (refine ⟨_, toward_i _ _ 8 (by decide), ?_⟩; conv => whnf)
    | (refine ⟨_, toward_i _ _ 16 (by decide), ?_⟩; conv => whnf)
    | (refine ⟨_, toward_i _ _ 32 (by decide), ?_⟩; conv => whnf)
    | (refine ⟨_, toward_i _ _ 64 (by decide), ?_⟩; conv => whnf)
    | (refine ⟨_, path_i _ _ (by decide), ?_⟩; conv => whnf)
    | (refine ⟨_, subset_i 2 0 (strideN 0) _ _ (by decide) (by decide) (by decide) (by decide), ?_⟩; conv => whnf)
    | (refine Or.inl ⟨4, by kernel_rfl, ?_⟩; conv => whnf))
  left
  conv => whnf
  refine congrArg (fun b => (⟨.tup [.v (.int .i64 b), .v (.int .i64 0)], []⟩ : Res)) ?_
  decide
theorem storage_2_1 : Pure Go.Proofs.Try.prog 55 [scheme 2 1 0 0 0 0] ⟨.tup [.v (.int .i64 (stN 2 1 : Nat)), .v (.int .i64 0)], []⟩ := by
  refine pure_sz pf eqOk_none (env_ok [62, 91, 64, 101, 114, 97] rfl) fun _ => ⟨400, ?_⟩
  have he := enter_pure 2 1 (by decide) (by decide) (by decide)
  have hl := labels_pure 2 1 (strideN 1) 0
  have hf := leaf_pure 2 1 (strideN 1) (by decide)
  conv => whnf
  refine Or.inr ?_
  conv => whnf
  refine ⟨_, he, ?_⟩
  conv => whnf
  refine ⟨_, hl, ?_⟩
  conv => whnf
  refine ⟨_, hf, ?_⟩
  conv => whnf
  repeat (first
    | (refine wk_none ?_; conv => whnf)
    | (refine ⟨_, toward_i _ _ 2 (by decide), ?_⟩; conv => whnf)
    | (refine ⟨_, toward_i _ _ 4 (by decide), ?_⟩; conv => whnf)
    | (refine ⟨_, toward_i _ _ 8 (by decide), ?_⟩; conv => whnf)
    | (refine ⟨_, toward_i _ _ 16 (by decide), ?_⟩; conv => whnf)
    | (refine ⟨_, toward_i _ _ 32 (by decide), ?_⟩; conv => whnf)
    | (refine ⟨_, toward_i _ _ 64 (by decide), ?_⟩; conv => whnf)
    | (refine ⟨_, path_i _ _ (by decide), ?_⟩; conv => whnf)
    | (refine ⟨_, subset_i 2 1 (strideN 1) _ _ (by decide) (by decide) (by decide) (by decide), ?_⟩; conv => whnf)
    | (refine Or.inl ⟨4, by kernel_rfl, ?_⟩; conv => whnf))
  left
  conv => whnf
  refine congrArg (fun b => (⟨.tup [.v (.int .i64 b), .v (.int .i64 0)], []⟩ : Res)) ?_
  decide
theorem storage_2_2 : Pure Go.Proofs.Try.prog 55 [scheme 2 2 0 0 0 0] ⟨.tup [.v (.int .i64 (stN 2 2 : Nat)), .v (.int .i64 0)], []⟩ := by
  refine pure_sz pf eqOk_none (env_ok [62, 91, 64, 101, 114, 97] rfl) fun _ => ⟨400, ?_⟩
  have he := enter_pure 2 2 (by decide) (by decide) (by decide)
  have hl := labels_pure 2 2 (strideN 2) 0
  have hf := leaf_pure 2 2 (strideN 2) (by decide)
  conv => whnf
  refine Or.inr ?_
  conv => whnf
  refine ⟨_, he, ?_⟩
  conv => whnf
  refine ⟨_, hl, ?_⟩
  conv => whnf
  refine ⟨_, hf, ?_⟩
  conv => whnf
  repeat (first
    | (refine wk_none ?_; conv => whnf)
    | (refine ⟨_, toward_i _ _ 2 (by decide), ?_⟩; conv => whnf)
    | (refine ⟨_, toward_i _ _ 4 (by decide), ?_⟩; conv => whnf)
    | (refine ⟨_, toward_i _ _ 8 (by decide), ?_⟩; conv => whnf)
    | (refine ⟨_, toward_i _ _ 16 (by decide), ?_⟩; conv => whnf)
    | (refine ⟨_, toward_i _ _ 32 (by decide), ?_⟩; conv => whnf)
    | (refine ⟨_, toward_i _ _ 64 (by decide), ?_⟩; conv => whnf)
    | (refine ⟨_, path_i _ _ (by decide), ?_⟩; conv => whnf)
    | (refine ⟨_, subset_i 2 2 (strideN 2) _ _ (by decide) (by decide) (by decide) (by decide), ?_⟩; conv => whnf)
    | (refine Or.inl ⟨4, by kernel_rfl, ?_⟩; conv => whnf))
  left
  conv => whnf
  refine congrArg (fun b => (⟨.tup [.v (.int .i64 b), .v (.int .i64 0)], []⟩ : Res)) ?_
  decide
theorem storage_2_3 : Pure Go.Proofs.Try.prog 55 [scheme 2 3 0 0 0 0] ⟨.tup [.v (.int .i64 (stN 2 3 : Nat)), .v (.int .i64 0)], []⟩ := by
  refine pure_sz pf eqOk_none (env_ok [62, 91, 64, 101, 114, 97] rfl) fun _ => ⟨400, ?_⟩
  have he := enter_pure 2 3 (by decide) (by decide) (by decide)
  have hl := labels_pure 2 3 (strideN 3) 0
  have hf := leaf_pure 2 3 (strideN 3) (by decide)
  conv => whnf
  refine Or.inr ?_
  conv => whnf
  refine ⟨_, he, ?_⟩
  conv => whnf
  refine ⟨_, hl, ?_⟩
  conv => whnf
  refine ⟨_, hf, ?_⟩
  conv => whnf
  repeat (first
    | (refine wk_none ?_; conv => whnf)
    | (refine ⟨_, toward_i _ _ 2 (by decide), ?_⟩; conv => whnf)
    | (refine ⟨_, toward_i _ _ 4 (by decide), ?_⟩; conv => whnf)
    | (refine ⟨_, toward_i _ _ 8 (by decide), ?_⟩; conv => whnf)
    | (refine ⟨_, toward_i _ _ 16 (by decide), ?_⟩; conv => whnf)
    | (refine ⟨_, toward_i _ _ 32 (by decide), ?_⟩; conv => whnf)
    | (refine ⟨_, toward_i _ _ 64 (by decide), ?_⟩; conv => whnf)
    | (refine ⟨_, path_i _ _ (by decide), ?_⟩; conv => whnf)
    | (refine ⟨_, subset_i 2 3 (strideN 3) _ _ (by decide) (by decide) (by decide) (by decide), ?_⟩; conv => whnf)
    | (refine Or.inl ⟨4, by kernel_rfl, ?_⟩; conv => whnf))
  left
  conv => whnf
  refine congrArg (fun b => (⟨.tup [.v (.int .i64 b), .v (.int .i64 0)], []⟩ : Res)) ?_
  decide
theorem storage_2_4 : Pure Go.Proofs.Try.prog 55 [scheme 2 4 0 0 0 0] ⟨.tup [.v (.int .i64 (stN 2 4 : Nat)), .v (.int .i64 0)], []⟩ := by
  refine pure_sz pf eqOk_none (env_ok [62, 91, 64, 101, 114, 97] rfl) fun _ => ⟨400, ?_⟩
  have he := enter_pure 2 4 (by decide) (by decide) (by decide)
  have hl := labels_pure 2 4 (strideN 4) 0
  have hf := leaf_pure 2 4 (strideN 4) (by decide)
  conv => whnf
  refine Or.inr ?_
  conv => whnf
  refine ⟨_, he, ?_⟩
  conv => whnf
  refine ⟨_, hl, ?_⟩
  conv => whnf
  refine ⟨_, hf, ?_⟩
  conv => whnf
  repeat (first
    | (refine wk_none ?_; conv => whnf)
    | (refine ⟨_, toward_i _ _ 2 (by decide), ?_⟩; conv => whnf)
    | (refine ⟨_, toward_i _ _ 4 (by decide), ?_⟩; conv => whnf)
    | (refine ⟨_, toward_i _ _ 8 (by decide), ?_⟩; conv => whnf)
    | (refine ⟨_, toward_i _ _ 16 (by decide), ?_⟩; conv => whnf)
    | (refine ⟨_, toward_i _ _ 32 (by decide), ?_⟩; conv => whnf)
    | (refine ⟨_, toward_i _ _ 64 (by decide), ?_⟩; conv => whnf)
    | (refine ⟨_, path_i _ _ (by decide), ?_⟩; conv => whnf)
    | (refine ⟨_, subset_i 2 4 (strideN 4) _ _ (by decide) (by decide) (by decide) (by decide), ?_⟩; conv => whnf)
    | (refine Or.inl ⟨4, by kernel_rfl, ?_⟩; conv => whnf))
  left
  conv => whnf
  refine congrArg (fun b => (⟨.tup [.v (.int .i64 b), .v (.int .i64 0)], []⟩ : Res)) ?_
  decide
theorem storage_2_5 : Pure Go.Proofs.Try.prog 55 [scheme 2 5 0 0 0 0] ⟨.tup [.v (.int .i64 (stN 2 5 : Nat)), .v (.int .i64 0)], []⟩ := by
  refine pure_sz pf eqOk_none (env_ok [62, 91, 64, 101, 114, 97] rfl) fun _ => ⟨400, ?_⟩
  have he := enter_pure 2 5 (by decide) (by decide) (by decide)
  have hl := labels_pure 2 5 (strideN 5) 0
  have hf := leaf_pure 2 5 (strideN 5) (by decide)
  conv => whnf
  refine Or.inr ?_
  conv => whnf
  refine ⟨_, he, ?_⟩
  conv => whnf
  refine ⟨_, hl, ?_⟩
  conv => whnf
  refine ⟨_, hf, ?_⟩
  conv => whnf
  repeat (first
    | (refine wk_none ?_; conv => whnf)
    | (refine ⟨_, toward_i _ _ 2 (by decide), ?_⟩; conv => whnf)
    | (refine ⟨_, toward_i _ _ 4 (by decide), ?_⟩; conv => whnf)
    | (refine ⟨_, toward_i _ _ 8 (by decide), ?_⟩; conv => whnf)
    | (refine ⟨_, toward_i _ _ 16 (by decide), ?_⟩; conv => whnf)
    | (refine ⟨_, toward_i _ _ 32 (by decide), ?_⟩; conv => whnf)
    | (refine ⟨_, toward_i _ _ 64 (by decide), ?_⟩; conv => whnf)
    | (refine ⟨_, path_i _ _ (by decide), ?_⟩; conv => whnf)
    | (refine ⟨_, subset_i 2 5 (strideN 5) _ _ (by decide) (by decide) (by decide) (by decide), ?_⟩; conv => whnf)
    | (refine Or.inl ⟨4, by kernel_rfl, ?_⟩; conv => whnf))
  left
  conv => whnf
  refine congrArg (fun b => (⟨.tup [.v (.int .i64 b), .v (.int .i64 0)], []⟩ : Res)) ?_
  decide
theorem storage_2_6 : Pure Go.Proofs.Try.prog 55 [scheme 2 6 0 0 0 0] ⟨.tup [.v (.int .i64 (stN 2 6 : Nat)), .v (.int .i64 0)], []⟩ := by
  refine pure_sz pf eqOk_none (env_ok [62, 91, 64, 101, 114, 97] rfl) fun _ => ⟨400, ?_⟩
  have he := enter_pure 2 6 (by decide) (by decide) (by decide)
  have hl := labels_pure 2 6 (strideN 6) 0
  have hf := leaf_pure 2 6 (strideN 6) (by decide)
  conv => whnf
  refine Or.inr ?_
  conv => whnf
  refine ⟨_, he, ?_⟩
  conv => whnf
  refine ⟨_, hl, ?_⟩
  conv => whnf
  refine ⟨_, hf, ?_⟩
  conv => whnf
  repeat (first
    | (refine wk_none ?_; conv => whnf)
    | (refine ⟨_, toward_i _ _ 2 (by decide), ?_⟩; conv => whnf)
    | (refine ⟨_, toward_i _ _ 4 (by decide), ?_⟩; conv => whnf)
    | (refine ⟨_, toward_i _ _ 8 (by decide), ?_⟩; conv => whnf)
    | (refine ⟨_, toward_i _ _ 16 (by decide), ?_⟩; conv => whnf)
    | (refine ⟨_, toward_i _ _ 32 (by decide), ?_⟩; conv => whnf)
    | (refine ⟨_, toward_i _ _ 64 (by decide), ?_⟩; conv => whnf)
    | (refine ⟨_, path_i _ _ (by decide), ?_⟩; conv => whnf)
    | (refine ⟨_, subset_i 2 6 (strideN 6) _ _ (by decide) (by decide) (by decide) (by decide), ?_⟩; conv => whnf)
    | (refine Or.inl ⟨4, by kernel_rfl, ?_⟩; conv => whnf))
  left
  conv => whnf
  refine congrArg (fun b => (⟨.tup [.v (.int .i64 b), .v (.int .i64 0)], []⟩ : Res)) ?_
  decide
theorem storage_3_0 : Pure Go.Proofs.Try.prog 55 [scheme 3 0 0 0 0 0] ⟨.tup [.v (.int .i64 (stN 3 0 : Nat)), .v (.int .i64 0)], []⟩ := by
  refine pure_sz pf eqOk_none (env_ok [62, 91, 64, 101, 114, 97] rfl) fun _ => ⟨400, ?_⟩
  have he := enter_pure 3 0 (by decide) (by decide) (by decide)
  have hl := labels_pure 3 0 (strideN 0) 0
  have hf := leaf_pure 3 0 (strideN 0) (by decide)
  conv => whnf
  refine Or.inr ?_
  conv => whnf
  refine ⟨_, he, ?_⟩
  conv => whnf
  refine ⟨_, hl, ?_⟩
  conv => whnf
  refine ⟨_, hf, ?_⟩
  conv => whnf
  repeat (first
    | (refine wk_none ?_; conv => whnf)
    | (refine ⟨_, toward_i _ _ 2 (by decide), ?_⟩; conv => whnf)
    | (refine ⟨_, toward_i _ _ 4 (by decide), ?_⟩; conv => whnf)
    | (refine ⟨_, toward_i _ _ 8 (by decide), ?_⟩; conv => whnf)
    | (refine ⟨_, toward_i _ _ 16 (by decide), ?_⟩; conv => whnf)
    | (refine ⟨_, toward_i _ _ 32 (by decide), ?_⟩; conv => whnf)
    | (refine ⟨_, toward_i _ _ 64 (by decide), ?_⟩; conv => whnf)
    | (refine ⟨_, path_i _ _ (by decide), ?_⟩; conv => whnf)
    | (refine ⟨_, subset_i 3 0 (strideN 0) _ _ (by decide) (by decide) (by decide) (by decide), ?_⟩; conv => whnf)
    | (refine Or.inl ⟨4, by kernel_rfl, ?_⟩; conv => whnf))
  left
  conv => whnf
  refine congrArg (fun b => (⟨.tup [.v (.int .i64 b), .v (.int .i64 0)], []⟩ : Res)) ?_
  decide
theorem storage_3_1 : Pure Go.Proofs.Try.prog 55 [scheme 3 1 0 0 0 0] ⟨.tup [.v (.int .i64 (stN 3 1 : Nat)), .v (.int .i64 0)], []⟩ := by
  refine pure_sz pf eqOk_none (env_ok [62, 91, 64, 101, 114, 97] rfl) fun _ => ⟨400, ?_⟩
  have he := enter_pure 3 1 (by decide) (by decide) (by decide)
  have hl := labels_pure 3 1 (strideN 1) 0
  have hf := leaf_pure 3 1 (strideN 1) (by decide)
  conv => whnf
  refine Or.inr ?_
  conv => whnf
  refine ⟨_, he, ?_⟩
  conv => whnf
  refine ⟨_, hl, ?_⟩
  conv => whnf
  refine ⟨_, hf, ?_⟩
  conv => whnf
  repeat (first
    | (refine wk_none ?_; conv => whnf)
    | (refine ⟨_, toward_i _ _ 2 (by decide), ?_⟩; conv => whnf)
    | (refine ⟨_, toward_i _ _ 4 (by decide), ?_⟩; conv => whnf)
    | (refine ⟨_, toward_i _ _ 8 (by decide), ?_⟩; conv => whnf)
    | (refine ⟨_, toward_i _ _ 16 (by decide), ?_⟩; conv => whnf)
    | (refine ⟨_, toward_i _ _ 32 (by decide), ?_⟩; conv => whnf)
    | (refine ⟨_, toward_i _ _ 64 (by decide), ?_⟩; conv => whnf)
    | (refine ⟨_, path_i _ _ (by decide), ?_⟩; conv => whnf)
    | (refine ⟨_, subset_i 3 1 (strideN 1) _ _ (by decide) (by decide) (by decide) (by decide), ?_⟩; conv => whnf)
    | (refine Or.inl ⟨4, by kernel_rfl, ?_⟩; conv => whnf))
  left
  conv => whnf
  refine congrArg (fun b => (⟨.tup [.v (.int .i64 b), .v (.int .i64 0)], []⟩ : Res)) ?_
  decide
theorem storage_3_2 : Pure Go.Proofs.Try.prog 55 [scheme 3 2 0 0 0 0] ⟨.tup [.v (.int .i64 (stN 3 2 : Nat)), .v (.int .i64 0)], []⟩ := by
  refine pure_sz pf eqOk_none (env_ok [62, 91, 64, 101, 114, 97] rfl) fun _ => ⟨400, ?_⟩
  have he := enter_pure 3 2 (by decide) (by decide) (by decide)
  have hl := labels_pure 3 2 (strideN 2) 0
  have hf := leaf_pure 3 2 (strideN 2) (by decide)
  conv => whnf
  refine Or.inr ?_
  conv => whnf
  refine ⟨_, he, ?_⟩
  conv => whnf
  refine ⟨_, hl, ?_⟩
  conv => whnf
  refine ⟨_, hf, ?_⟩
  conv => whnf
  repeat (first
    | (refine wk_none ?_; conv => whnf)
    | (refine ⟨_, toward_i _ _ 2 (by decide), ?_⟩; conv => whnf)
    | (refine ⟨_, toward_i _ _ 4 (by decide), ?_⟩; conv => whnf)
    | (refine ⟨_, toward_i _ _ 8 (by decide), ?_⟩; conv => whnf)
    | (refine ⟨_, toward_i _ _ 16 (by decide), ?_⟩; conv => whnf)
    | (refine ⟨_, toward_i _ _ 32 (by decide), ?_⟩; conv => whnf)
    | (refine ⟨_, toward_i _ _ 64 (by decide), ?_⟩; conv => whnf)
    | (refine ⟨_, path_i _ _ (by decide), ?_⟩; conv => whnf)
    | (refine ⟨_, subset_i 3 2 (strideN 2) _ _ (by decide) (by decide) (by decide) (by decide), ?_⟩; conv => whnf)
    | (refine Or.inl ⟨4, by kernel_rfl, ?_⟩; conv => whnf))
  left
  conv => whnf
  refine congrArg (fun b => (⟨.tup [.v (.int .i64 b), .v (.int .i64 0)], []⟩ : Res)) ?_
  decide
theorem storage_3_3 : Pure Go.Proofs.Try.prog 55 [scheme 3 3 0 0 0 0] ⟨.tup [.v (.int .i64 (stN 3 3 : Nat)), .v (.int .i64 0)], []⟩ := by
  refine pure_sz pf eqOk_none (env_ok [62, 91, 64, 101, 114, 97] rfl) fun _ => ⟨400, ?_⟩
  have he := enter_pure 3 3 (by decide) (by decide) (by decide)
  have hl := labels_pure 3 3 (strideN 3) 0
  have hf := leaf_pure 3 3 (strideN 3) (by decide)
  conv => whnf
  refine Or.inr ?_
  conv => whnf
  refine ⟨_, he, ?_⟩
  conv => whnf
  refine ⟨_, hl, ?_⟩
  conv => whnf
  refine ⟨_, hf, ?_⟩
  conv => whnf
  repeat (first
    | (refine wk_none ?_; conv => whnf)
    | (refine ⟨_, toward_i _ _ 2 (by decide), ?_⟩; conv => whnf)
    | (refine ⟨_, toward_i _ _ 4 (by decide), ?_⟩; conv => whnf)
    | (refine ⟨_, toward_i _ _ 8 (by decide), ?_⟩; conv => whnf)
    | (refine ⟨_, toward_i _ _ 16 (by decide), ?_⟩; conv => whnf)
    | (refine ⟨_, toward_i _ _ 32 (by decide), ?_⟩; conv => whnf)
    | (refine ⟨_, toward_i _ _ 64 (by decide), ?_⟩; conv => whnf)
    | (refine ⟨_, path_i _ _ (by decide), ?_⟩; conv => whnf)
    | (refine ⟨_, subset_i 3 3 (strideN 3) _ _ (by decide) (by decide) (by decide) (by decide), ?_⟩; conv => whnf)
    | (refine Or.inl ⟨4, by kernel_rfl, ?_⟩; conv => whnf))
  left
  conv => whnf
  refine congrArg (fun b => (⟨.tup [.v (.int .i64 b), .v (.int .i64 0)], []⟩ : Res)) ?_
  decide
theorem storage_3_4 : Pure Go.Proofs.Try.prog 55 [scheme 3 4 0 0 0 0] ⟨.tup [.v (.int .i64 (stN 3 4 : Nat)), .v (.int .i64 0)], []⟩ := by
  refine pure_sz pf eqOk_none (env_ok [62, 91, 64, 101, 114, 97] rfl) fun _ => ⟨400, ?_⟩
  have he := enter_pure 3 4 (by decide) (by decide) (by decide)
  have hl := labels_pure 3 4 (strideN 4) 0
  have hf := leaf_pure 3 4 (strideN 4) (by decide)
  conv => whnf
  refine Or.inr ?_
  conv => whnf
  refine ⟨_, he, ?_⟩
  conv => whnf
  refine ⟨_, hl, ?_⟩
  conv => whnf
  refine ⟨_, hf, ?_⟩
  conv => whnf
  repeat (first
    | (refine wk_none ?_; conv => whnf)
    | (refine ⟨_, toward_i _ _ 2 (by decide), ?_⟩; conv => whnf)
    | (refine ⟨_, toward_i _ _ 4 (by decide), ?_⟩; conv => whnf)
    | (refine ⟨_, toward_i _ _ 8 (by decide), ?_⟩; conv => whnf)
    | (refine ⟨_, toward_i _ _ 16 (by decide), ?_⟩; conv => whnf)
    | (refine ⟨_, toward_i _ _ 32 (by decide), ?_⟩; conv => whnf)
    | (refine ⟨_, toward_i _ _ 64 (by decide), ?_⟩; conv => whnf)
    | (refine ⟨_, path_i _ _ (by decide), ?_⟩; conv => whnf)
    | (refine ⟨_, subset_i 3 4 (strideN 4) _ _ (by decide) (by decide) (by decide) (by decide), ?_⟩; conv => whnf)
    | (refine Or.inl ⟨4, by kernel_rfl, ?_⟩; conv => whnf))
  left
  conv => whnf
  refine congrArg (fun b => (⟨.tup [.v (.int .i64 b), .v (.int .i64 0)], []⟩ : Res)) ?_
  decide
theorem storage_3_5 : Pure Go.Proofs.Try.prog 55 [scheme 3 5 0 0 0 0] ⟨.tup [.v (.int .i64 (stN 3 5 : Nat)), .v (.int .i64 0)], []⟩ := by
  refine pure_sz pf eqOk_none (env_ok [62, 91, 64, 101, 114, 97] rfl) fun _ => ⟨400, ?_⟩
  have he := enter_pure 3 5 (by decide) (by decide) (by decide)
  have hl := labels_pure 3 5 (strideN 5) 0
  have hf := leaf_pure 3 5 (strideN 5) (by decide)
  conv => whnf
  refine Or.inr ?_
  conv => whnf
  refine ⟨_, he, ?_⟩
  conv => whnf
  refine ⟨_, hl, ?_⟩
  conv => whnf
  refine ⟨_, hf, ?_⟩
  conv => whnf
  repeat (first
    | (refine wk_none ?_; conv => whnf)
    | (refine ⟨_, toward_i _ _ 2 (by decide), ?_⟩; conv => whnf)
    | (refine ⟨_, toward_i _ _ 4 (by decide), ?_⟩; conv => whnf)
    | (refine ⟨_, toward_i _ _ 8 (by decide), ?_⟩; conv => whnf)
    | (refine ⟨_, toward_i _ _ 16 (by decide), ?_⟩; conv => whnf)
    | (refine ⟨_, toward_i _ _ 32 (by decide), ?_⟩; conv => whnf)
    | (refine ⟨_, toward_i _ _ 64 (by decide), ?_⟩; conv => whnf)
    | (refine ⟨_, path_i _ _ (by decide), ?_⟩; conv => whnf)
    | (refine ⟨_, subset_i 3 5 (strideN 5) _ _ (by decide) (by decide) (by decide) (by decide), ?_⟩; conv => whnf)
    | (refine Or.inl ⟨4, by kernel_rfl, ?_⟩; conv => whnf))
  left
  conv => whnf
  refine congrArg (fun b => (⟨.tup [.v (.int .i64 b), .v (.int .i64 0)], []⟩ : Res)) ?_
  decide
theorem storage_3_6 : Pure Go.Proofs.Try.prog 55 [scheme 3 6 0 0 0 0] ⟨.tup [.v (.int .i64 (stN 3 6 : Nat)), .v (.int .i64 0)], []⟩ := by
  refine pure_sz pf eqOk_none (env_ok [62, 91, 64, 101, 114, 97] rfl) fun _ => ⟨400, ?_⟩
  have he := enter_pure 3 6 (by decide) (by decide) (by decide)
  have hl := labels_pure 3 6 (strideN 6) 0
  have hf := leaf_pure 3 6 (strideN 6) (by decide)
  conv => whnf
  refine Or.inr ?_
  conv => whnf
  refine ⟨_, he, ?_⟩
  conv => whnf
  refine ⟨_, hl, ?_⟩
  conv => whnf
  refine ⟨_, hf, ?_⟩
  conv => whnf
  repeat (first
    | (refine wk_none ?_; conv => whnf)
    | (refine ⟨_, toward_i _ _ 2 (by decide), ?_⟩; conv => whnf)
    | (refine ⟨_, toward_i _ _ 4 (by decide), ?_⟩; conv => whnf)
    | (refine ⟨_, toward_i _ _ 8 (by decide), ?_⟩; conv => whnf)
    | (refine ⟨_, toward_i _ _ 16 (by decide), ?_⟩; conv => whnf)
    | (refine ⟨_, toward_i _ _ 32 (by decide), ?_⟩; conv => whnf)
    | (refine ⟨_, toward_i _ _ 64 (by decide), ?_⟩; conv => whnf)
    | (refine ⟨_, path_i _ _ (by decide), ?_⟩; conv => whnf)
    | (refine ⟨_, subset_i 3 6 (strideN 6) _ _ (by decide) (by decide) (by decide) (by decide), ?_⟩; conv => whnf)
    | (refine Or.inl ⟨4, by kernel_rfl, ?_⟩; conv => whnf))
  left
  conv => whnf
  refine congrArg (fun b => (⟨.tup [.v (.int .i64 b), .v (.int .i64 0)], []⟩ : Res)) ?_
  decide
theorem storage_pure (kind d : Nat) (h1 : 1 ≤ kind) (h3 : kind ≤ 3) (hd : d ≤ 6) : Pure Go.Proofs.Try.prog 55 [scheme kind d 0 0 0 0] ⟨.tup [.v (.int .i64 (stN kind d : Nat)), .v (.int .i64 0)], []⟩ := by
  have hk : kind = 1 ∨ kind = 2 ∨ kind = 3 := by omega
  rcases hk with rfl | rfl | rfl
  · match d, hd with
    | 0, _ => exact storage_1_0
    | 1, _ => exact storage_1_1
    | 2, _ => exact storage_1_2
    | 3, _ => exact storage_1_3
    | 4, _ => exact storage_1_4
    | 5, _ => exact storage_1_5
    | 6, _ => exact storage_1_6
  · match d, hd with
    | 0, _ => exact storage_2_0
    | 1, _ => exact storage_2_1
    | 2, _ => exact storage_2_2
    | 3, _ => exact storage_2_3
    | 4, _ => exact storage_2_4
    | 5, _ => exact storage_2_5
    | 6, _ => exact storage_2_6
  · match d, hd with
    | 0, _ => exact storage_3_0
    | 1, _ => exact storage_3_1
    | 2, _ => exact storage_3_2
    | 3, _ => exact storage_3_3
    | 4, _ => exact storage_3_4
    | 5, _ => exact storage_3_5
    | 6, _ => exact storage_3_6
theorem stN_le (kind d : Nat) (h1 : 1 ≤ kind) (h3 : kind ≤ 3) (hd : d ≤ 6) : stN kind d ≤ 22 := by
  have hk : kind = 1 ∨ kind = 2 ∨ kind = 3 := by omega
  rcases hk with rfl | rfl | rfl
  all_goals
    match d, hd with
    | 0, _ | 1, _ | 2, _ | 3, _ | 4, _ | 5, _ | 6, _ => decide
end Go.YtoeophdffhmpmaaE
end

section
set_option linter.unusedVariables false
set_option linter.unusedSimpArgs false
set_option maxRecDepth 100000
set_option maxHeartbeats 1000000
namespace Go.YtoeophdffhmpmaaE
open Go Go.RowKit

theorem ancN_half {w l : Nat} (hl : l + 1 ≤ w.log2) : ancN w (l + 1) / 2 = ancN w l := by
  unfold ancN
  rw [Nat.div_div_eq_div_mul, ← Nat.pow_succ]
  congr 2
  omega
/-- A node's ancestors from a level on. -/
def pthL (w a n : Nat) : List Int := (List.range n).map fun i => ((ancN w (a + i) : Nat) : Int)
theorem pthL_length (w a n : Nat) : (pthL w a n).length = n := by simp [pthL]
theorem pthL_cons (w a n : Nat) : pthL w a (n + 1) = ((ancN w a : Nat) : Int) :: pthL w (a + 1) n := by
  simp only [pthL, List.range_succ_eq_map, List.map_cons, List.map_map, Nat.add_zero]
  refine congrArg _ (List.map_congr_left fun i _ => ?_)
  simp only [Function.comp]
  rw [show a + i.succ = a + 1 + i from by omega]
theorem path3_loop (E : EqT) (w a : Nat) (h1 : 1 ≤ w) (h2 : w ≤ 1000000) (K : K) :
    ∀ (c l m n : Nat), a + c = l → l + m = w.log2 → 1 ≤ m → c + 60 ≤ n →
      (∀ j, K (.exit 0) (mkJ 19 [(0, .v (.int .i64 (ancN w a : Nat))), (5, .sl 0 0 1 0 (w.log2 - a))] j) [.rw false false 0 1 (ints (pthL w (a + 1) (w.log2 - a)))] []) →
      loopF (run Go.Proofs.Try.prog E (envL Go.Proofs.Try.prog []) n) 0 0 (loopB Go.Proofs.Try.prog 137 0) (mkT 19 [(0, .v (.int .i64 (ancN w a : Nat))), (1, .v (.int .i64 (ancN w l : Nat))), (5, .sl 0 0 1 0 m)]) [.rw false false 0 1 (ints (pthL w (l + 1) m))] [] K := by
  intro c
  induction c with
  | zero =>
    intro l m n hl hm hm1 hn hK
    obtain ⟨n, rfl⟩ : ∃ q, n = q + 60 := ⟨n - 60, by omega⟩
    obtain rfl : l = a := by omega
    obtain rfl : m = w.log2 - l := by omega
    conv => whnf
    rw [show (((ancN w l : Nat) : Int) != ((ancN w l : Nat) : Int)) = false by simp]
    conv => whnf
    exact useJ hK rfl
  | succ c ih =>
    intro l m n hl hm hm1 hn hK
    obtain ⟨n, rfl⟩ : ∃ q, n = q + 60 := ⟨n - 60, by omega⟩
    obtain ⟨l, rfl⟩ : ∃ q, l = q + 1 := ⟨l - 1, by omega⟩
    have next := ih l (m + 1) (n + 59) (by omega) (by omega) (by omega) (by omega) hK
    have hne : ((ancN w (l + 1) : Nat) : Int) ≠ ((ancN w a : Nat) : Int) := fun e => by
      have e : ancN w (l + 1) = ancN w a := by omega
      have x1 := ancN_log h1 (l := l + 1) (by omega)
      have x2 := ancN_log h1 (l := a) (by omega)
      rw [e] at x1; omega
    have hle := ancN_le w (l + 1)
    conv => whnf
    rw [show (((ancN w (l + 1) : Nat) : Int) != ((ancN w a : Nat) : Int)) = true by simpa using hne]
    conv => whnf
    refine ⟨by rw [ints_length, pthL_length]; omega, ?_⟩
    rw [ints_full (pthL_length w (l + 1 + 1) m).symm]
    conv => whnf
    have hlog := log2_le h1 h2
    refine ⟨⟨rfl, Nat.le_refl _, by show ((1 + (ints (pthL w (l + 1 + 1) m)).length : Nat) : Int) * ((8 : Nat) : Int) ≤ 70368744177664; rw [ints_length, pthL_length]; omega, intsAll rfl⟩, ints (pthL w (l + 1) (m + 1)), by rw [pthL_cons]; rfl, ?_⟩
    conv => whnf
    refine ⟨by decide, ?_⟩
    conv => whnf
    rw [show IntKind.i64.wrap (((ancN w (l + 1) : Nat) : Int).tdiv 2) = ((ancN w l : Nat) : Int) from by
      rw [show ((ancN w (l + 1) : Nat) : Int).tdiv 2 = ((ancN w (l + 1) / 2 : Nat) : Int) from rfl, ancN_half (by omega), wrap64 (by omega) (by have := ancN_le w l; omega)]]
    rw [ints_length, pthL_length, Nat.add_comm 1 m]
    refine gc_step ⟨[true, true, false, false, false, true], [1], 0⟩ (mkT 19 [(0, .v (.int .i64 (ancN w a : Nat))), (1, .v (.int .i64 (ancN w l : Nat))), (5, .sl 0 0 1 0 (m + 1))]) [.rw false false 0 1 (ints (pthL w (l + 1) (m + 1)))] [] (fun k hk => hk) ?_
    exact next
theorem path3_pure (w a : Nat) (h1 : 1 ≤ w) (h2 : w ≤ 1000000) (ha : a ≤ w.log2) : Pure Go.Proofs.Try.prog 137 [.v (.int .i64 (ancN w a : Nat)), .v (.int .i64 w)] ⟨.ro (ints (pthL w a (w.log2 - a + 1))), []⟩ := by
  refine pure_sz pf eqOk_none (env_ok [] rfl) fun _ => ⟨200, ?_⟩
  have hlog := log2_le h1 h2
  by_cases he : a = w.log2
  · subst he
    rw [Nat.sub_self, ancN_full]
    conv => whnf
    refine wk_none ?_
    conv => whnf
    rw [show ((w : Int) != (w : Int)) = false by simp]
    conv => whnf
    refine ⟨⟨rfl, Nat.le_refl _, by decide, by simp⟩, ints [(w : Int)], rfl, ?_⟩
    conv => whnf
    left
    conv => whnf
    refine ⟨Nat.le_refl _, ?_⟩
    conv => whnf
    rw [show pthL w w.log2 (0 + 1) = [(w : Int)] from by rw [pthL_cons, ancN_full]; rfl]
    try rfl
  · have hne : ((w : Nat) : Int) ≠ ((ancN w a : Nat) : Int) := fun e => by
      have e : w = ancN w a := by omega
      have x2 := ancN_log h1 (l := a) (by omega)
      rw [← e] at x2; omega
    obtain ⟨g, hg⟩ : ∃ g, w.log2 = g + 1 := ⟨w.log2 - 1, by omega⟩
    conv => whnf
    refine wk_none ?_
    conv => whnf
    rw [show ((w : Int) != ((ancN w a : Nat) : Int)) = true by simpa using hne]
    conv => whnf
    refine ⟨⟨rfl, Nat.le_refl _, by decide, by simp⟩, ints [(w : Int)], rfl, ?_⟩
    conv => whnf
    refine ⟨by decide, ?_⟩
    conv => whnf
    rw [show IntKind.i64.wrap ((w : Int).tdiv 2) = ((ancN w g : Nat) : Int) from by
      rw [show (w : Int).tdiv 2 = ((w / 2 : Nat) : Int) from rfl]
      have : w / 2 = ancN w g := by rw [← ancN_half (w := w) (l := g) (by omega), ← hg, ancN_full]
      rw [this, wrap64 (by omega) (by have := ancN_le w g; omega)]]
    refine gc_step ⟨[true, true, false, false, false, true], [0], 0⟩ (mkT 19 [(0, .v (.int .i64 (ancN w a : Nat))), (1, .v (.int .i64 (ancN w g : Nat))), (5, .sl 0 0 1 0 1)]) [.rw false false 0 1 (ints (pthL w (g + 1) 1))] [] (fun k hk => by rw [show pthL w (g + 1) 1 = [(w : Int)] from by rw [pthL_cons, ← hg, ancN_full]; rfl] at hk; exact hk) ?_
    refine path3_loop (fun _ => none) w a h1 h2 _ (g - a) g 1 194 (by omega) (by omega) (by omega) (by omega) fun j => ?_
    conv => whnf
    refine ⟨by rw [ints_length, pthL_length]; omega, ?_⟩
    rw [ints_full (pthL_length w (a + 1) (w.log2 - a)).symm]
    conv => whnf
    refine ⟨⟨rfl, Nat.le_refl _, by show ((1 + (ints (pthL w (a + 1) (w.log2 - a))).length : Nat) : Int) * ((8 : Nat) : Int) ≤ 70368744177664; rw [ints_length, pthL_length]; omega, intsAll rfl⟩, ints (pthL w a (w.log2 - a + 1)), by rw [pthL_cons]; rfl, ?_⟩
    conv => whnf
    left
    conv => whnf
    have e : 1 + (ints (pthL w (a + 1) (w.log2 - a))).length = (pthL w a (w.log2 - a + 1)).length := by rw [ints_length, pthL_length, pthL_length]; omega
    rw [e]
    refine ⟨by rw [ints_length]; omega, ?_⟩
    rw [ints_full rfl]
    try rfl
end Go.YtoeophdffhmpmaaE
end

section
set_option linter.unusedVariables false
set_option linter.unusedSimpArgs false
set_option maxRecDepth 100000
set_option maxHeartbeats 1000000
namespace Go.YtoeophdffhmpmaaE
open Go Go.RowKit

theorem node3_pure (d v : Nat) (hd : d ≤ 6) (h1 : 1 ≤ v) (h2 : v < 2 ^ (d + 1)) : Pure Go.Proofs.Try.prog 144 [.v (.int .i64 d), .v (.int .i64 v)] ⟨.v (.bool true), []⟩ := by
  refine pure_sz pf eqOk_none (env_ok [77] rfl) fun _ => ⟨60, ?_⟩
  have hp := pow_le6 hd
  rw [Nat.pow_succ] at h2
  conv => whnf
  rw [show decide ((v : Int) ≥ 1) = true by simp only [decide_eq_true_eq]; omega]
  conv => whnf
  refine ⟨_, receivers_pure d hd, ?_⟩
  conv => whnf
  rw [show IntKind.i64.wrap (2 * ((2 ^ d : Nat) : Int)) = 2 * ((2 ^ d : Nat) : Int) from wrap64 (by omega) (by omega)]
  left
  conv => whnf
  refine congrArg (fun b => (⟨.v (.bool b), []⟩ : Res)) ?_
  symm
  simp only [decide_eq_true_eq]
  omega
theorem half64 (v : Nat) (h : v ≤ 1000000) : IntKind.i64.wrap ((v : Int).tdiv 2) = ((v / 2 : Nat) : Int) := by
  rw [show (v : Int).tdiv 2 = ((v / 2 : Nat) : Int) from rfl, wrap64 (by omega) (by omega)]
theorem level3_loop (E : EqT) (K : K) :
    ∀ (c v k n : Nat), v.log2 = c → 1 ≤ v → v ≤ 1000000 → k + c ≤ 100 → c + 60 ≤ n →
      (∀ j, K (.exit 0) (mkJ 11 [(3, .v (.int .i64 (k + c : Nat)))] j) [] []) →
      loopF (run Go.Proofs.Try.prog E (envL Go.Proofs.Try.prog []) n) 0 0 (loopB Go.Proofs.Try.prog 149 0) (mkT 11 [(0, .v (.int .i64 v)), (3, .v (.int .i64 k))]) [] [] K := by
  intro c
  induction c with
  | zero =>
    intro v k n hv h1 h2 hk hn hK
    obtain ⟨n, rfl⟩ : ∃ m, n = m + 60 := ⟨n - 60, by omega⟩
    have hv2 : v < 2 := by rw [Nat.log2_def] at hv; split at hv <;> omega
    conv => whnf
    rw [show decide ((v : Int) > 1) = false by simp only [decide_eq_false_iff_not]; omega]
    conv => whnf
    exact useJ hK rfl
  | succ c ih =>
    intro v k n hv h1 h2 hk hn hK
    obtain ⟨n, rfl⟩ : ∃ m, n = m + 60 := ⟨n - 60, by omega⟩
    have hv2 : 2 ≤ v ∧ (v / 2).log2 = c := by rw [Nat.log2_def] at hv; split at hv <;> omega
    conv => whnf
    rw [show decide ((v : Int) > 1) = true by simp only [decide_eq_true_eq]; omega]
    conv => whnf
    refine ⟨by decide, ?_⟩
    conv => whnf
    rw [half64 v h2, show IntKind.i64.wrap ((k : Int) + 1) = ((k + 1 : Nat) : Int) from by rw [wrap64 (by omega) (by omega)]; omega]
    refine wk_mask [true, false, false, true] _ rfl ?_
    refine ih (v / 2) (k + 1) (n + 59) hv2.2 (by omega) (by omega) (by omega) (by omega) fun j => ?_
    rw [show k + 1 + c = k + (c + 1) from by omega]
    exact hK j
theorem level3_pure (v : Nat) (h1 : 1 ≤ v) (h2 : v ≤ 1000000) : Pure Go.Proofs.Try.prog 149 [.v (.int .i64 v)] ⟨.v (.int .i64 (v.log2 : Nat)), []⟩ := by
  refine pure_sz pf eqOk_none (env_ok [] rfl) fun _ => ⟨200, ?_⟩
  have hl := log2_le h1 h2
  conv => whnf
  refine wk_mask [true, false, false, true] _ rfl ?_
  refine level3_loop (fun _ => none) _ v.log2 v 0 195 rfl h1 h2 (by omega) (by omega) fun j => ?_
  rw [Nat.zero_add]
  conv => whnf
  left
  conv => whnf
  try rfl
theorem r3below_loop (E : EqT) (w a : Nat) (h1 : 1 ≤ w) (h2 : w ≤ 1000000) (K : K) :
    ∀ (c l n : Nat), l = a + c → l ≤ w.log2 → c + 60 ≤ n →
      (∀ j, K (.exit 0) (mkJ 13 [(0, .v (.int .i64 (ancN w a : Nat))), (1, .v (.int .i64 (ancN w a : Nat)))] j) [] []) →
      loopF (run Go.Proofs.Try.prog E (envL Go.Proofs.Try.prog []) n) 0 0 (loopB Go.Proofs.Try.prog 145 0) (mkT 13 [(0, .v (.int .i64 (ancN w l : Nat))), (1, .v (.int .i64 (ancN w a : Nat)))]) [] [] K := by
  intro c
  induction c with
  | zero =>
    intro l n hl hlw hn hK
    obtain ⟨n, rfl⟩ : ∃ m, n = m + 60 := ⟨n - 60, by omega⟩
    obtain rfl : l = a := by omega
    conv => whnf
    rw [show decide (((ancN w l : Nat) : Int) > ((ancN w l : Nat) : Int)) = false by simp]
    conv => whnf
    exact useJ hK rfl
  | succ c ih =>
    intro l n hl hlw hn hK
    obtain ⟨n, rfl⟩ : ∃ m, n = m + 60 := ⟨n - 60, by omega⟩
    obtain ⟨l, rfl⟩ : ∃ q, l = q + 1 := ⟨l - 1, by omega⟩
    have hgt : ancN w a < ancN w (l + 1) := by
      have x1 := ancN_log h1 (l := l + 1) (by omega)
      have x2 := ancN_log h1 (l := a) (by omega)
      have p1 := ancN_pos h1 (l + 1)
      have p2 := ancN_pos h1 a
      have y1 : 2 ^ (l + 1) ≤ ancN w (l + 1) := by have := Nat.log2_self_le (n := ancN w (l + 1)) (by omega); rwa [x1] at this
      have y2 : ancN w a < 2 ^ (a + 1) := by have := @Nat.lt_log2_self (ancN w a); rwa [x2] at this
      have y3 : 2 ^ (a + 1) ≤ 2 ^ (l + 1) := Nat.pow_le_pow_right (by decide) (by omega)
      omega
    have hle := ancN_le w (l + 1)
    conv => whnf
    rw [show decide (((ancN w (l + 1) : Nat) : Int) > ((ancN w a : Nat) : Int)) = true by simp only [decide_eq_true_eq]; omega]
    conv => whnf
    refine ⟨by decide, ?_⟩
    conv => whnf
    rw [half64 _ (by omega), ancN_half hlw]
    refine wk_mask [true, true] _ rfl ?_
    exact ih l (n + 59) (by omega) (by omega) (by omega) hK
theorem r3below_pure (w a : Nat) (h1 : 1 ≤ w) (h2 : w ≤ 1000000) (ha : a ≤ w.log2) : Pure Go.Proofs.Try.prog 145 [.v (.int .i64 w), .v (.int .i64 (ancN w a : Nat))] ⟨.v (.bool true), []⟩ := by
  refine pure_sz pf eqOk_none (env_ok [] rfl) fun _ => ⟨200, ?_⟩
  have hl := log2_le h1 h2
  conv => whnf
  refine wk_mask [true, true] _ rfl ?_
  have L := fun K => r3below_loop (fun _ => none) w a h1 h2 K (w.log2 - a) w.log2 196 (by omega) (Nat.le_refl _) (by omega)
  rw [ancN_full] at L
  refine L _ fun j => ?_
  conv => whnf
  rw [show (((ancN w a : Nat) : Int) == ((ancN w a : Nat) : Int)) = true by simp]
  left
  conv => whnf
  try rfl
theorem special3_pure (d v : Nat) (hd : d ≤ 6) (h1 : 1 ≤ v) (h2 : v ≤ 1000000) :
    Pure Go.Proofs.Try.prog 146 [.v (.int .i64 d), .v (.int .i64 v)] ⟨.v (.bool (decide (v.log2 % strideN d = 0))), []⟩ := by
  refine pure_sz pf eqOk_none (env_ok [149, 132] rfl) fun _ => ⟨60, ?_⟩
  have hs := strideN_pos d
  conv => whnf
  refine ⟨_, level3_pure v h1 h2, ?_⟩
  conv => whnf
  refine ⟨_, stride3_pure d hd, ?_⟩
  conv => whnf
  refine ⟨by omega, ?_⟩
  conv => whnf
  left
  conv => whnf
  refine congrArg (fun b => (⟨.v (.bool b), []⟩ : Res)) ?_
  rw [tmodN, Bool.eq_iff_iff, beq_iff_eq, decide_eq_true_eq]
  omega
theorem two_le {w g : Nat} (h : w.log2 = g + 1) : 2 ≤ w ∧ w.log2 = (w / 2).log2 + 1 := by
  have h' := h
  rw [Nat.log2_def] at h'
  split at h'
  · refine ⟨by omega, ?_⟩
    rw [Nat.log2_def, if_pos (by omega)]
  · omega
theorem btw_loop (E : EqT) (w a d : Nat) (h1 : 1 ≤ w) (h2 : w ≤ 1000000) (hd : d ≤ 6) (g : Nat) (hg : w.log2 = a + g + 1) (K : K) :
    ∀ (c k n : Nat), k + c = g → c + 60 ≤ n →
      (firN (strideN d) (w / 2) c (a + k) = 0 → ∀ j, K (.exit 0) (mkJ 29 [] j) [] []) →
      (∀ y : Nat, y ≠ 0 → firN (strideN d) (w / 2) c (a + k) = y → ∀ j, K .ret (mkJ 29 [(6, .v (.int .i64 y))] j) [] []) →
      loopF (run Go.Proofs.Try.prog E (envL Go.Proofs.Try.prog [137, 146]) n) 0 0 (loopB Go.Proofs.Try.prog 147 0)
        (mkT 29 [(0, .v (.int .i64 d)), (7, .ro (ints (pthL w a (w.log2 - a + 1)))), (8, .v (.int .i64 (k + 1 : Nat)))]) [] [] K := by
  intro c
  have hlog := log2_le h1 h2
  have hl : w.log2 = (w / 2).log2 + 1 := (two_le (g := a + g) (by omega)).2
  have hlen : (ints (pthL w a (w.log2 - a + 1))).length = g + 2 := by rw [ints_length, pthL_length]; omega
  induction c with
  | zero =>
    intro k n hk hn hK hF
    obtain ⟨n, rfl⟩ : ∃ m, n = m + 60 := ⟨n - 60, by omega⟩
    conv => whnf
    rw [hlen, show IntKind.i64.wrap (((g + 2 : Nat) : Int) - 1) = ((g + 1 : Nat) : Int) from by rw [wrap64 (by omega) (by omega)]; omega]
    rw [show decide (((k + 1 : Nat) : Int) < ((g + 1 : Nat) : Int)) = false by simp only [decide_eq_false_iff_not]; omega]
    conv => whnf
    exact useJ (hK rfl) rfl
  | succ c ih =>
    intro k n hk hn hK hF
    obtain ⟨n, rfl⟩ : ∃ m, n = m + 60 := ⟨n - 60, by omega⟩
    have hget : (ints (pthL w a (w.log2 - a + 1)))[k + 1]? = some [.v (.int .i64 (ancN w (a + k + 1) : Nat))] := by
      rw [ints_get _ _ (by rw [pthL_length]; omega)]
      simp only [pthL, List.getElem_map, List.getElem_range]
      rfl
    have hanc : ancN w (a + k + 1) = ancN (w / 2) (a + k + 1) := by
      unfold ancN
      rw [hl, Nat.div_div_eq_div_mul, ← Nat.pow_succ']
      congr 2
      omega
    have hsp := special3_pure d (ancN w (a + k + 1)) hd (ancN_pos h1 _) (by have := ancN_le w (a + k + 1); omega)
    rw [ancN_log h1 (by omega)] at hsp
    conv => whnf
    rw [hlen, show IntKind.i64.wrap (((g + 2 : Nat) : Int) - 1) = ((g + 1 : Nat) : Int) from by rw [wrap64 (by omega) (by omega)]; omega]
    rw [show decide (((k + 1 : Nat) : Int) < ((g + 1 : Nat) : Int)) = true by simp only [decide_eq_true_eq]; omega]
    conv => whnf
    refine ⟨⟨by omega, by rw [hlen]; omega⟩, ?_⟩
    conv => whnf
    refine optK_intro _ hget ?_
    conv => whnf
    refine ⟨_, hsp, ?_⟩
    by_cases c1 : (a + k + 1) % strideN d = 0
    · rw [show decide ((a + k + 1) % strideN d = 0) = true by simpa using c1]
      conv => whnf
      refine ⟨⟨by omega, by rw [hlen]; omega⟩, ?_⟩
      conv => whnf
      refine optK_intro _ hget ?_
      conv => whnf
      refine useJ (hF (ancN w (a + k + 1)) (by have := ancN_pos h1 (a + k + 1); omega) ?_) rfl
      rw [firN, if_pos c1, hanc]
    · rw [show decide ((a + k + 1) % strideN d = 0) = false by simpa using c1]
      conv => whnf
      rw [show IntKind.i64.wrap (((k + 1 : Nat) : Int) + 1) = ((k + 1 + 1 : Nat) : Int) from by rw [wrap64 (by omega) (by omega)]; omega]
      refine wk_mask [true, false, false, false, false, false, false, true, true] _ rfl ?_
      have e : firN (strideN d) (w / 2) (c + 1) (a + k) = firN (strideN d) (w / 2) c (a + (k + 1)) := by rw [firN, if_neg c1]; rfl
      rw [e] at hK hF
      exact ih (k + 1) (n + 59) (by omega) (by omega) hK hF
theorem between_pure (w a d : Nat) (h1 : 1 ≤ w) (h2 : w ≤ 1000000) (hd : d ≤ 6) (ha : a < w.log2) :
    Pure Go.Proofs.Try.prog 147 [.v (.int .i64 d), .v (.int .i64 (ancN w a : Nat)), .v (.int .i64 w)] ⟨.v (.int .i64 (cutN (strideN d) w a : Nat)), []⟩ := by
  refine pure_sz pf eqOk_none (env_ok [137, 146] rfl) fun _ => ⟨200, ?_⟩
  have hlog := log2_le h1 h2
  obtain ⟨g, hg⟩ : ∃ g, w.log2 = a + g + 1 := ⟨w.log2 - a - 1, by omega⟩
  have hl : (w / 2).log2 - a = g := by
    have : w.log2 = (w / 2).log2 + 1 := (two_le (g := a + g) (by omega)).2
    omega
  unfold cutN
  rw [hl]
  conv => whnf
  refine ⟨_, path3_pure w a h1 h2 (by omega), ?_⟩
  conv => whnf
  refine wk_mask [true, false, false, false, false, false, false, true, true] _ rfl ?_
  refine btw_loop (fun _ => none) w a d h1 h2 hd g hg _ g 0 194 (by omega) (by omega) (fun h j => ?_) (fun y hy h j => ?_)
  · rw [Nat.add_zero] at h
    rw [h]
    conv => whnf
    left
    conv => whnf
    try rfl
  · rw [Nat.add_zero] at h
    rw [h]
    conv => whnf
    left
    conv => whnf
    try rfl
theorem isSubset_pure (kind d w a : Nat) (hk : kind = 2 ∨ kind = 3) (hd : d ≤ 6) (h1 : 2 ≤ w) (hw : w < 2 ^ (d + 1)) (ha : a < w.log2) :
    Pure Go.Proofs.Try.prog 138 [scheme kind d 0 0 0 0, subA (ancN w a : Nat) w] ⟨.v (.bool (subB kind (strideN d) w a)), []⟩ := by
  refine pure_sz pf eqOk_none (env_ok [144, 145, 146, 147] rfl) fun _ => ⟨60, ?_⟩
  have hp := ancN_pos (w := w) (by omega) a
  have hle := ancN_le w a
  have h128 : 2 ^ (d + 1) ≤ 128 := by have := pow_le6 hd; rw [Nat.pow_succ]; omega
  have hlg := ancN_log (w := w) (by omega) (l := a) (by omega)
  have p1 := node3_pure d (ancN w a) hd hp (by omega)
  have p2 := node3_pure d w hd (by omega) hw
  have p3 := r3below_pure w a (by omega) (by omega) (by omega)
  have p4 := special3_pure d (ancN w a) hd hp (by omega)
  rw [hlg] at p4
  have p5 := between_pure w a d (by omega) (by omega) hd ha
  have hne : ((w : Nat) : Int) ≠ ((ancN w a : Nat) : Int) := fun e => by
    have e : w = ancN w a := by omega
    rw [← e] at hlg; omega
  have w0 : ((w : Int) == 0) = false := by rw [beq_eq_false_iff_ne]; omega
  have wv : ((w : Int) == ((ancN w a : Nat) : Int)) = false := beq_eq_false_iff_ne.2 hne
  conv => whnf
  refine ⟨_, p1, ?_⟩
  conv => whnf
  rcases hk with rfl | rfl
  · rw [show ((2 : Nat) : Int) = 2 from rfl]
    conv => whnf
    rw [w0]
    conv => whnf
    refine ⟨_, p2, ?_⟩
    conv => whnf
    rw [wv]
    conv => whnf
    refine ⟨_, p3, ?_⟩
    conv => whnf
    left
    conv => whnf
    try rfl
  · rw [show ((3 : Nat) : Int) = 3 from rfl]
    conv => whnf
    rw [w0]
    conv => whnf
    refine ⟨_, p2, ?_⟩
    conv => whnf
    rw [wv]
    conv => whnf
    refine ⟨_, p3, ?_⟩
    conv => whnf
    refine ⟨_, p4, ?_⟩
    by_cases c1 : a % strideN d = 0
    · rw [show decide (a % strideN d = 0) = true by simpa using c1]
      conv => whnf
      left
      conv => whnf
      rw [show subB 3 (strideN d) w a = true by simp [subB, c1]]
    · rw [show decide (a % strideN d = 0) = false by simpa using c1]
      conv => whnf
      refine ⟨_, p5, ?_⟩
      conv => whnf
      left
      conv => whnf
      refine congrArg (fun b => (⟨.v (.bool b), []⟩ : Res)) ?_
      rw [Bool.eq_iff_iff, beq_iff_eq]
      simp [subB, c1]
end Go.YtoeophdffhmpmaaE
end

section
set_option linter.unusedVariables false
set_option linter.unusedSimpArgs false
set_option maxRecDepth 100000
set_option maxHeartbeats 4000000
namespace Go.YtoeophdffhmpmaaE
open Go Go.RowKit

theorem isSubset_i (kind d : Nat) (v w : Int) (hk : kind = 2 ∨ kind = 3) (hd : d ≤ 6) (h : 0 ≤ v ∧ 2 ≤ w ∧ w.toNat < 2 ^ (d + 1) ∧ v.toNat.log2 < w.toNat.log2 ∧ ancN w.toNat v.toNat.log2 = v.toNat) :
    Pure Go.Proofs.Try.prog 138 [scheme kind d 0 0 0 0, subA v w] ⟨.v (.bool (subB kind (strideN d) w.toNat v.toNat.log2)), []⟩ := by
  have := isSubset_pure kind d w.toNat v.toNat.log2 hk hd (by omega) h.2.2.1 h.2.2.2.1
  rw [h.2.2.2.2, Int.toNat_of_nonneg (by omega : 0 ≤ v), Int.toNat_of_nonneg (by omega : 0 ≤ w)] at this
  exact this
theorem valid3_ok (kind d : Nat) (h1 : 1 ≤ kind) (h3 : kind ≤ 3) (hd : d ≤ 6) : Pure Go.Proofs.Try.prog 89 [scheme kind d 0 0 0 0] ⟨.v (.bool true), []⟩ := by
  have := valid3_pure kind d 0 0 0 0
  rw [show decide (1 ≤ kind ∧ kind ≤ 3 ∧ (0 : Int) ≤ (d : Int) ∧ (d : Int) ≤ 6 ∧ (0 : Int) = 0 ∧ (0 : Int) = 0 ∧ (0 : Int) = 0 ∧ (0 : Int) = 0) = true from by simp; omega] at this
  exact this
theorem path1_pure (d : Nat) (hd : d ≤ 6) : Pure Go.Proofs.Try.prog 137 [.v (.int .i64 1), .v (.int .i64 (2 ^ d : Nat))] ⟨.ro (ints (pthL (2 ^ d) 0 (d + 1))), []⟩ := by
  have hp := pow_le6 hd
  have e : (2 ^ d).log2 = d := Nat.log2_two_pow
  have := path3_pure (2 ^ d) 0 (Nat.pow_pos (by decide)) (by omega) (by omega)
  rw [show ancN (2 ^ d) 0 = 1 from by unfold ancN; rw [e, Nat.sub_zero]; exact Nat.div_self (Nat.pow_pos (by decide)), e, Nat.sub_zero] at this
  exact this
theorem storage3_1_0 : Pure Go.Proofs.Try.prog 94 [scheme 1 0 0 0 0 0] ⟨.tup [.v (.int .i64 (stN 1 0 : Nat)), .v (.int .i64 0)], []⟩ := by
  refine pure_sz pf eqOk_none (env_ok [89, 77, 137, 138] rfl) fun _ => ⟨400, ?_⟩
  have hv := valid3_ok 1 0 (by decide) (by decide) (by decide)
  have hr := receivers_pure 0 (by decide)
  have hp := path1_pure 0 (by decide)
  conv => whnf
  refine ⟨_, hv, ?_⟩
  conv => whnf
  refine ⟨_, hr, ?_⟩
  conv => whnf
  refine ⟨_, hp, ?_⟩
  conv => whnf
  repeat (first
    | (refine wk_none ?_; conv => whnf)
    | (refine ⟨_, isSubset_i 1 0 _ _ (by decide) (by decide) (by decide), ?_⟩; conv => whnf)
    | (refine Or.inl ⟨11, by kernel_rfl, ?_⟩; conv => whnf)
    | (refine ⟨fun h => (by cases h), fun _ => ⟨⟨by decide, by simp⟩, ?_⟩⟩; conv => whnf)
    | (refine ⟨⟨by decide, by decide, by decide, by simp⟩, _, rfl, ?_⟩; conv => whnf)
    | (refine ⟨by decide, ?_⟩; conv => whnf))
  left
  conv => whnf
  refine congrArg (fun b => (⟨.tup [.v (.int .i64 b), .v (.int .i64 0)], []⟩ : Res)) ?_
  decide +kernel
theorem storage3_1_1 : Pure Go.Proofs.Try.prog 94 [scheme 1 1 0 0 0 0] ⟨.tup [.v (.int .i64 (stN 1 1 : Nat)), .v (.int .i64 0)], []⟩ := by
  refine pure_sz pf eqOk_none (env_ok [89, 77, 137, 138] rfl) fun _ => ⟨400, ?_⟩
  have hv := valid3_ok 1 1 (by decide) (by decide) (by decide)
  have hr := receivers_pure 1 (by decide)
  have hp := path1_pure 1 (by decide)
  conv => whnf
  refine ⟨_, hv, ?_⟩
  conv => whnf
  refine ⟨_, hr, ?_⟩
  conv => whnf
  refine ⟨_, hp, ?_⟩
  conv => whnf
  repeat (first
    | (refine wk_none ?_; conv => whnf)
    | (refine ⟨_, isSubset_i 1 1 _ _ (by decide) (by decide) (by decide), ?_⟩; conv => whnf)
    | (refine Or.inl ⟨11, by kernel_rfl, ?_⟩; conv => whnf)
    | (refine ⟨fun h => (by cases h), fun _ => ⟨⟨by decide, by simp⟩, ?_⟩⟩; conv => whnf)
    | (refine ⟨⟨by decide, by decide, by decide, by simp⟩, _, rfl, ?_⟩; conv => whnf)
    | (refine ⟨by decide, ?_⟩; conv => whnf))
  left
  conv => whnf
  refine congrArg (fun b => (⟨.tup [.v (.int .i64 b), .v (.int .i64 0)], []⟩ : Res)) ?_
  decide +kernel
theorem storage3_1_2 : Pure Go.Proofs.Try.prog 94 [scheme 1 2 0 0 0 0] ⟨.tup [.v (.int .i64 (stN 1 2 : Nat)), .v (.int .i64 0)], []⟩ := by
  refine pure_sz pf eqOk_none (env_ok [89, 77, 137, 138] rfl) fun _ => ⟨400, ?_⟩
  have hv := valid3_ok 1 2 (by decide) (by decide) (by decide)
  have hr := receivers_pure 2 (by decide)
  have hp := path1_pure 2 (by decide)
  conv => whnf
  refine ⟨_, hv, ?_⟩
  conv => whnf
  refine ⟨_, hr, ?_⟩
  conv => whnf
  refine ⟨_, hp, ?_⟩
  conv => whnf
  repeat (first
    | (refine wk_none ?_; conv => whnf)
    | (refine ⟨_, isSubset_i 1 2 _ _ (by decide) (by decide) (by decide), ?_⟩; conv => whnf)
    | (refine Or.inl ⟨11, by kernel_rfl, ?_⟩; conv => whnf)
    | (refine ⟨fun h => (by cases h), fun _ => ⟨⟨by decide, by simp⟩, ?_⟩⟩; conv => whnf)
    | (refine ⟨⟨by decide, by decide, by decide, by simp⟩, _, rfl, ?_⟩; conv => whnf)
    | (refine ⟨by decide, ?_⟩; conv => whnf))
  left
  conv => whnf
  refine congrArg (fun b => (⟨.tup [.v (.int .i64 b), .v (.int .i64 0)], []⟩ : Res)) ?_
  decide +kernel
theorem storage3_1_3 : Pure Go.Proofs.Try.prog 94 [scheme 1 3 0 0 0 0] ⟨.tup [.v (.int .i64 (stN 1 3 : Nat)), .v (.int .i64 0)], []⟩ := by
  refine pure_sz pf eqOk_none (env_ok [89, 77, 137, 138] rfl) fun _ => ⟨400, ?_⟩
  have hv := valid3_ok 1 3 (by decide) (by decide) (by decide)
  have hr := receivers_pure 3 (by decide)
  have hp := path1_pure 3 (by decide)
  conv => whnf
  refine ⟨_, hv, ?_⟩
  conv => whnf
  refine ⟨_, hr, ?_⟩
  conv => whnf
  refine ⟨_, hp, ?_⟩
  conv => whnf
  repeat (first
    | (refine wk_none ?_; conv => whnf)
    | (refine ⟨_, isSubset_i 1 3 _ _ (by decide) (by decide) (by decide), ?_⟩; conv => whnf)
    | (refine Or.inl ⟨11, by kernel_rfl, ?_⟩; conv => whnf)
    | (refine ⟨fun h => (by cases h), fun _ => ⟨⟨by decide, by simp⟩, ?_⟩⟩; conv => whnf)
    | (refine ⟨⟨by decide, by decide, by decide, by simp⟩, _, rfl, ?_⟩; conv => whnf)
    | (refine ⟨by decide, ?_⟩; conv => whnf))
  left
  conv => whnf
  refine congrArg (fun b => (⟨.tup [.v (.int .i64 b), .v (.int .i64 0)], []⟩ : Res)) ?_
  decide +kernel
theorem storage3_1_4 : Pure Go.Proofs.Try.prog 94 [scheme 1 4 0 0 0 0] ⟨.tup [.v (.int .i64 (stN 1 4 : Nat)), .v (.int .i64 0)], []⟩ := by
  refine pure_sz pf eqOk_none (env_ok [89, 77, 137, 138] rfl) fun _ => ⟨400, ?_⟩
  have hv := valid3_ok 1 4 (by decide) (by decide) (by decide)
  have hr := receivers_pure 4 (by decide)
  have hp := path1_pure 4 (by decide)
  conv => whnf
  refine ⟨_, hv, ?_⟩
  conv => whnf
  refine ⟨_, hr, ?_⟩
  conv => whnf
  refine ⟨_, hp, ?_⟩
  conv => whnf
  repeat (first
    | (refine wk_none ?_; conv => whnf)
    | (refine ⟨_, isSubset_i 1 4 _ _ (by decide) (by decide) (by decide), ?_⟩; conv => whnf)
    | (refine Or.inl ⟨11, by kernel_rfl, ?_⟩; conv => whnf)
    | (refine ⟨fun h => (by cases h), fun _ => ⟨⟨by decide, by simp⟩, ?_⟩⟩; conv => whnf)
    | (refine ⟨⟨by decide, by decide, by decide, by simp⟩, _, rfl, ?_⟩; conv => whnf)
    | (refine ⟨by decide, ?_⟩; conv => whnf))
  left
  conv => whnf
  refine congrArg (fun b => (⟨.tup [.v (.int .i64 b), .v (.int .i64 0)], []⟩ : Res)) ?_
  decide +kernel
theorem storage3_1_5 : Pure Go.Proofs.Try.prog 94 [scheme 1 5 0 0 0 0] ⟨.tup [.v (.int .i64 (stN 1 5 : Nat)), .v (.int .i64 0)], []⟩ := by
  refine pure_sz pf eqOk_none (env_ok [89, 77, 137, 138] rfl) fun _ => ⟨400, ?_⟩
  have hv := valid3_ok 1 5 (by decide) (by decide) (by decide)
  have hr := receivers_pure 5 (by decide)
  have hp := path1_pure 5 (by decide)
  conv => whnf
  refine ⟨_, hv, ?_⟩
  conv => whnf
  refine ⟨_, hr, ?_⟩
  conv => whnf
  refine ⟨_, hp, ?_⟩
  conv => whnf
  repeat (first
    | (refine wk_none ?_; conv => whnf)
    | (refine ⟨_, isSubset_i 1 5 _ _ (by decide) (by decide) (by decide), ?_⟩; conv => whnf)
    | (refine Or.inl ⟨11, by kernel_rfl, ?_⟩; conv => whnf)
    | (refine ⟨fun h => (by cases h), fun _ => ⟨⟨by decide, by simp⟩, ?_⟩⟩; conv => whnf)
    | (refine ⟨⟨by decide, by decide, by decide, by simp⟩, _, rfl, ?_⟩; conv => whnf)
    | (refine ⟨by decide, ?_⟩; conv => whnf))
  left
  conv => whnf
  refine congrArg (fun b => (⟨.tup [.v (.int .i64 b), .v (.int .i64 0)], []⟩ : Res)) ?_
  decide +kernel
theorem storage3_1_6 : Pure Go.Proofs.Try.prog 94 [scheme 1 6 0 0 0 0] ⟨.tup [.v (.int .i64 (stN 1 6 : Nat)), .v (.int .i64 0)], []⟩ := by
  refine pure_sz pf eqOk_none (env_ok [89, 77, 137, 138] rfl) fun _ => ⟨400, ?_⟩
  have hv := valid3_ok 1 6 (by decide) (by decide) (by decide)
  have hr := receivers_pure 6 (by decide)
  have hp := path1_pure 6 (by decide)
  conv => whnf
  refine ⟨_, hv, ?_⟩
  conv => whnf
  refine ⟨_, hr, ?_⟩
  conv => whnf
  refine ⟨_, hp, ?_⟩
  conv => whnf
  repeat (first
    | (refine wk_none ?_; conv => whnf)
    | (refine ⟨_, isSubset_i 1 6 _ _ (by decide) (by decide) (by decide), ?_⟩; conv => whnf)
    | (refine Or.inl ⟨11, by kernel_rfl, ?_⟩; conv => whnf)
    | (refine ⟨fun h => (by cases h), fun _ => ⟨⟨by decide, by simp⟩, ?_⟩⟩; conv => whnf)
    | (refine ⟨⟨by decide, by decide, by decide, by simp⟩, _, rfl, ?_⟩; conv => whnf)
    | (refine ⟨by decide, ?_⟩; conv => whnf))
  left
  conv => whnf
  refine congrArg (fun b => (⟨.tup [.v (.int .i64 b), .v (.int .i64 0)], []⟩ : Res)) ?_
  decide +kernel
theorem storage3_2_0 : Pure Go.Proofs.Try.prog 94 [scheme 2 0 0 0 0 0] ⟨.tup [.v (.int .i64 (stN 2 0 : Nat)), .v (.int .i64 0)], []⟩ := by
  refine pure_sz pf eqOk_none (env_ok [89, 77, 137, 138] rfl) fun _ => ⟨400, ?_⟩
  have hv := valid3_ok 2 0 (by decide) (by decide) (by decide)
  have hr := receivers_pure 0 (by decide)
  have hp := path1_pure 0 (by decide)
  conv => whnf
  refine ⟨_, hv, ?_⟩
  conv => whnf
  refine ⟨_, hr, ?_⟩
  conv => whnf
  refine ⟨_, hp, ?_⟩
  conv => whnf
  repeat (first
    | (refine wk_none ?_; conv => whnf)
    | (refine ⟨_, isSubset_i 2 0 _ _ (by decide) (by decide) (by decide), ?_⟩; conv => whnf)
    | (refine Or.inl ⟨11, by kernel_rfl, ?_⟩; conv => whnf)
    | (refine ⟨fun h => (by cases h), fun _ => ⟨⟨by decide, by simp⟩, ?_⟩⟩; conv => whnf)
    | (refine ⟨⟨by decide, by decide, by decide, by simp⟩, _, rfl, ?_⟩; conv => whnf)
    | (refine ⟨by decide, ?_⟩; conv => whnf))
  left
  conv => whnf
  refine congrArg (fun b => (⟨.tup [.v (.int .i64 b), .v (.int .i64 0)], []⟩ : Res)) ?_
  decide +kernel
theorem storage3_2_1 : Pure Go.Proofs.Try.prog 94 [scheme 2 1 0 0 0 0] ⟨.tup [.v (.int .i64 (stN 2 1 : Nat)), .v (.int .i64 0)], []⟩ := by
  refine pure_sz pf eqOk_none (env_ok [89, 77, 137, 138] rfl) fun _ => ⟨400, ?_⟩
  have hv := valid3_ok 2 1 (by decide) (by decide) (by decide)
  have hr := receivers_pure 1 (by decide)
  have hp := path1_pure 1 (by decide)
  conv => whnf
  refine ⟨_, hv, ?_⟩
  conv => whnf
  refine ⟨_, hr, ?_⟩
  conv => whnf
  refine ⟨_, hp, ?_⟩
  conv => whnf
  repeat (first
    | (refine wk_none ?_; conv => whnf)
    | (refine ⟨_, isSubset_i 2 1 _ _ (by decide) (by decide) (by decide), ?_⟩; conv => whnf)
    | (refine Or.inl ⟨11, by kernel_rfl, ?_⟩; conv => whnf)
    | (refine ⟨fun h => (by cases h), fun _ => ⟨⟨by decide, by simp⟩, ?_⟩⟩; conv => whnf)
    | (refine ⟨⟨by decide, by decide, by decide, by simp⟩, _, rfl, ?_⟩; conv => whnf)
    | (refine ⟨by decide, ?_⟩; conv => whnf))
  left
  conv => whnf
  refine congrArg (fun b => (⟨.tup [.v (.int .i64 b), .v (.int .i64 0)], []⟩ : Res)) ?_
  decide +kernel
theorem storage3_2_2 : Pure Go.Proofs.Try.prog 94 [scheme 2 2 0 0 0 0] ⟨.tup [.v (.int .i64 (stN 2 2 : Nat)), .v (.int .i64 0)], []⟩ := by
  refine pure_sz pf eqOk_none (env_ok [89, 77, 137, 138] rfl) fun _ => ⟨400, ?_⟩
  have hv := valid3_ok 2 2 (by decide) (by decide) (by decide)
  have hr := receivers_pure 2 (by decide)
  have hp := path1_pure 2 (by decide)
  conv => whnf
  refine ⟨_, hv, ?_⟩
  conv => whnf
  refine ⟨_, hr, ?_⟩
  conv => whnf
  refine ⟨_, hp, ?_⟩
  conv => whnf
  repeat (first
    | (refine wk_none ?_; conv => whnf)
    | (refine ⟨_, isSubset_i 2 2 _ _ (by decide) (by decide) (by decide), ?_⟩; conv => whnf)
    | (refine Or.inl ⟨11, by kernel_rfl, ?_⟩; conv => whnf)
    | (refine ⟨fun h => (by cases h), fun _ => ⟨⟨by decide, by simp⟩, ?_⟩⟩; conv => whnf)
    | (refine ⟨⟨by decide, by decide, by decide, by simp⟩, _, rfl, ?_⟩; conv => whnf)
    | (refine ⟨by decide, ?_⟩; conv => whnf))
  left
  conv => whnf
  refine congrArg (fun b => (⟨.tup [.v (.int .i64 b), .v (.int .i64 0)], []⟩ : Res)) ?_
  decide +kernel
theorem storage3_2_3 : Pure Go.Proofs.Try.prog 94 [scheme 2 3 0 0 0 0] ⟨.tup [.v (.int .i64 (stN 2 3 : Nat)), .v (.int .i64 0)], []⟩ := by
  refine pure_sz pf eqOk_none (env_ok [89, 77, 137, 138] rfl) fun _ => ⟨400, ?_⟩
  have hv := valid3_ok 2 3 (by decide) (by decide) (by decide)
  have hr := receivers_pure 3 (by decide)
  have hp := path1_pure 3 (by decide)
  conv => whnf
  refine ⟨_, hv, ?_⟩
  conv => whnf
  refine ⟨_, hr, ?_⟩
  conv => whnf
  refine ⟨_, hp, ?_⟩
  conv => whnf
  repeat (first
    | (refine wk_none ?_; conv => whnf)
    | (refine ⟨_, isSubset_i 2 3 _ _ (by decide) (by decide) (by decide), ?_⟩; conv => whnf)
    | (refine Or.inl ⟨11, by kernel_rfl, ?_⟩; conv => whnf)
    | (refine ⟨fun h => (by cases h), fun _ => ⟨⟨by decide, by simp⟩, ?_⟩⟩; conv => whnf)
    | (refine ⟨⟨by decide, by decide, by decide, by simp⟩, _, rfl, ?_⟩; conv => whnf)
    | (refine ⟨by decide, ?_⟩; conv => whnf))
  left
  conv => whnf
  refine congrArg (fun b => (⟨.tup [.v (.int .i64 b), .v (.int .i64 0)], []⟩ : Res)) ?_
  decide +kernel
theorem storage3_2_4 : Pure Go.Proofs.Try.prog 94 [scheme 2 4 0 0 0 0] ⟨.tup [.v (.int .i64 (stN 2 4 : Nat)), .v (.int .i64 0)], []⟩ := by
  refine pure_sz pf eqOk_none (env_ok [89, 77, 137, 138] rfl) fun _ => ⟨400, ?_⟩
  have hv := valid3_ok 2 4 (by decide) (by decide) (by decide)
  have hr := receivers_pure 4 (by decide)
  have hp := path1_pure 4 (by decide)
  conv => whnf
  refine ⟨_, hv, ?_⟩
  conv => whnf
  refine ⟨_, hr, ?_⟩
  conv => whnf
  refine ⟨_, hp, ?_⟩
  conv => whnf
  repeat (first
    | (refine wk_none ?_; conv => whnf)
    | (refine ⟨_, isSubset_i 2 4 _ _ (by decide) (by decide) (by decide), ?_⟩; conv => whnf)
    | (refine Or.inl ⟨11, by kernel_rfl, ?_⟩; conv => whnf)
    | (refine ⟨fun h => (by cases h), fun _ => ⟨⟨by decide, by simp⟩, ?_⟩⟩; conv => whnf)
    | (refine ⟨⟨by decide, by decide, by decide, by simp⟩, _, rfl, ?_⟩; conv => whnf)
    | (refine ⟨by decide, ?_⟩; conv => whnf))
  left
  conv => whnf
  refine congrArg (fun b => (⟨.tup [.v (.int .i64 b), .v (.int .i64 0)], []⟩ : Res)) ?_
  decide +kernel
theorem storage3_2_5 : Pure Go.Proofs.Try.prog 94 [scheme 2 5 0 0 0 0] ⟨.tup [.v (.int .i64 (stN 2 5 : Nat)), .v (.int .i64 0)], []⟩ := by
  refine pure_sz pf eqOk_none (env_ok [89, 77, 137, 138] rfl) fun _ => ⟨400, ?_⟩
  have hv := valid3_ok 2 5 (by decide) (by decide) (by decide)
  have hr := receivers_pure 5 (by decide)
  have hp := path1_pure 5 (by decide)
  conv => whnf
  refine ⟨_, hv, ?_⟩
  conv => whnf
  refine ⟨_, hr, ?_⟩
  conv => whnf
  refine ⟨_, hp, ?_⟩
  conv => whnf
  repeat (first
    | (refine wk_none ?_; conv => whnf)
    | (refine ⟨_, isSubset_i 2 5 _ _ (by decide) (by decide) (by decide), ?_⟩; conv => whnf)
    | (refine Or.inl ⟨11, by kernel_rfl, ?_⟩; conv => whnf)
    | (refine ⟨fun h => (by cases h), fun _ => ⟨⟨by decide, by simp⟩, ?_⟩⟩; conv => whnf)
    | (refine ⟨⟨by decide, by decide, by decide, by simp⟩, _, rfl, ?_⟩; conv => whnf)
    | (refine ⟨by decide, ?_⟩; conv => whnf))
  left
  conv => whnf
  refine congrArg (fun b => (⟨.tup [.v (.int .i64 b), .v (.int .i64 0)], []⟩ : Res)) ?_
  decide +kernel
theorem storage3_2_6 : Pure Go.Proofs.Try.prog 94 [scheme 2 6 0 0 0 0] ⟨.tup [.v (.int .i64 (stN 2 6 : Nat)), .v (.int .i64 0)], []⟩ := by
  refine pure_sz pf eqOk_none (env_ok [89, 77, 137, 138] rfl) fun _ => ⟨400, ?_⟩
  have hv := valid3_ok 2 6 (by decide) (by decide) (by decide)
  have hr := receivers_pure 6 (by decide)
  have hp := path1_pure 6 (by decide)
  conv => whnf
  refine ⟨_, hv, ?_⟩
  conv => whnf
  refine ⟨_, hr, ?_⟩
  conv => whnf
  refine ⟨_, hp, ?_⟩
  conv => whnf
  repeat (first
    | (refine wk_none ?_; conv => whnf)
    | (refine ⟨_, isSubset_i 2 6 _ _ (by decide) (by decide) (by decide), ?_⟩; conv => whnf)
    | (refine Or.inl ⟨11, by kernel_rfl, ?_⟩; conv => whnf)
    | (refine ⟨fun h => (by cases h), fun _ => ⟨⟨by decide, by simp⟩, ?_⟩⟩; conv => whnf)
    | (refine ⟨⟨by decide, by decide, by decide, by simp⟩, _, rfl, ?_⟩; conv => whnf)
    | (refine ⟨by decide, ?_⟩; conv => whnf))
  left
  conv => whnf
  refine congrArg (fun b => (⟨.tup [.v (.int .i64 b), .v (.int .i64 0)], []⟩ : Res)) ?_
  decide +kernel
theorem storage3_3_0 : Pure Go.Proofs.Try.prog 94 [scheme 3 0 0 0 0 0] ⟨.tup [.v (.int .i64 (stN 3 0 : Nat)), .v (.int .i64 0)], []⟩ := by
  refine pure_sz pf eqOk_none (env_ok [89, 77, 137, 138] rfl) fun _ => ⟨400, ?_⟩
  have hv := valid3_ok 3 0 (by decide) (by decide) (by decide)
  have hr := receivers_pure 0 (by decide)
  have hp := path1_pure 0 (by decide)
  conv => whnf
  refine ⟨_, hv, ?_⟩
  conv => whnf
  refine ⟨_, hr, ?_⟩
  conv => whnf
  refine ⟨_, hp, ?_⟩
  conv => whnf
  repeat (first
    | (refine wk_none ?_; conv => whnf)
    | (refine ⟨_, isSubset_i 3 0 _ _ (by decide) (by decide) (by decide), ?_⟩; conv => whnf)
    | (refine Or.inl ⟨11, by kernel_rfl, ?_⟩; conv => whnf)
    | (refine ⟨fun h => (by cases h), fun _ => ⟨⟨by decide, by simp⟩, ?_⟩⟩; conv => whnf)
    | (refine ⟨⟨by decide, by decide, by decide, by simp⟩, _, rfl, ?_⟩; conv => whnf)
    | (refine ⟨by decide, ?_⟩; conv => whnf))
  left
  conv => whnf
  refine congrArg (fun b => (⟨.tup [.v (.int .i64 b), .v (.int .i64 0)], []⟩ : Res)) ?_
  decide +kernel
theorem storage3_3_1 : Pure Go.Proofs.Try.prog 94 [scheme 3 1 0 0 0 0] ⟨.tup [.v (.int .i64 (stN 3 1 : Nat)), .v (.int .i64 0)], []⟩ := by
  refine pure_sz pf eqOk_none (env_ok [89, 77, 137, 138] rfl) fun _ => ⟨400, ?_⟩
  have hv := valid3_ok 3 1 (by decide) (by decide) (by decide)
  have hr := receivers_pure 1 (by decide)
  have hp := path1_pure 1 (by decide)
  conv => whnf
  refine ⟨_, hv, ?_⟩
  conv => whnf
  refine ⟨_, hr, ?_⟩
  conv => whnf
  refine ⟨_, hp, ?_⟩
  conv => whnf
  repeat (first
    | (refine wk_none ?_; conv => whnf)
    | (refine ⟨_, isSubset_i 3 1 _ _ (by decide) (by decide) (by decide), ?_⟩; conv => whnf)
    | (refine Or.inl ⟨11, by kernel_rfl, ?_⟩; conv => whnf)
    | (refine ⟨fun h => (by cases h), fun _ => ⟨⟨by decide, by simp⟩, ?_⟩⟩; conv => whnf)
    | (refine ⟨⟨by decide, by decide, by decide, by simp⟩, _, rfl, ?_⟩; conv => whnf)
    | (refine ⟨by decide, ?_⟩; conv => whnf))
  left
  conv => whnf
  refine congrArg (fun b => (⟨.tup [.v (.int .i64 b), .v (.int .i64 0)], []⟩ : Res)) ?_
  decide +kernel
theorem storage3_3_2 : Pure Go.Proofs.Try.prog 94 [scheme 3 2 0 0 0 0] ⟨.tup [.v (.int .i64 (stN 3 2 : Nat)), .v (.int .i64 0)], []⟩ := by
  refine pure_sz pf eqOk_none (env_ok [89, 77, 137, 138] rfl) fun _ => ⟨400, ?_⟩
  have hv := valid3_ok 3 2 (by decide) (by decide) (by decide)
  have hr := receivers_pure 2 (by decide)
  have hp := path1_pure 2 (by decide)
  conv => whnf
  refine ⟨_, hv, ?_⟩
  conv => whnf
  refine ⟨_, hr, ?_⟩
  conv => whnf
  refine ⟨_, hp, ?_⟩
  conv => whnf
  repeat (first
    | (refine wk_none ?_; conv => whnf)
    | (refine ⟨_, isSubset_i 3 2 _ _ (by decide) (by decide) (by decide), ?_⟩; conv => whnf)
    | (refine Or.inl ⟨11, by kernel_rfl, ?_⟩; conv => whnf)
    | (refine ⟨fun h => (by cases h), fun _ => ⟨⟨by decide, by simp⟩, ?_⟩⟩; conv => whnf)
    | (refine ⟨⟨by decide, by decide, by decide, by simp⟩, _, rfl, ?_⟩; conv => whnf)
    | (refine ⟨by decide, ?_⟩; conv => whnf))
  left
  conv => whnf
  refine congrArg (fun b => (⟨.tup [.v (.int .i64 b), .v (.int .i64 0)], []⟩ : Res)) ?_
  decide +kernel
theorem storage3_3_3 : Pure Go.Proofs.Try.prog 94 [scheme 3 3 0 0 0 0] ⟨.tup [.v (.int .i64 (stN 3 3 : Nat)), .v (.int .i64 0)], []⟩ := by
  refine pure_sz pf eqOk_none (env_ok [89, 77, 137, 138] rfl) fun _ => ⟨400, ?_⟩
  have hv := valid3_ok 3 3 (by decide) (by decide) (by decide)
  have hr := receivers_pure 3 (by decide)
  have hp := path1_pure 3 (by decide)
  conv => whnf
  refine ⟨_, hv, ?_⟩
  conv => whnf
  refine ⟨_, hr, ?_⟩
  conv => whnf
  refine ⟨_, hp, ?_⟩
  conv => whnf
  repeat (first
    | (refine wk_none ?_; conv => whnf)
    | (refine ⟨_, isSubset_i 3 3 _ _ (by decide) (by decide) (by decide), ?_⟩; conv => whnf)
    | (refine Or.inl ⟨11, by kernel_rfl, ?_⟩; conv => whnf)
    | (refine ⟨fun h => (by cases h), fun _ => ⟨⟨by decide, by simp⟩, ?_⟩⟩; conv => whnf)
    | (refine ⟨⟨by decide, by decide, by decide, by simp⟩, _, rfl, ?_⟩; conv => whnf)
    | (refine ⟨by decide, ?_⟩; conv => whnf))
  left
  conv => whnf
  refine congrArg (fun b => (⟨.tup [.v (.int .i64 b), .v (.int .i64 0)], []⟩ : Res)) ?_
  decide +kernel
theorem storage3_3_4 : Pure Go.Proofs.Try.prog 94 [scheme 3 4 0 0 0 0] ⟨.tup [.v (.int .i64 (stN 3 4 : Nat)), .v (.int .i64 0)], []⟩ := by
  refine pure_sz pf eqOk_none (env_ok [89, 77, 137, 138] rfl) fun _ => ⟨400, ?_⟩
  have hv := valid3_ok 3 4 (by decide) (by decide) (by decide)
  have hr := receivers_pure 4 (by decide)
  have hp := path1_pure 4 (by decide)
  conv => whnf
  refine ⟨_, hv, ?_⟩
  conv => whnf
  refine ⟨_, hr, ?_⟩
  conv => whnf
  refine ⟨_, hp, ?_⟩
  conv => whnf
  repeat (first
    | (refine wk_none ?_; conv => whnf)
    | (refine ⟨_, isSubset_i 3 4 _ _ (by decide) (by decide) (by decide), ?_⟩; conv => whnf)
    | (refine Or.inl ⟨11, by kernel_rfl, ?_⟩; conv => whnf)
    | (refine ⟨fun h => (by cases h), fun _ => ⟨⟨by decide, by simp⟩, ?_⟩⟩; conv => whnf)
    | (refine ⟨⟨by decide, by decide, by decide, by simp⟩, _, rfl, ?_⟩; conv => whnf)
    | (refine ⟨by decide, ?_⟩; conv => whnf))
  left
  conv => whnf
  refine congrArg (fun b => (⟨.tup [.v (.int .i64 b), .v (.int .i64 0)], []⟩ : Res)) ?_
  decide +kernel
theorem storage3_3_5 : Pure Go.Proofs.Try.prog 94 [scheme 3 5 0 0 0 0] ⟨.tup [.v (.int .i64 (stN 3 5 : Nat)), .v (.int .i64 0)], []⟩ := by
  refine pure_sz pf eqOk_none (env_ok [89, 77, 137, 138] rfl) fun _ => ⟨400, ?_⟩
  have hv := valid3_ok 3 5 (by decide) (by decide) (by decide)
  have hr := receivers_pure 5 (by decide)
  have hp := path1_pure 5 (by decide)
  conv => whnf
  refine ⟨_, hv, ?_⟩
  conv => whnf
  refine ⟨_, hr, ?_⟩
  conv => whnf
  refine ⟨_, hp, ?_⟩
  conv => whnf
  repeat (first
    | (refine wk_none ?_; conv => whnf)
    | (refine ⟨_, isSubset_i 3 5 _ _ (by decide) (by decide) (by decide), ?_⟩; conv => whnf)
    | (refine Or.inl ⟨11, by kernel_rfl, ?_⟩; conv => whnf)
    | (refine ⟨fun h => (by cases h), fun _ => ⟨⟨by decide, by simp⟩, ?_⟩⟩; conv => whnf)
    | (refine ⟨⟨by decide, by decide, by decide, by simp⟩, _, rfl, ?_⟩; conv => whnf)
    | (refine ⟨by decide, ?_⟩; conv => whnf))
  left
  conv => whnf
  refine congrArg (fun b => (⟨.tup [.v (.int .i64 b), .v (.int .i64 0)], []⟩ : Res)) ?_
  decide +kernel
theorem storage3_3_6 : Pure Go.Proofs.Try.prog 94 [scheme 3 6 0 0 0 0] ⟨.tup [.v (.int .i64 (stN 3 6 : Nat)), .v (.int .i64 0)], []⟩ := by
  refine pure_sz pf eqOk_none (env_ok [89, 77, 137, 138] rfl) fun _ => ⟨400, ?_⟩
  have hv := valid3_ok 3 6 (by decide) (by decide) (by decide)
  have hr := receivers_pure 6 (by decide)
  have hp := path1_pure 6 (by decide)
  conv => whnf
  refine ⟨_, hv, ?_⟩
  conv => whnf
  refine ⟨_, hr, ?_⟩
  conv => whnf
  refine ⟨_, hp, ?_⟩
  conv => whnf
  repeat (first
    | (refine wk_none ?_; conv => whnf)
    | (refine ⟨_, isSubset_i 3 6 _ _ (by decide) (by decide) (by decide), ?_⟩; conv => whnf)
    | (refine Or.inl ⟨11, by kernel_rfl, ?_⟩; conv => whnf)
    | (refine ⟨fun h => (by cases h), fun _ => ⟨⟨by decide, by simp⟩, ?_⟩⟩; conv => whnf)
    | (refine ⟨⟨by decide, by decide, by decide, by simp⟩, _, rfl, ?_⟩; conv => whnf)
    | (refine ⟨by decide, ?_⟩; conv => whnf))
  left
  conv => whnf
  refine congrArg (fun b => (⟨.tup [.v (.int .i64 b), .v (.int .i64 0)], []⟩ : Res)) ?_
  decide +kernel
theorem storage3_pure (kind d : Nat) (h1 : 1 ≤ kind) (h3 : kind ≤ 3) (hd : d ≤ 6) : Pure Go.Proofs.Try.prog 94 [scheme kind d 0 0 0 0] ⟨.tup [.v (.int .i64 (stN kind d : Nat)), .v (.int .i64 0)], []⟩ := by
  have hk : kind = 1 ∨ kind = 2 ∨ kind = 3 := by omega
  rcases hk with rfl | rfl | rfl
  · match d, hd with
    | 0, _ => exact storage3_1_0
    | 1, _ => exact storage3_1_1
    | 2, _ => exact storage3_1_2
    | 3, _ => exact storage3_1_3
    | 4, _ => exact storage3_1_4
    | 5, _ => exact storage3_1_5
    | 6, _ => exact storage3_1_6
  · match d, hd with
    | 0, _ => exact storage3_2_0
    | 1, _ => exact storage3_2_1
    | 2, _ => exact storage3_2_2
    | 3, _ => exact storage3_2_3
    | 4, _ => exact storage3_2_4
    | 5, _ => exact storage3_2_5
    | 6, _ => exact storage3_2_6
  · match d, hd with
    | 0, _ => exact storage3_3_0
    | 1, _ => exact storage3_3_1
    | 2, _ => exact storage3_3_2
    | 3, _ => exact storage3_3_3
    | 4, _ => exact storage3_3_4
    | 5, _ => exact storage3_3_5
    | 6, _ => exact storage3_3_6
end Go.YtoeophdffhmpmaaE
end

section
set_option linter.unusedVariables false
set_option linter.unusedSimpArgs false
set_option maxRecDepth 100000
set_option maxHeartbeats 1000000
namespace Go.YtoeophdffhmpmaaE
open Go Go.RowKit

/-- A choice. -/
structure Ch where
  kind : Nat
  fits : Bool
  it : Int
  po : Int
  he : Int
  st : Int
  co : Int
  w : List Int
def chA (c : Ch) : A := .agg [.v (.int .u8 c.kind), .v (.bool c.fits), .v (.int .i64 c.it), .v (.int .i64 c.po), .v (.int .i64 c.he), .v (.int .i64 c.st), .v (.int .i64 c.co), .ro (ints c.w)]
def ch0 (kind : Nat) : Ch := ⟨kind, false, 0, 0, 0, 0, 0, []⟩
def itZ (kind d r : Nat) : Int := (worstZ (fullR kind d) d r).1
def wlZ (kind d r : Nat) : List Int := listZ kind d d 1 0 (worstZ (fullR kind d) d r).2.1
def degZ (r : Nat) : Int := if (1 : Int) > r then 1 else r
def coZ (d : Nat) (h hp sp he st : Int) : Int := h * hp * he + ((2 ^ d : Nat) : Int) * sp * st
/-- The choice for a valid need and a kind from 1 to 4. -/
def chZ (d r : Nat) (s h hp sp : Int) (p q g kind : Nat) : Ch :=
  if kind = 4 then
    if val4 4 d (degZ r) p q g = true then ⟨4, decide (8 ≤ s), 0, degZ r, 67 + 16 * degZ r, 8, coZ d h hp sp (67 + 16 * degZ r) 8, []⟩ else ch0 4
  else ⟨kind, decide (16 * (stN kind d : Int) ≤ s), itZ kind d r, 0, 67 + 18 * itZ kind d r, 16 * (stN kind d : Int), coZ d h hp sp (67 + 18 * itZ kind d r) (16 * (stN kind d : Int)), wlZ kind d r⟩
/-- The scheme of a need. -/
def scZ (d r : Nat) (p q g kind : Nat) : A := if kind = 4 then scheme 4 d (degZ r) p q g else scheme kind d 0 0 0 0
theorem needB_yes {d r s h hp sp : Int} (hn : needB d r s h hp sp = true) : 0 ≤ d ∧ d ≤ 6 ∧ 0 ≤ r ∧ r ≤ ((2 ^ d.toNat : Nat) : Int) ∧ 0 ≤ s ∧ s ≤ 10000 ∧ 0 ≤ h ∧ h ≤ 1000 ∧ 0 ≤ hp ∧ hp ≤ 1000 ∧ 0 ≤ sp ∧ sp ≤ 1000 := by
  unfold needB at hn; simpa only [decide_eq_true_eq] using hn
theorem countZ_bd (kind d : Nat) (hd : d ≤ 6) (k : Nat) : 0 ≤ countZ (fullR kind d) d k ∧ countZ (fullR kind d) d k ≤ 1073741824 := by
  unfold countZ
  rw [fullR_row kind d 0 d (statesN_pos kind) (Nat.le_refl _)]
  split
  · omega
  · by_cases hk : k < (lvl kind d d 0).length
    · exact (lvl_small kind d d 0 hd).get k hk
    · rw [List.getD_eq_getElem?_getD, List.getElem?_eq_none (by omega)]; simp
theorem itZ_bd (kind d r : Nat) (hd : d ≤ 6) : 0 ≤ itZ kind d r ∧ itZ kind d r ≤ 1073741824 :=
  gr_bd (countZ_bd kind d hd) (r + 1) 0 0 0 true (by omega)
theorem mul_bd {a b A B : Int} (ha : 0 ≤ a) (ha2 : a ≤ A) (hb : 0 ≤ b) (hb2 : b ≤ B) : 0 ≤ a * b ∧ a * b ≤ A * B :=
  ⟨Int.mul_nonneg ha hb, Int.mul_le_mul ha2 hb2 hb (Int.le_trans ha ha2)⟩
theorem hdr_w (it po : Int) (h1 : 0 ≤ it) (h2 : it ≤ 1073741824) (h3 : 0 ≤ po) (h4 : po ≤ 1000) :
    IntKind.i64.wrap (IntKind.i64.wrap (67 + IntKind.i64.wrap (18 * it)) + IntKind.i64.wrap (16 * po)) = 67 + 18 * it + 16 * po := by
  rw [wrap64 (n := 18 * it) (by omega) (by omega), wrap64 (n := 16 * po) (by omega) (by omega), wrap64 (n := 67 + 18 * it) (by omega) (by omega), wrap64 (by omega) (by omega)]
theorem cost_bd (d : Nat) (h hp sp he st : Int) (hd : d ≤ 6) (a1 : 0 ≤ h) (a2 : h ≤ 1000) (b1 : 0 ≤ hp) (b2 : hp ≤ 1000) (c1 : 0 ≤ sp) (c2 : sp ≤ 1000) (d1 : 0 ≤ he) (d2 : he ≤ 40000000000) (e1 : 0 ≤ st) (e2 : st ≤ 1000) :
    (0 ≤ h * hp ∧ h * hp ≤ 1000000) ∧ (0 ≤ h * hp * he ∧ h * hp * he ≤ 40000000000000000) ∧ (0 ≤ sp * st ∧ sp * st ≤ 1000000) ∧ (0 ≤ ((2 ^ d : Nat) : Int) * sp ∧ ((2 ^ d : Nat) : Int) * sp ≤ 64000) ∧ (0 ≤ ((2 ^ d : Nat) : Int) * sp * st ∧ ((2 ^ d : Nat) : Int) * sp * st ≤ 64000000) := by
  have x1 := mul_bd a1 a2 b1 b2
  have x2 := mul_bd x1.1 x1.2 d1 d2
  have x3 := mul_bd c1 c2 e1 e2
  have hp2 := pow_le6 hd
  have x4 := mul_bd (a := ((2 ^ d : Nat) : Int)) (A := 64) (by omega) (by omega) c1 c2
  have x5 := mul_bd x4.1 x4.2 e1 e2
  exact ⟨x1, x2, x3, x4, x5⟩
theorem shlw (d : Nat) (x : Int) (hd : d ≤ 6) : x * 2 ^ min ((d : Nat) : Int).toNat IntKind.i64.bits = x * ((2 ^ d : Nat) : Int) := by
  have e2 : min ((d : Nat) : Int).toNat IntKind.i64.bits = d := by rw [Int.toNat_natCast]; exact Nat.min_eq_left (by show _ ≤ 64; omega)
  rw [e2, Int.natCast_pow]; rfl
theorem cost_p (d : Nat) (h hp sp he st : Int) (hd : d ≤ 6) (a1 : 0 ≤ h) (a2 : h ≤ 1000) (b1 : 0 ≤ hp) (b2 : hp ≤ 1000) (c1 : 0 ≤ sp) (c2 : sp ≤ 1000) (d1 : 0 ≤ he) (d2 : he ≤ 40000000000) (e1 : 0 ≤ st) (e2 : st ≤ 1000) :
    IntKind.i64.wrap (IntKind.i64.wrap (IntKind.i64.wrap (h * hp) * he) + IntKind.i64.wrap (IntKind.i64.wrap (sp * st) * 2 ^ min ((d : Nat) : Int).toNat IntKind.i64.bits)) = coZ d h hp sp he st := by
  obtain ⟨x1, x2, x3, x4, x5⟩ := cost_bd d h hp sp he st hd a1 a2 b1 b2 c1 c2 d1 d2 e1 e2
  have e : sp * st * ((2 ^ d : Nat) : Int) = ((2 ^ d : Nat) : Int) * sp * st := by rw [Int.mul_comm, Int.mul_assoc]
  rw [wrap64 (n := h * hp) (by omega) (by omega), wrap64 (n := sp * st) (by omega) (by omega), shlw d _ hd, e, wrap64 (n := h * hp * he) (by omega) (by omega), wrap64 (n := ((2 ^ d : Nat) : Int) * sp * st) (by omega) (by omega), wrap64 (by omega) (by omega)]
  rfl
theorem cost_r (d : Nat) (h hp sp he st : Int) (hd : d ≤ 6) (a1 : 0 ≤ h) (a2 : h ≤ 1000) (b1 : 0 ≤ hp) (b2 : hp ≤ 1000) (c1 : 0 ≤ sp) (c2 : sp ≤ 1000) (d1 : 0 ≤ he) (d2 : he ≤ 40000000000) (e1 : 0 ≤ st) (e2 : st ≤ 1000) :
    IntKind.i64.wrap (IntKind.i64.wrap (IntKind.i64.wrap (h * hp) * he) + IntKind.i64.wrap (IntKind.i64.wrap (((2 ^ d : Nat) : Int) * sp) * st)) = coZ d h hp sp he st := by
  obtain ⟨x1, x2, x3, x4, x5⟩ := cost_bd d h hp sp he st hd a1 a2 b1 b2 c1 c2 d1 d2 e1 e2
  rw [wrap64 (n := h * hp) (by omega) (by omega), wrap64 (n := ((2 ^ d : Nat) : Int) * sp) (by omega) (by omega), wrap64 (n := h * hp * he) (by omega) (by omega), wrap64 (n := ((2 ^ d : Nat) : Int) * sp * st) (by omega) (by omega), wrap64 (by omega) (by omega)]
  rfl
theorem schemeOf_pure (d r : Nat) (s h hp sp : Int) (p q g kind : Nat) : Pure Go.Proofs.Try.prog 92 [needA d r s h hp sp p q g, .v (.int .u8 kind)] ⟨scZ d r p q g kind, []⟩ := by
  refine pure_sz pf eqOk_none (env_ok [] rfl) fun _ => ⟨60, ?_⟩
  by_cases hk : kind = 4
  · subst hk
    conv => whnf
    left
    conv => whnf
    try rfl
  · have e : ((kind : Int) == 4) = false := by rw [beq_eq_false_iff_ne]; omega
    unfold scZ
    rw [if_neg hk]
    conv => whnf
    rw [e]
    conv => whnf
    left
    conv => whnf
    try rfl
end Go.YtoeophdffhmpmaaE
end

section
set_option linter.unusedVariables false
set_option linter.unusedSimpArgs false
set_option maxRecDepth 100000
set_option maxHeartbeats 1000000
namespace Go.YtoeophdffhmpmaaE
open Go Go.RowKit

def chEnv : List Nat := [29, 54, 46, 55, 39, 43]
theorem list_at (kind d r : Nat) (h1 : 1 ≤ kind) (h3 : kind ≤ 3) (hd : d ≤ 6) (hr : r ≤ 2 ^ d) :
    Pure Go.Proofs.Try.prog 43 [tb kind d (fullR kind d) (statesN kind), .v (.slice none 0 0), .v (.int .i64 1), .v (.int .i64 0), .v (.int .i64 d), .v (.int .i64 (worstZ (fullR kind d) d r).2.1)] ⟨.ro (ints (wlZ kind d r)), []⟩ :=
  list_pure kind d _ h1 h3 hd (by have := worstZ_at (fullR kind d) d r; omega)
theorem choose_tree (d r : Nat) (s h hp sp : Int) (p q g kind : Nat) (hn : needB d r s h hp sp = true) (h1 : 1 ≤ kind) (h3 : kind ≤ 3) :
    Pure Go.Proofs.Try.prog 25 [needA d r s h hp sp p q g, .v (.int .u8 kind)] ⟨.tup [chA (chZ d r s h hp sp p q g kind), .v (.int .i64 0)], []⟩ := by
  refine pure_sz pf eqOk_none (env_ok chEnv rfl) fun _ => ⟨100, ?_⟩
  have hc := CheckNeed_pure d r s h hp sp p q g
  rw [if_pos hn] at hc
  obtain ⟨b1, b2, b3, b4, b5, b6, b7, b8, b9, b10, b11, b12⟩ := needB_yes hn
  rw [Int.toNat_natCast] at b4
  have hd : d ≤ 6 := by omega
  have hr : r ≤ 2 ^ d := by omega
  have nt := newTables_pure kind d h1 h3 hd
  have sg := storage_pure kind d h1 h3 hd
  have wp := worstp_pure kind d (statesN kind) (fullR kind d) r hd (fullR_len kind d) hr
  have lp := list_at kind d r h1 h3 hd hr
  have ib := itZ_bd kind d r hd
  have sb := stN_le kind d h1 h3 hd
  have e4 : ¬ kind = 4 := by omega
  have c1 : decide ((kind : Int) < 1) = false := by simp only [decide_eq_false_iff_not]; omega
  have c2 : decide ((kind : Int) > 4) = false := by simp only [decide_eq_false_iff_not]; omega
  have c3 : ((kind : Int) == 4) = false := by rw [beq_eq_false_iff_ne]; omega
  unfold chZ
  rw [if_neg e4]
  rw [show (worstZ (fullR kind d) d r).1 = itZ kind d r from rfl] at wp
  generalize (worstZ (fullR kind d) d r).2.1 = at_ at wp lp
  generalize hit : itZ kind d r = it at *
  generalize hwl : wlZ kind d r = wl at *
  generalize hst : (stN kind d) = st at *
  clear hit hwl hst
  conv => whnf
  refine ⟨_, hc, ?_⟩
  conv => whnf
  rw [c1]
  conv => whnf
  rw [c2]
  conv => whnf
  rw [c3]
  conv => whnf
  refine ⟨_, nt, ?_⟩
  conv => whnf
  refine ⟨_, sg, ?_⟩
  conv => whnf
  refine ⟨_, wp, ?_⟩
  conv => whnf
  rw [show IntKind.i64.wrap (16 * (st : Int)) = 16 * (st : Int) from wrap64 (by omega) (by omega)]
  refine Or.inr ?_
  conv => whnf
  refine ⟨_, lp, ?_⟩
  conv => whnf
  rw [hdr_w it 0 ib.1 ib.2 (by omega) (by omega), Int.mul_zero, Int.add_zero]
  refine Or.inl ⟨18, by kernel_rfl, ?_⟩
  conv => whnf
  refine ⟨by omega, ?_⟩
  conv => whnf
  rw [cost_p d h hp sp (67 + 18 * it) (16 * (st : Int)) hd b7 b8 b9 b10 b11 b12 (by omega) (by omega) (by omega) (by omega)]
  left
  conv => whnf
  try rfl
theorem choose_poly (d r : Nat) (s h hp sp : Int) (p q g : Nat) (hn : needB d r s h hp sp = true) (wp : p < 18446744073709551616) (wq : q < 18446744073709551616) (wg : g < 18446744073709551616) :
    Pure Go.Proofs.Try.prog 25 [needA d r s h hp sp p q g, .v (.int .u8 (4 : Nat))] ⟨.tup [chA (chZ d r s h hp sp p q g 4), .v (.int .i64 0)], []⟩ := by
  refine pure_sz pf eqOk_none (env_ok chEnv rfl) fun _ => ⟨100, ?_⟩
  have hc := CheckNeed_pure d r s h hp sp p q g
  rw [if_pos hn] at hc
  obtain ⟨b1, b2, b3, b4, b5, b6, b7, b8, b9, b10, b11, b12⟩ := needB_yes hn
  rw [Int.toNat_natCast] at b4
  have hd : d ≤ 6 := by omega
  have hp2 := pow_le6 hd
  have hdeg : 1 ≤ degZ r ∧ degZ r ≤ 64 := by unfold degZ; split <;> omega
  have hpc := polyCheck_pure 4 d (degZ r) p q g wp wq wg
  unfold chZ
  rw [if_pos rfl]
  have hde : (if (1 : Int) > (r : Int) then 1 else (r : Int)) = degZ r := rfl
  generalize degZ r = de at *
  cases hv : val4 4 d de p q g with
  | false =>
    rw [hv] at hpc
    conv => whnf
    refine ⟨_, hc, ?_⟩
    conv => whnf
    rw [hde]
    refine ⟨_, hpc, ?_⟩
    conv => whnf
    left
    conv => whnf
    try rfl
  | true =>
    rw [hv] at hpc
    conv => whnf
    refine ⟨_, hc, ?_⟩
    conv => whnf
    rw [hde]
    refine ⟨_, hpc, ?_⟩
    conv => whnf
    rw [hdr_w 0 de (by omega) (by omega) (by omega) (by omega)]
    rw [show (67 : Int) + 18 * 0 + 16 * de = 67 + 16 * de by omega]
    refine Or.inl ⟨18, by kernel_rfl, ?_⟩
    conv => whnf
    refine ⟨by omega, ?_⟩
    conv => whnf
    rw [cost_p d h hp sp (67 + 16 * de) 8 hd b7 b8 b9 b10 b11 b12 (by omega) (by omega) (by omega) (by omega)]
    left
    conv => whnf
    try rfl
theorem choose_need (d r s h hp sp p q g : Int) (kind : Nat) (hn : needB d r s h hp sp = false) :
    Pure Go.Proofs.Try.prog 25 [needA d r s h hp sp p q g, .v (.int .u8 kind)] ⟨.tup [chA (ch0 0), .v (.int .i64 2)], []⟩ := by
  refine pure_sz pf eqOk_none (env_ok chEnv rfl) fun _ => ⟨100, ?_⟩
  have hc := CheckNeed_pure d r s h hp sp p q g
  rw [hn] at hc
  conv => whnf
  refine ⟨_, hc, ?_⟩
  conv => whnf
  left
  conv => whnf
  try rfl
theorem choose_kind (d r s h hp sp p q g : Int) (kind : Nat) (hk : ¬ (1 ≤ kind ∧ kind ≤ 4)) :
    Pure Go.Proofs.Try.prog 25 [needA d r s h hp sp p q g, .v (.int .u8 kind)] ⟨.tup [chA (ch0 0), .v (.int .i64 2)], []⟩ := by
  cases hn : needB d r s h hp sp with
  | false => exact choose_need d r s h hp sp p q g kind hn
  | true =>
    refine pure_sz pf eqOk_none (env_ok chEnv rfl) fun _ => ⟨100, ?_⟩
    have hc := CheckNeed_pure d r s h hp sp p q g
    rw [hn] at hc
    conv => whnf
    refine ⟨_, hc, ?_⟩
    conv => whnf
    refine cndK_intro (fun c1 => ?_) (fun c1 => ?_)
    · rw [c1]
      conv => whnf
      left
      conv => whnf
      try rfl
    · rw [c1]
      conv => whnf
      rw [show decide ((kind : Int) > 4) = true by simp only [decide_eq_false_iff_not, decide_eq_true_eq] at c1 ⊢; omega]
      conv => whnf
      left
      conv => whnf
      try rfl
/-- What Choose says. -/
def chE (d r s h hp sp : Int) (kind : Nat) : Int := if needB d r s h hp sp = true ∧ 1 ≤ kind ∧ kind ≤ 4 then 0 else 2
def chF (d r s h hp sp : Int) (p q g kind : Nat) : Ch := if needB d r s h hp sp = true ∧ 1 ≤ kind ∧ kind ≤ 4 then chZ d.toNat r.toNat s h hp sp p q g kind else ch0 0
theorem Choose_pure (d r s h hp sp : Int) (p q g kind : Nat) (wp : p < 18446744073709551616) (wq : q < 18446744073709551616) (wg : g < 18446744073709551616) :
    Pure Go.Proofs.Try.prog 25 [needA d r s h hp sp p q g, .v (.int .u8 kind)] ⟨.tup [chA (chF d r s h hp sp p q g kind), .v (.int .i64 (chE d r s h hp sp kind))], []⟩ := by
  unfold chF chE
  cases hn : needB d r s h hp sp with
  | false => simp only [Bool.false_eq_true, false_and, if_false]; exact choose_need d r s h hp sp p q g kind hn
  | true =>
    by_cases hk : 1 ≤ kind ∧ kind ≤ 4
    · rw [if_pos ⟨rfl, hk⟩, if_pos ⟨rfl, hk⟩]
      obtain ⟨b1, b2, b3, b4, -⟩ := needB_yes hn
      obtain ⟨d, rfl⟩ : ∃ k : Nat, d = k := ⟨d.toNat, by omega⟩
      obtain ⟨r, rfl⟩ : ∃ k : Nat, r = k := ⟨r.toNat, by omega⟩
      rw [Int.toNat_natCast, Int.toNat_natCast]
      by_cases h4 : kind = 4
      · subst h4; exact choose_poly d r s h hp sp p q g hn wp wq wg
      · exact choose_tree d r s h hp sp p q g kind hn hk.1 (by omega)
    · rw [if_neg (fun h => hk h.2), if_neg (fun h => hk h.2)]
      exact choose_kind d r s h hp sp p q g kind hk
end Go.YtoeophdffhmpmaaE
end

section
set_option linter.unusedVariables false
set_option linter.unusedSimpArgs false
set_option maxRecDepth 100000
set_option maxHeartbeats 1000000
namespace Go.YtoeophdffhmpmaaE
open Go Go.RowKit

def ch3Env : List Nat := [92, 93, 94, 15, 44, 77]
theorem wE_ok (kind d r : Nat) (h1 : 1 ≤ kind) (h3 : kind ≤ 3) (hd : d ≤ 6) (hr : r ≤ 2 ^ d) : wE kind d 0 0 0 0 r = 0 := by
  unfold wE
  rw [if_pos (validB_ok kind d h1 h3 hd), if_neg]
  rw [Int.toNat_natCast]; omega
theorem wN_ok (kind d r : Nat) (h1 : 1 ≤ kind) (h3 : kind ≤ 3) (hd : d ≤ 6) (hr : r ≤ 2 ^ d) : wN kind d 0 0 0 0 r = itZ kind d r := by
  unfold wN
  rw [if_pos (wE_ok kind d r h1 h3 hd hr)]
  rfl
theorem chosen_tree (d r : Nat) (s h hp sp : Int) (p q g kind : Nat) (hn : needB d r s h hp sp = true) (h1 : 1 ≤ kind) (h3 : kind ≤ 3) :
    Pure Go.Proofs.Try.prog 57 [needA d r s h hp sp p q g, .v (.int .u8 kind)] ⟨chA (chZ d r s h hp sp p q g kind), []⟩ := by
  refine pure_sz pf eqOk_none (env_ok ch3Env rfl) fun _ => ⟨100, ?_⟩
  obtain ⟨b1, b2, b3, b4, b5, b6, b7, b8, b9, b10, b11, b12⟩ := needB_yes hn
  rw [Int.toNat_natCast] at b4
  have hd : d ≤ 6 := by omega
  have hr : r ≤ 2 ^ d := by omega
  have e4 : ¬ kind = 4 := by omega
  have hs := schemeOf_pure d r s h hp sp p q g kind
  rw [show scZ d r p q g kind = scheme kind d 0 0 0 0 from by unfold scZ; rw [if_neg e4]] at hs
  have sg := storage3_pure kind d h1 h3 hd
  have wp := Worst3_pure kind d 0 0 0 0 r
  rw [wE_ok kind d r h1 h3 hd hr, wN_ok kind d r h1 h3 hd hr] at wp
  have lp := WitnessOf_pure kind d r h1 h3 hd hr
  rw [show listZ kind d d 1 0 (worstZ (fullR kind d) d r).2.1 = wlZ kind d r from rfl] at lp
  have rp := receivers_pure d hd
  have ib := itZ_bd kind d r hd
  have sb := stN_le kind d h1 h3 hd
  have c3 : ((kind : Int) == 4) = false := by rw [beq_eq_false_iff_ne]; omega
  unfold chZ
  rw [if_neg e4]
  generalize hit : itZ kind d r = it at *
  generalize hwl : wlZ kind d r = wl at *
  generalize hst : (stN kind d) = st at *
  clear hit hwl hst
  conv => whnf
  refine ⟨_, hs, ?_⟩
  conv => whnf
  rw [c3]
  conv => whnf
  refine ⟨_, sg, ?_⟩
  conv => whnf
  refine ⟨_, wp, ?_⟩
  conv => whnf
  rw [show IntKind.i64.wrap (16 * (st : Int)) = 16 * (st : Int) from wrap64 (by omega) (by omega)]
  refine ⟨_, lp, ?_⟩
  conv => whnf
  rw [hdr_w it 0 ib.1 ib.2 (by omega) (by omega), Int.mul_zero, Int.add_zero]
  refine Or.inl ⟨19, by kernel_rfl, ?_⟩
  conv => whnf
  refine ⟨_, rp, ?_⟩
  conv => whnf
  rw [cost_r d h hp sp (67 + 18 * it) (16 * (st : Int)) hd b7 b8 b9 b10 b11 b12 (by omega) (by omega) (by omega) (by omega)]
  left
  conv => whnf
  try rfl
theorem chosen_poly (d r : Nat) (s h hp sp : Int) (p q g : Nat) (hn : needB d r s h hp sp = true) (wp : p < 18446744073709551616) (wq : q < 18446744073709551616) (wg : g < 18446744073709551616) :
    Pure Go.Proofs.Try.prog 57 [needA d r s h hp sp p q g, .v (.int .u8 (4 : Nat))] ⟨chA (chZ d r s h hp sp p q g 4), []⟩ := by
  refine pure_sz pf eqOk_none (env_ok ch3Env rfl) fun _ => ⟨100, ?_⟩
  obtain ⟨b1, b2, b3, b4, b5, b6, b7, b8, b9, b10, b11, b12⟩ := needB_yes hn
  rw [Int.toNat_natCast] at b4
  have hd : d ≤ 6 := by omega
  have hp2 := pow_le6 hd
  have hdeg : 1 ≤ degZ r ∧ degZ r ≤ 64 := by unfold degZ; split <;> omega
  have hs := schemeOf_pure d r s h hp sp p q g 4
  rw [show scZ d r p q g 4 = scheme 4 d (degZ r) p q g from rfl] at hs
  have hpc := valid4_pure 4 d (degZ r) p q g wp wq wg
  have rp := receivers_pure d hd
  unfold chZ
  rw [if_pos rfl]
  generalize degZ r = de at *
  cases hv : val4 4 d de p q g with
  | false =>
    rw [hv] at hpc
    conv => whnf
    refine ⟨_, hs, ?_⟩
    conv => whnf
    refine ⟨_, hpc, ?_⟩
    conv => whnf
    left
    conv => whnf
    try rfl
  | true =>
    rw [hv] at hpc
    conv => whnf
    refine ⟨_, hs, ?_⟩
    conv => whnf
    refine ⟨_, hpc, ?_⟩
    conv => whnf
    rw [hdr_w 0 de (by omega) (by omega) (by omega) (by omega)]
    rw [show (67 : Int) + 18 * 0 + 16 * de = 67 + 16 * de by omega]
    refine Or.inl ⟨19, by kernel_rfl, ?_⟩
    conv => whnf
    refine ⟨_, rp, ?_⟩
    conv => whnf
    rw [cost_r d h hp sp (67 + 16 * de) 8 hd b7 b8 b9 b10 b11 b12 (by omega) (by omega) (by omega) (by omega)]
    left
    conv => whnf
    try rfl
theorem Chosen_pure (d r : Nat) (s h hp sp : Int) (p q g kind : Nat) (hn : needB d r s h hp sp = true) (hk : 1 ≤ kind ∧ kind ≤ 4) (wp : p < 18446744073709551616) (wq : q < 18446744073709551616) (wg : g < 18446744073709551616) :
    Pure Go.Proofs.Try.prog 57 [needA d r s h hp sp p q g, .v (.int .u8 kind)] ⟨chA (chZ d r s h hp sp p q g kind), []⟩ := by
  by_cases h4 : kind = 4
  · subst h4; exact chosen_poly d r s h hp sp p q g hn wp wq wg
  · exact chosen_tree d r s h hp sp p q g kind hn hk.1 (by omega)
theorem Choose3_pure (d r s h hp sp : Int) (p q g kind : Nat) (wp : p < 18446744073709551616) (wq : q < 18446744073709551616) (wg : g < 18446744073709551616) :
    Pure Go.Proofs.Try.prog 26 [needA d r s h hp sp p q g, .v (.int .u8 kind)] ⟨.tup [chA (chF d r s h hp sp p q g kind), .v (.int .i64 (chE d r s h hp sp kind))], []⟩ := by
  refine pure_sz pf eqOk_none (env_ok [56, 57] rfl) fun _ => ⟨60, ?_⟩
  have hv := ValidNeed_pure d r s h hp sp p q g
  unfold chF chE
  cases hn : needB d r s h hp sp with
  | false =>
    rw [hn] at hv
    simp only [Bool.false_eq_true, false_and, if_false]
    conv => whnf
    refine ⟨_, hv, ?_⟩
    conv => whnf
    left
    conv => whnf
    try rfl
  | true =>
    rw [hn] at hv
    by_cases hk : 1 ≤ kind ∧ kind ≤ 4
    · rw [if_pos ⟨rfl, hk⟩, if_pos ⟨rfl, hk⟩]
      obtain ⟨b1, b2, b3, b4, -⟩ := needB_yes hn
      obtain ⟨d, rfl⟩ : ∃ k : Nat, d = k := ⟨d.toNat, by omega⟩
      obtain ⟨r, rfl⟩ : ∃ k : Nat, r = k := ⟨r.toNat, by omega⟩
      rw [Int.toNat_natCast, Int.toNat_natCast]
      have hc := Chosen_pure d r s h hp sp p q g kind hn hk wp wq wg
      generalize chZ d r s h hp sp p q g kind = c at *
      conv => whnf
      refine ⟨_, hv, ?_⟩
      conv => whnf
      rw [show decide ((kind : Int) < 1) = false by simp only [decide_eq_false_iff_not]; omega]
      conv => whnf
      rw [show decide ((kind : Int) > 4) = false by simp only [decide_eq_false_iff_not]; omega]
      conv => whnf
      refine ⟨_, hc, ?_⟩
      conv => whnf
      left
      conv => whnf
      try rfl
    · rw [if_neg (fun h => hk h.2), if_neg (fun h => hk h.2)]
      conv => whnf
      refine ⟨_, hv, ?_⟩
      conv => whnf
      refine cndK_intro (fun c1 => ?_) (fun c1 => ?_)
      · rw [c1]
        conv => whnf
        left
        conv => whnf
        try rfl
      · rw [c1]
        conv => whnf
        rw [show decide ((kind : Int) > 4) = true by simp only [decide_eq_false_iff_not, decide_eq_true_eq] at c1 ⊢; omega]
        conv => whnf
        left
        conv => whnf
        try rfl
end Go.YtoeophdffhmpmaaE
end

section
set_option linter.unusedVariables false
set_option linter.unusedSimpArgs false
set_option maxRecDepth 100000
set_option maxHeartbeats 1000000
namespace Go.YtoeophdffhmpmaaE
open Go Go.RowKit

/-- Are two choices the same but for their witnesses? -/
def chNum (a b : Ch) : Bool := ((a.kind : Int) == b.kind) && ((a.fits == b.fits) && ((a.it == b.it) && ((a.po == b.po) && ((a.he == b.he) && ((a.st == b.st) && (a.co == b.co))))))
theorem sameNumbers_pure (a b : Ch) : Pure Go.Proofs.Try.prog 60 [chA a, chA b] ⟨.v (.bool (chNum a b)), []⟩ := by
  refine pure_sz pf eqOk_none (env_ok [] rfl) fun hz => ⟨60, ?_⟩
  clear hz
  conv => whnf
  repeat' (refine cndK_intro (fun h => ?_) (fun h => ?_) <;> (try rw [h]) <;> conv => whnf)
  all_goals
    left
    conv => whnf
    refine congrArg (fun b => (⟨.v (.bool b), []⟩ : Res)) ?_
    simp only [chNum]
    simp_all
theorem sameChoice_pure (a b : Ch) : Pure Go.Proofs.Try.prog 31 [chA a, chA b] ⟨.v (.bool (chNum a b && decide (a.w = b.w))), []⟩ := by
  refine pure_sz pf eqOk_none (env_ok [60, 18] rfl) fun _ => ⟨60, ?_⟩
  have h1 := sameNumbers_pure a b
  have h2 := sameInts_pure a.w b.w
  cases hb : chNum a b with
  | false =>
    rw [hb] at h1
    conv => whnf
    refine ⟨_, h1, ?_⟩
    conv => whnf
    left
    conv => whnf
    try rfl
  | true =>
    rw [hb] at h1
    conv => whnf
    refine ⟨_, h1, ?_⟩
    conv => whnf
    refine ⟨_, h2, ?_⟩
    conv => whnf
    left
    conv => whnf
    try rfl
def chC (c : Ch) : List A := [.v (.int .u8 c.kind), .v (.bool c.fits), .v (.int .i64 c.it), .v (.int .i64 c.po), .v (.int .i64 c.he), .v (.int .i64 c.st), .v (.int .i64 c.co), .ro (ints c.w)]
def rowC (L : List Ch) : List (List A) := L.map chC
def plA (L : List Ch) (b : Nat) : A := .agg [.ro (rowC L), .v (.int .u8 b)]
/-- The best so far, and a choice more. -/
def stepB (L : List Ch) (b : Nat) (c : Ch) : Nat := if c.fits = true ∧ (b = 0 ∨ c.co < (L.getD (b - 1) (ch0 0)).co) then L.length + 1 else b
end Go.YtoeophdffhmpmaaE
end

section
set_option linter.unusedVariables false
set_option linter.unusedSimpArgs false
set_option maxRecDepth 100000
set_option maxHeartbeats 1000000
namespace Go.YtoeophdffhmpmaaE
open Go Go.RowKit

/-- The first choices. -/
def chL (f : Nat → Ch) (k : Nat) : List Ch := (List.range k).map fun i => f (i + 1)
theorem chL_length (f : Nat → Ch) (k : Nat) : (chL f k).length = k := by simp [chL]
theorem rowC_length (L : List Ch) : (rowC L).length = L.length := by simp [rowC]
theorem chL_succ (f : Nat → Ch) (k : Nat) : chL f (k + 1) = chL f k ++ [f (k + 1)] := by simp [chL, List.range_succ]
/-- The best of the first choices. -/
def bstN (f : Nat → Ch) : Nat → Nat
  | 0 => 0
  | k + 1 => stepB (chL f k) (bstN f k) (f (k + 1))
theorem bstN_le (f : Nat → Ch) (k : Nat) : bstN f k ≤ k := by
  induction k with
  | zero => exact Nat.le_refl 0
  | succ k ih =>
    unfold bstN stepB
    split
    · rw [chL_length]; exact Nat.le_refl _
    · omega
theorem rowC_get (L : List Ch) (i : Nat) (h : i < L.length) : (rowC L)[i]? = some (chC (L.getD i (ch0 0))) := by
  simp [rowC, h]
def needC (d r s h hp sp p q g : Int) : Blk := .bx false [.v (.int .i64 d), .v (.int .i64 r), .v (.int .i64 s), .v (.int .i64 h), .v (.int .i64 hp), .v (.int .i64 sp), .v (.int .u64 p), .v (.int .u64 q), .v (.int .u64 g)]
def planC (x : A) (b : Nat) : Blk := .bx false [x, .v (.int .u8 b)]
theorem u8n {n : Nat} (h : n ≤ 255) : IntKind.u8.wrap (n : Int) = (n : Int) := by
  simp [IntKind.wrap, IntKind.bits, IntKind.signed]; omega
theorem make_loop (E : EqT) (d r s h hp sp p q g : Int) (f : Nat → Ch) (hf : ∀ i, 1 ≤ i → i ≤ 4 → Pure Go.Proofs.Try.prog 25 [needA d r s h hp sp p q g, .v (.int .u8 (i : Nat))] ⟨.tup [chA (f i), .v (.int .i64 0)], []⟩) (K : K) :
    ∀ (c k n : Nat), k + c = 4 → 1 ≤ k → c + 60 ≤ n →
      (∀ j, K (.exit 0) (mkJ 51 [(1, .pt 0 0 0 0 0), (2, .pt 1 0 0 0 0), (4, .pt 2 0 0 0 0)] j) [needC d r s h hp sp p q g, planC (.v (.slice none 0 0)) 0, planC (.sl 3 0 8 0 4) (bstN f 4), .rw false false 0 8 (rowC (chL f 4))] []) →
      loopF (run Go.Proofs.Try.prog E (envL Go.Proofs.Try.prog [25]) n) 0 0 (loopB Go.Proofs.Try.prog 27 0) (mkT 51 [(1, .pt 0 0 0 0 0), (2, .pt 1 0 0 0 0), (3, .v (.int .i64 0)), (4, .pt 2 0 0 0 0), (5, .v (.int .u8 (k + 1 : Nat)))]) [needC d r s h hp sp p q g, planC (.v (.slice none 0 0)) 0, planC (.sl 3 0 8 0 k) (bstN f k), .rw false false 0 8 (rowC (chL f k))] [] K := by
  intro c
  induction c with
  | zero =>
    intro k n hk h1 hn hK
    obtain ⟨n, rfl⟩ : ∃ m, n = m + 60 := ⟨n - 60, by omega⟩
    obtain rfl : k = 4 := by omega
    conv => whnf
    exact useJ hK rfl
  | succ c ih =>
    intro k n hk h1 hn hK
    obtain ⟨n, rfl⟩ : ∃ m, n = m + 60 := ⟨n - 60, by omega⟩
    have next := ih (k + 1) (n + 59) (by omega) (by omega) (by omega) hK
    have hc := hf (k + 1) (by omega) (by omega)
    have hb := bstN_le f k
    have hl := chL_length f k
    have hrow : rowC (chL f (k + 1)) = rowC (chL f k) ++ [chC (f (k + 1))] := by rw [chL_succ]; simp [rowC]
    have hstep : bstN f (k + 1) = stepB (chL f k) (bstN f k) (f (k + 1)) := rfl
    have hgv : ∀ i, i < k → (rowC (chL f (k + 1)))[i]? = some (chC ((chL f k).getD i (ch0 0))) := by
      intro i hi
      rw [hrow, List.getElem?_append_left (by rw [rowC_length, hl]; exact hi), rowC_get _ _ (by rw [hl]; exact hi)]
    rw [hstep] at next
    unfold stepB at next
    rw [hl] at next
    generalize f (k + 1) = c1 at hc hrow next
    generalize bstN f k = b at hb next
    conv => whnf
    rw [show decide (((k + 1 : Nat) : Int) ≤ 4) = true by simp only [decide_eq_true_eq]; omega]
    conv => whnf
    refine ⟨_, hc, ?_⟩
    conv => whnf
    refine ⟨Nat.le_refl _, ?_⟩
    conv => whnf
    refine ⟨⟨rfl, by rw [rowC_length, hl]; exact Nat.le_refl _, by show ((k + 1 : Nat) : Int) * ((72 : Nat) : Int) ≤ 70368744177664; omega, by simp⟩, rowC (chL f (k + 1)), by rw [List.take_of_length_le (by rw [rowC_length, hl]; exact Nat.le_refl _), hrow]; rfl, ?_⟩
    conv => whnf
    refine Or.inl ⟨20, by kernel_rfl, ?_⟩
    conv => whnf
    have ek : IntKind.u8.wrap (((k + 1 : Nat) : Int) + 1) = ((k + 1 + 1 : Nat) : Int) := by rw [show ((k + 1 : Nat) : Int) + 1 = ((k + 1 + 1 : Nat) : Int) by omega]; exact u8n (by omega)
    cases hfit : c1.fits with
    | false =>
      rw [hfit, if_neg (fun h => by cases h.1)] at next
      conv => whnf
      rw [ek]
      refine gc_step ⟨[false, true, true, true, true, true], [0,1,2,3], 0⟩ (mkT 51 [(1, .pt 0 0 0 0 0), (2, .pt 1 0 0 0 0), (3, .v (.int .i64 0)), (4, .pt 2 0 0 0 0), (5, .v (.int .u8 (k + 1 + 1 : Nat)))]) [needC d r s h hp sp p q g, planC (.v (.slice none 0 0)) 0, planC (.sl 3 0 8 0 (k + 1)) b, .rw false false 0 8 (rowC (chL f (k + 1)))] [] (fun k hk => hk) ?_
      exact next
    | true =>
      rw [hfit] at next
      conv => whnf
      refine cndK_intro (fun c2 => ?_) (fun c2 => ?_)
      · have hb0 : b = 0 := by have := eq_of_beq c2; omega
        rw [if_pos ⟨rfl, .inl hb0⟩] at next
        rw [c2]
        conv => whnf
        rw [ek]
        refine gc_step ⟨[false, true, true, true, true, true], [0,1,2,3], 0⟩ (mkT 51 [(1, .pt 0 0 0 0 0), (2, .pt 1 0 0 0 0), (3, .v (.int .i64 0)), (4, .pt 2 0 0 0 0), (5, .v (.int .u8 (k + 1 + 1 : Nat)))]) [needC d r s h hp sp p q g, planC (.v (.slice none 0 0)) 0, planC (.sl 3 0 8 0 (k + 1)) (k + 1), .rw false false 0 8 (rowC (chL f (k + 1)))] [] (fun k hk => hk) ?_
        exact next
      · have hb0 : b ≠ 0 := fun e => by subst e; simp at c2
        rw [c2]
        conv => whnf
        have eb : IntKind.u8.wrap ((b : Int) - 1) = ((b - 1 : Nat) : Int) := by rw [show (b : Int) - 1 = ((b - 1 : Nat) : Int) by omega]; exact u8n (by omega)
        rw [eb]
        refine ⟨⟨by omega, by show ((b - 1 : Nat) : Int) < ((k + 1 : Nat) : Int); omega⟩, ?_⟩
        conv => whnf
        refine optK_intro _ (show (rowC (chL f (k + 1)))[0 + ((b - 1 : Nat) : Int).toNat]? = _ from by rw [Nat.zero_add, Int.toNat_natCast]; exact hgv (b - 1) (by omega)) ?_
        generalize ((chL f k).getD (b - 1) (ch0 0)) = c0 at next
        conv => whnf
        refine cndK_intro (fun c3 => ?_) (fun c3 => ?_)
        · have h3 : c1.co < c0.co := by simpa using c3
          rw [if_pos ⟨rfl, .inr h3⟩] at next
          conv => whnf
          rw [ek]
          refine gc_step ⟨[false, true, true, true, true, true], [0,1,2,3], 0⟩ (mkT 51 [(1, .pt 0 0 0 0 0), (2, .pt 1 0 0 0 0), (3, .v (.int .i64 0)), (4, .pt 2 0 0 0 0), (5, .v (.int .u8 (k + 1 + 1 : Nat)))]) [needC d r s h hp sp p q g, planC (.v (.slice none 0 0)) 0, planC (.sl 3 0 8 0 (k + 1)) (k + 1), .rw false false 0 8 (rowC (chL f (k + 1)))] [] (fun k hk => hk) ?_
          exact next
        · have h3 : ¬ c1.co < c0.co := by simpa using c3
          rw [if_neg (fun h => h.2.elim hb0 h3)] at next
          conv => whnf
          rw [ek]
          refine gc_step ⟨[false, true, true, true, true, true], [0,1,2,3], 0⟩ (mkT 51 [(1, .pt 0 0 0 0 0), (2, .pt 1 0 0 0 0), (3, .v (.int .i64 0)), (4, .pt 2 0 0 0 0), (5, .v (.int .u8 (k + 1 + 1 : Nat)))]) [needC d r s h hp sp p q g, planC (.v (.slice none 0 0)) 0, planC (.sl 3 0 8 0 (k + 1)) b, .rw false false 0 8 (rowC (chL f (k + 1)))] [] (fun k hk => hk) ?_
          exact next
theorem made_loop (E : EqT) (d r s h hp sp p q g : Int) (f : Nat → Ch) (hf : ∀ i, 1 ≤ i → i ≤ 4 → Pure Go.Proofs.Try.prog 57 [needA d r s h hp sp p q g, .v (.int .u8 (i : Nat))] ⟨chA (f i), []⟩) (K : K) :
    ∀ (c k n : Nat), k + c = 4 → 1 ≤ k → c + 60 ≤ n →
      (∀ j, K (.exit 0) (mkJ 42 [(1, .pt 0 0 0 0 0), (2, .pt 1 0 0 0 0), (3, .pt 2 0 0 0 0)] j) [needC d r s h hp sp p q g, planC (.v (.slice none 0 0)) 0, planC (.sl 3 0 8 0 4) (bstN f 4), .rw false false 0 8 (rowC (chL f 4))] []) →
      loopF (run Go.Proofs.Try.prog E (envL Go.Proofs.Try.prog [57]) n) 0 0 (loopB Go.Proofs.Try.prog 58 0) (mkT 42 [(1, .pt 0 0 0 0 0), (2, .pt 1 0 0 0 0), (3, .pt 2 0 0 0 0), (4, .v (.int .u8 (k + 1 : Nat)))]) [needC d r s h hp sp p q g, planC (.v (.slice none 0 0)) 0, planC (.sl 3 0 8 0 k) (bstN f k), .rw false false 0 8 (rowC (chL f k))] [] K := by
  intro c
  induction c with
  | zero =>
    intro k n hk h1 hn hK
    obtain ⟨n, rfl⟩ : ∃ m, n = m + 60 := ⟨n - 60, by omega⟩
    obtain rfl : k = 4 := by omega
    conv => whnf
    exact useJ hK rfl
  | succ c ih =>
    intro k n hk h1 hn hK
    obtain ⟨n, rfl⟩ : ∃ m, n = m + 60 := ⟨n - 60, by omega⟩
    have next := ih (k + 1) (n + 59) (by omega) (by omega) (by omega) hK
    have hc := hf (k + 1) (by omega) (by omega)
    have hb := bstN_le f k
    have hl := chL_length f k
    have hrow : rowC (chL f (k + 1)) = rowC (chL f k) ++ [chC (f (k + 1))] := by rw [chL_succ]; simp [rowC]
    have hstep : bstN f (k + 1) = stepB (chL f k) (bstN f k) (f (k + 1)) := rfl
    have hgv : ∀ i, i < k → (rowC (chL f (k + 1)))[i]? = some (chC ((chL f k).getD i (ch0 0))) := by
      intro i hi
      rw [hrow, List.getElem?_append_left (by rw [rowC_length, hl]; exact hi), rowC_get _ _ (by rw [hl]; exact hi)]
    rw [hstep] at next
    unfold stepB at next
    rw [hl] at next
    generalize f (k + 1) = c1 at hc hrow next
    generalize bstN f k = b at hb next
    conv => whnf
    rw [show decide (((k + 1 : Nat) : Int) ≤ 4) = true by simp only [decide_eq_true_eq]; omega]
    conv => whnf
    refine ⟨_, hc, ?_⟩
    conv => whnf
    refine ⟨Nat.le_refl _, ?_⟩
    conv => whnf
    refine ⟨⟨rfl, by rw [rowC_length, hl]; exact Nat.le_refl _, by show ((k + 1 : Nat) : Int) * ((72 : Nat) : Int) ≤ 70368744177664; omega, by simp⟩, rowC (chL f (k + 1)), by rw [List.take_of_length_le (by rw [rowC_length, hl]; exact Nat.le_refl _), hrow]; rfl, ?_⟩
    conv => whnf
    refine Or.inl ⟨20, by kernel_rfl, ?_⟩
    conv => whnf
    have ek : IntKind.u8.wrap (((k + 1 : Nat) : Int) + 1) = ((k + 1 + 1 : Nat) : Int) := by rw [show ((k + 1 : Nat) : Int) + 1 = ((k + 1 + 1 : Nat) : Int) by omega]; exact u8n (by omega)
    cases hfit : c1.fits with
    | false =>
      rw [hfit, if_neg (fun h => by cases h.1)] at next
      conv => whnf
      rw [ek]
      refine gc_step ⟨[false, true, true, true, true], [0,1,2,3], 0⟩ (mkT 42 [(1, .pt 0 0 0 0 0), (2, .pt 1 0 0 0 0), (3, .pt 2 0 0 0 0), (4, .v (.int .u8 (k + 1 + 1 : Nat)))]) [needC d r s h hp sp p q g, planC (.v (.slice none 0 0)) 0, planC (.sl 3 0 8 0 (k + 1)) b, .rw false false 0 8 (rowC (chL f (k + 1)))] [] (fun k hk => hk) ?_
      exact next
    | true =>
      rw [hfit] at next
      conv => whnf
      refine cndK_intro (fun c2 => ?_) (fun c2 => ?_)
      · have hb0 : b = 0 := by have := eq_of_beq c2; omega
        rw [if_pos ⟨rfl, .inl hb0⟩] at next
        rw [c2]
        conv => whnf
        rw [ek]
        refine gc_step ⟨[false, true, true, true, true], [0,1,2,3], 0⟩ (mkT 42 [(1, .pt 0 0 0 0 0), (2, .pt 1 0 0 0 0), (3, .pt 2 0 0 0 0), (4, .v (.int .u8 (k + 1 + 1 : Nat)))]) [needC d r s h hp sp p q g, planC (.v (.slice none 0 0)) 0, planC (.sl 3 0 8 0 (k + 1)) (k + 1), .rw false false 0 8 (rowC (chL f (k + 1)))] [] (fun k hk => hk) ?_
        exact next
      · have hb0 : b ≠ 0 := fun e => by subst e; simp at c2
        rw [c2]
        conv => whnf
        have eb : IntKind.u8.wrap ((b : Int) - 1) = ((b - 1 : Nat) : Int) := by rw [show (b : Int) - 1 = ((b - 1 : Nat) : Int) by omega]; exact u8n (by omega)
        rw [eb]
        refine ⟨⟨by omega, by show ((b - 1 : Nat) : Int) < ((k + 1 : Nat) : Int); omega⟩, ?_⟩
        conv => whnf
        refine optK_intro _ (show (rowC (chL f (k + 1)))[0 + ((b - 1 : Nat) : Int).toNat]? = _ from by rw [Nat.zero_add, Int.toNat_natCast]; exact hgv (b - 1) (by omega)) ?_
        generalize ((chL f k).getD (b - 1) (ch0 0)) = c0 at next
        conv => whnf
        refine cndK_intro (fun c3 => ?_) (fun c3 => ?_)
        · have h3 : c1.co < c0.co := by simpa using c3
          rw [if_pos ⟨rfl, .inr h3⟩] at next
          conv => whnf
          rw [ek]
          refine gc_step ⟨[false, true, true, true, true], [0,1,2,3], 0⟩ (mkT 42 [(1, .pt 0 0 0 0 0), (2, .pt 1 0 0 0 0), (3, .pt 2 0 0 0 0), (4, .v (.int .u8 (k + 1 + 1 : Nat)))]) [needC d r s h hp sp p q g, planC (.v (.slice none 0 0)) 0, planC (.sl 3 0 8 0 (k + 1)) (k + 1), .rw false false 0 8 (rowC (chL f (k + 1)))] [] (fun k hk => hk) ?_
          exact next
        · have h3 : ¬ c1.co < c0.co := by simpa using c3
          rw [if_neg (fun h => h.2.elim hb0 h3)] at next
          conv => whnf
          rw [ek]
          refine gc_step ⟨[false, true, true, true, true], [0,1,2,3], 0⟩ (mkT 42 [(1, .pt 0 0 0 0 0), (2, .pt 1 0 0 0 0), (3, .pt 2 0 0 0 0), (4, .v (.int .u8 (k + 1 + 1 : Nat)))]) [needC d r s h hp sp p q g, planC (.v (.slice none 0 0)) 0, planC (.sl 3 0 8 0 (k + 1)) b, .rw false false 0 8 (rowC (chL f (k + 1)))] [] (fun k hk => hk) ?_
          exact next
end Go.YtoeophdffhmpmaaE
end

section
set_option linter.unusedVariables false
set_option linter.unusedSimpArgs false
set_option maxRecDepth 100000
set_option maxHeartbeats 1000000
namespace Go.YtoeophdffhmpmaaE
open Go Go.RowKit

theorem bst1 (f : Nat → Ch) : bstN f 1 = if (f 1).fits = true then 1 else 0 := by
  unfold bstN bstN stepB
  simp [chL]
theorem chL1 (f : Nat → Ch) : rowC (chL f 1) = [chC (f 1)] := rfl
theorem make_f (d r s h hp sp p q g : Int) (f : Nat → Ch) (hf : ∀ i, 1 ≤ i → i ≤ 4 → Pure Go.Proofs.Try.prog 25 [needA d r s h hp sp p q g, .v (.int .u8 (i : Nat))] ⟨.tup [chA (f i), .v (.int .i64 0)], []⟩) :
    Pure Go.Proofs.Try.prog 27 [needA d r s h hp sp p q g] ⟨.tup [plA (chL f 4) (bstN f 4), .v (.int .i64 0)], []⟩ := by
  refine pure_sz pf eqOk_none (env_ok [25] rfl) fun _ => ⟨100, ?_⟩
  have h1 := hf 1 (by decide) (by decide)
  have fin : ∀ (K : K), (∀ j, K (.exit 0) (mkJ 51 [(1, .pt 0 0 0 0 0), (2, .pt 1 0 0 0 0), (4, .pt 2 0 0 0 0)] j) [needC d r s h hp sp p q g, planC (.v (.slice none 0 0)) 0, planC (.sl 3 0 8 0 4) (bstN f 4), .rw false false 0 8 (rowC (chL f 4))] []) →
      loopF (run Go.Proofs.Try.prog (fun _ => none) (envL Go.Proofs.Try.prog [25]) 93) 0 0 (loopB Go.Proofs.Try.prog 27 0) (mkT 51 [(1, .pt 0 0 0 0 0), (2, .pt 1 0 0 0 0), (3, .v (.int .i64 0)), (4, .pt 2 0 0 0 0), (5, .v (.int .u8 (1 + 1 : Nat)))]) [needC d r s h hp sp p q g, planC (.v (.slice none 0 0)) 0, planC (.sl 3 0 8 0 1) (bstN f 1), .rw false false 0 8 (rowC (chL f 1))] [] K :=
    fun K hK => make_loop (fun _ => none) d r s h hp sp p q g f hf K 3 1 93 (by decide) (by decide) (by decide) hK
  rw [bst1, chL1] at fin
  generalize f 1 = c1 at h1 fin
  obtain ⟨kd, ft, it, po, he, st, co, w⟩ := c1
  simp only at fin
  conv => whnf
  refine wk_none ?_
  conv => whnf
  refine ⟨_, h1, ?_⟩
  conv => whnf
  refine ⟨Nat.le_refl _, ?_⟩
  conv => whnf
  refine ⟨fun h => (by cases h), fun _ => ⟨⟨by show ((1 : Nat) : Int) * ((72 : Nat) : Int) ≤ 70368744177664; decide, by simp⟩, ?_⟩⟩
  conv => whnf
  refine Or.inl ⟨20, by kernel_rfl, ?_⟩
  conv => whnf
  cases ft with
  | false =>
    rw [if_neg (by decide)] at fin
    conv => whnf
    refine gc_step ⟨[false, true, true, true, true, true], [0,1,2,5], 0⟩ (mkT 51 [(1, .pt 0 0 0 0 0), (2, .pt 1 0 0 0 0), (3, .v (.int .i64 0)), (4, .pt 2 0 0 0 0), (5, .v (.int .u8 (1 + 1 : Nat)))]) [needC d r s h hp sp p q g, planC (.v (.slice none 0 0)) 0, planC (.sl 3 0 8 0 1) 0, .rw false false 0 8 [chC ⟨kd, false, it, po, he, st, co, w⟩]] [] (fun k hk => hk) ?_
    refine fin _ fun j => ?_
    conv => whnf
    left
    conv => whnf
    refine ⟨by show 0 + 4 ≤ (rowC (chL f 4)).length; rw [rowC_length, chL_length]; exact Nat.le_refl _, ?_⟩
    have ef : ((rowC (chL f 4)).drop 0).take 4 = rowC (chL f 4) := by rw [List.drop_zero]; exact List.take_of_length_le (by rw [rowC_length, chL_length]; exact Nat.le_refl _)
    rw [ef]
    conv => whnf
    try rfl
  | true =>
    rw [if_pos rfl] at fin
    conv => whnf
    refine gc_step ⟨[false, true, true, true, true, true], [0,1,2,5], 0⟩ (mkT 51 [(1, .pt 0 0 0 0 0), (2, .pt 1 0 0 0 0), (3, .v (.int .i64 0)), (4, .pt 2 0 0 0 0), (5, .v (.int .u8 (1 + 1 : Nat)))]) [needC d r s h hp sp p q g, planC (.v (.slice none 0 0)) 0, planC (.sl 3 0 8 0 1) 1, .rw false false 0 8 [chC ⟨kd, true, it, po, he, st, co, w⟩]] [] (fun k hk => hk) ?_
    refine fin _ fun j => ?_
    conv => whnf
    left
    conv => whnf
    refine ⟨by show 0 + 4 ≤ (rowC (chL f 4)).length; rw [rowC_length, chL_length]; exact Nat.le_refl _, ?_⟩
    have ef : ((rowC (chL f 4)).drop 0).take 4 = rowC (chL f 4) := by rw [List.drop_zero]; exact List.take_of_length_le (by rw [rowC_length, chL_length]; exact Nat.le_refl _)
    rw [ef]
    conv => whnf
    try rfl
theorem made_f (d r s h hp sp p q g : Int) (f : Nat → Ch) (hf : ∀ i, 1 ≤ i → i ≤ 4 → Pure Go.Proofs.Try.prog 57 [needA d r s h hp sp p q g, .v (.int .u8 (i : Nat))] ⟨chA (f i), []⟩) :
    Pure Go.Proofs.Try.prog 58 [needA d r s h hp sp p q g] ⟨plA (chL f 4) (bstN f 4), []⟩ := by
  refine pure_sz pf eqOk_none (env_ok [57] rfl) fun _ => ⟨100, ?_⟩
  have h1 := hf 1 (by decide) (by decide)
  have fin : ∀ (K : K), (∀ j, K (.exit 0) (mkJ 42 [(1, .pt 0 0 0 0 0), (2, .pt 1 0 0 0 0), (3, .pt 2 0 0 0 0)] j) [needC d r s h hp sp p q g, planC (.v (.slice none 0 0)) 0, planC (.sl 3 0 8 0 4) (bstN f 4), .rw false false 0 8 (rowC (chL f 4))] []) →
      loopF (run Go.Proofs.Try.prog (fun _ => none) (envL Go.Proofs.Try.prog [57]) 93) 0 0 (loopB Go.Proofs.Try.prog 58 0) (mkT 42 [(1, .pt 0 0 0 0 0), (2, .pt 1 0 0 0 0), (3, .pt 2 0 0 0 0), (4, .v (.int .u8 (1 + 1 : Nat)))]) [needC d r s h hp sp p q g, planC (.v (.slice none 0 0)) 0, planC (.sl 3 0 8 0 1) (bstN f 1), .rw false false 0 8 (rowC (chL f 1))] [] K :=
    fun K hK => made_loop (fun _ => none) d r s h hp sp p q g f hf K 3 1 93 (by decide) (by decide) (by decide) hK
  rw [bst1, chL1] at fin
  generalize f 1 = c1 at h1 fin
  obtain ⟨kd, ft, it, po, he, st, co, w⟩ := c1
  simp only at fin
  conv => whnf
  refine wk_none ?_
  conv => whnf
  refine ⟨_, h1, ?_⟩
  conv => whnf
  refine ⟨Nat.le_refl _, ?_⟩
  conv => whnf
  refine ⟨fun h => (by cases h), fun _ => ⟨⟨by show ((1 : Nat) : Int) * ((72 : Nat) : Int) ≤ 70368744177664; decide, by simp⟩, ?_⟩⟩
  conv => whnf
  refine Or.inl ⟨20, by kernel_rfl, ?_⟩
  conv => whnf
  cases ft with
  | false =>
    rw [if_neg (by decide)] at fin
    conv => whnf
    refine gc_step ⟨[false, true, true, true, true], [0,1,2,5], 0⟩ (mkT 42 [(1, .pt 0 0 0 0 0), (2, .pt 1 0 0 0 0), (3, .pt 2 0 0 0 0), (4, .v (.int .u8 (1 + 1 : Nat)))]) [needC d r s h hp sp p q g, planC (.v (.slice none 0 0)) 0, planC (.sl 3 0 8 0 1) 0, .rw false false 0 8 [chC ⟨kd, false, it, po, he, st, co, w⟩]] [] (fun k hk => hk) ?_
    refine fin _ fun j => ?_
    conv => whnf
    left
    conv => whnf
    refine ⟨by show 0 + 4 ≤ (rowC (chL f 4)).length; rw [rowC_length, chL_length]; exact Nat.le_refl _, ?_⟩
    have ef : ((rowC (chL f 4)).drop 0).take 4 = rowC (chL f 4) := by rw [List.drop_zero]; exact List.take_of_length_le (by rw [rowC_length, chL_length]; exact Nat.le_refl _)
    rw [ef]
    conv => whnf
    try rfl
  | true =>
    rw [if_pos rfl] at fin
    conv => whnf
    refine gc_step ⟨[false, true, true, true, true], [0,1,2,5], 0⟩ (mkT 42 [(1, .pt 0 0 0 0 0), (2, .pt 1 0 0 0 0), (3, .pt 2 0 0 0 0), (4, .v (.int .u8 (1 + 1 : Nat)))]) [needC d r s h hp sp p q g, planC (.v (.slice none 0 0)) 0, planC (.sl 3 0 8 0 1) 1, .rw false false 0 8 [chC ⟨kd, true, it, po, he, st, co, w⟩]] [] (fun k hk => hk) ?_
    refine fin _ fun j => ?_
    conv => whnf
    left
    conv => whnf
    refine ⟨by show 0 + 4 ≤ (rowC (chL f 4)).length; rw [rowC_length, chL_length]; exact Nat.le_refl _, ?_⟩
    have ef : ((rowC (chL f 4)).drop 0).take 4 = rowC (chL f 4) := by rw [List.drop_zero]; exact List.take_of_length_le (by rw [rowC_length, chL_length]; exact Nat.le_refl _)
    rw [ef]
    conv => whnf
    try rfl
/-- What Make says. -/
def mkE (d r s h hp sp : Int) : Int := if needB d r s h hp sp = true then 0 else 2
def mkL (d r s h hp sp : Int) (p q g : Nat) : List Ch := if needB d r s h hp sp = true then chL (chZ d.toNat r.toNat s h hp sp p q g) 4 else []
def mkB (d r s h hp sp : Int) (p q g : Nat) : Nat := if needB d r s h hp sp = true then bstN (chZ d.toNat r.toNat s h hp sp p q g) 4 else 0
theorem Make_pure (d r s h hp sp : Int) (p q g : Nat) (wp : p < 18446744073709551616) (wq : q < 18446744073709551616) (wg : g < 18446744073709551616) :
    Pure Go.Proofs.Try.prog 27 [needA d r s h hp sp p q g] ⟨.tup [plA (mkL d r s h hp sp p q g) (mkB d r s h hp sp p q g), .v (.int .i64 (mkE d r s h hp sp))], []⟩ := by
  cases hn : needB d r s h hp sp with
  | true =>
    have e1 : mkL d r s h hp sp p q g = chL (chZ d.toNat r.toNat s h hp sp p q g) 4 := by unfold mkL; rw [if_pos hn]
    have e2 : mkB d r s h hp sp p q g = bstN (chZ d.toNat r.toNat s h hp sp p q g) 4 := by unfold mkB; rw [if_pos hn]
    have e3 : mkE d r s h hp sp = 0 := by unfold mkE; rw [if_pos hn]
    rw [e1, e2, e3]
    refine make_f d r s h hp sp p q g _ fun i h1 h4 => ?_
    have := Choose_pure d r s h hp sp p q g i wp wq wg
    rw [show chF d r s h hp sp p q g i = chZ d.toNat r.toNat s h hp sp p q g i from by unfold chF; rw [if_pos ⟨hn, h1, h4⟩], show chE d r s h hp sp i = 0 from by unfold chE; rw [if_pos ⟨hn, h1, h4⟩]] at this
    exact this
  | false =>
    have e1 : mkL d r s h hp sp p q g = [] := by unfold mkL; rw [hn]; rfl
    have e2 : mkB d r s h hp sp p q g = 0 := by unfold mkB; rw [hn]; rfl
    have e3 : mkE d r s h hp sp = 2 := by unfold mkE; rw [hn]; rfl
    rw [e1, e2, e3]
    refine pure_sz pf eqOk_none (env_ok [25] rfl) fun _ => ⟨100, ?_⟩
    have h1 := choose_need d r s h hp sp p q g 1 hn
    conv => whnf
    refine wk_none ?_
    conv => whnf
    refine ⟨_, h1, ?_⟩
    conv => whnf
    left
    conv => whnf
    try rfl
theorem Make3_pure (d r s h hp sp : Int) (p q g : Nat) (wp : p < 18446744073709551616) (wq : q < 18446744073709551616) (wg : g < 18446744073709551616) :
    Pure Go.Proofs.Try.prog 28 [needA d r s h hp sp p q g] ⟨.tup [plA (mkL d r s h hp sp p q g) (mkB d r s h hp sp p q g), .v (.int .i64 (mkE d r s h hp sp))], []⟩ := by
  have hv := ValidNeed_pure d r s h hp sp p q g
  cases hn : needB d r s h hp sp with
  | true =>
    have e1 : mkL d r s h hp sp p q g = chL (chZ d.toNat r.toNat s h hp sp p q g) 4 := by unfold mkL; rw [if_pos hn]
    have e2 : mkB d r s h hp sp p q g = bstN (chZ d.toNat r.toNat s h hp sp p q g) 4 := by unfold mkB; rw [if_pos hn]
    have e3 : mkE d r s h hp sp = 0 := by unfold mkE; rw [if_pos hn]
    have hm := made_f d r s h hp sp p q g (chZ d.toNat r.toNat s h hp sp p q g) fun i h1 h4 => by
      obtain ⟨b1, b2, b3, b4, -⟩ := needB_yes hn
      obtain ⟨d, rfl⟩ : ∃ k : Nat, d = k := ⟨d.toNat, by omega⟩
      obtain ⟨r, rfl⟩ : ∃ k : Nat, r = k := ⟨r.toNat, by omega⟩
      rw [Int.toNat_natCast, Int.toNat_natCast]
      exact Chosen_pure d r s h hp sp p q g i hn ⟨h1, h4⟩ wp wq wg
    rw [e1, e2, e3]
    generalize chL (chZ d.toNat r.toNat s h hp sp p q g) 4 = L at *
    generalize bstN (chZ d.toNat r.toNat s h hp sp p q g) 4 = b at *
    rw [hn] at hv
    refine pure_sz pf eqOk_none (env_ok [56, 58] rfl) fun _ => ⟨100, ?_⟩
    conv => whnf
    refine ⟨_, hv, ?_⟩
    conv => whnf
    refine ⟨_, hm, ?_⟩
    conv => whnf
    left
    conv => whnf
    try rfl
  | false =>
    have e1 : mkL d r s h hp sp p q g = [] := by unfold mkL; rw [hn]; rfl
    have e2 : mkB d r s h hp sp p q g = 0 := by unfold mkB; rw [hn]; rfl
    have e3 : mkE d r s h hp sp = 2 := by unfold mkE; rw [hn]; rfl
    rw [e1, e2, e3]
    rw [hn] at hv
    refine pure_sz pf eqOk_none (env_ok [56, 58] rfl) fun _ => ⟨100, ?_⟩
    conv => whnf
    refine ⟨_, hv, ?_⟩
    conv => whnf
    left
    conv => whnf
    try rfl
end Go.YtoeophdffhmpmaaE
end

section
set_option linter.unusedVariables false
set_option linter.unusedSimpArgs false
set_option maxRecDepth 100000
set_option maxHeartbeats 1000000
namespace Go.YtoeophdffhmpmaaE
open Go Go.RowKit

theorem chNum_refl (a : Ch) : chNum a a = true := by simp [chNum]
theorem same_loop (E : EqT) (L : List Ch) (b : Nat) (hL : L.length ≤ 100) (K : K) :
    ∀ (c i n : Nat), i + c = L.length → c + 60 ≤ n →
      (∀ j, K (.exit 0) (mkJ 39 [] j) [.bx false [.ro (rowC L), .v (.int .u8 b)], .bx false [.ro (rowC L), .v (.int .u8 b)]] []) →
      loopF (run Go.Proofs.Try.prog E (envL Go.Proofs.Try.prog [31]) n) 0 0 (loopB Go.Proofs.Try.prog 32 0) (mkT 39 [(2, .pt 0 0 0 0 0), (3, .pt 1 0 0 0 0), (5, .v (.int .i64 i))])
        [.bx false [.ro (rowC L), .v (.int .u8 b)], .bx false [.ro (rowC L), .v (.int .u8 b)]] [] K := by
  intro c
  induction c with
  | zero =>
    intro i n hi hn hK
    obtain ⟨n, rfl⟩ : ∃ m, n = m + 60 := ⟨n - 60, by omega⟩
    conv => whnf
    rw [show decide ((i : Int) < ((rowC L).length : Int)) = false by rw [rowC_length]; simp only [decide_eq_false_iff_not]; omega]
    conv => whnf
    exact useJ hK rfl
  | succ c ih =>
    intro i n hi hn hK
    obtain ⟨n, rfl⟩ : ∃ m, n = m + 60 := ⟨n - 60, by omega⟩
    have next := ih (i + 1) (n + 59) (by omega) (by omega) hK
    have hg := rowC_get L i (by omega)
    have hs := sameChoice_pure (L.getD i (ch0 0)) (L.getD i (ch0 0))
    rw [chNum_refl, decide_eq_true rfl] at hs
    generalize L.getD i (ch0 0) = a at hg hs
    conv => whnf
    rw [show decide ((i : Int) < ((rowC L).length : Int)) = true by rw [rowC_length]; simp only [decide_eq_true_eq]; omega]
    conv => whnf
    refine Or.inl ⟨12, by kernel_rfl, ?_⟩
    conv => whnf
    refine ⟨⟨by omega, by rw [rowC_length]; omega⟩, optK_intro _ hg ?_⟩
    conv => whnf
    refine ⟨⟨by omega, by rw [rowC_length]; omega⟩, optK_intro _ hg ?_⟩
    conv => whnf
    refine ⟨_, hs, ?_⟩
    conv => whnf
    rw [show IntKind.i64.wrap ((i : Int) + 1) = ((i + 1 : Nat) : Int) by rw [wrap64 (by omega) (by omega)]; omega]
    refine wk_mask [false, false, true, true, false, true] _ rfl ?_
    exact next
theorem same_refl (L : List Ch) (b : Nat) (hL : L.length ≤ 100) : Pure Go.Proofs.Try.prog 32 [plA L b, plA L b] ⟨.v (.bool true), []⟩ := by
  refine pure_sz pf eqOk_none (env_ok [31] rfl) fun _ => ⟨300, ?_⟩
  conv => whnf
  rw [show (((rowC L).length : Int) != ((rowC L).length : Int)) = false by simp]
  conv => whnf
  rw [show ((b : Int) != (b : Int)) = false by simp]
  conv => whnf
  refine wk_mask [false, false, true, true, false, true] _ rfl ?_
  refine same_loop (fun _ => none) L b hL _ L.length 0 294 (by omega) (by omega) fun j => ?_
  conv => whnf
  left
  conv => whnf
  try rfl
theorem PlanMakes_pure (d r s h hp sp : Int) (p q g kind : Nat) (wp : p < 18446744073709551616) (wq : q < 18446744073709551616) (wg : g < 18446744073709551616) :
    Pure Go.Proofs.Try.prog 5 [needA d r s h hp sp p q g, .v (.int .u8 kind)] ⟨.v (.bool true), []⟩ := by
  refine pure_sz pf eqOk_none (env_ok [25, 26, 27, 28, 29, 30, 31, 32] rfl) fun _ => ⟨60, ?_⟩
  have h1 := Choose_pure d r s h hp sp p q g kind wp wq wg
  have h2 := Choose3_pure d r s h hp sp p q g kind wp wq wg
  have h3 := Make_pure d r s h hp sp p q g wp wq wg
  have h4 := Make3_pure d r s h hp sp p q g wp wq wg
  have h5 := CheckNeed_pure d r s h hp sp p q g
  have h6 := CheckNeed3_pure d r s h hp sp p q g
  have hl : (mkL d r s h hp sp p q g).length ≤ 100 := by
    unfold mkL; split
    · rw [chL_length]; decide
    · decide
  generalize chF d r s h hp sp p q g kind = c at *
  generalize chE d r s h hp sp kind = e1 at *
  generalize mkL d r s h hp sp p q g = L at *
  generalize mkB d r s h hp sp p q g = b at *
  generalize mkE d r s h hp sp = e2 at *
  generalize (if needB d r s h hp sp = true then (0 : Int) else 2) = e3 at *
  have h7 := sameChoice_pure c c
  rw [chNum_refl, decide_eq_true rfl] at h7
  have h8 := same_refl L b hl
  conv => whnf
  refine ⟨_, h1, ?_⟩
  conv => whnf
  refine ⟨_, h2, ?_⟩
  conv => whnf
  refine ⟨_, h3, ?_⟩
  conv => whnf
  refine ⟨_, h4, ?_⟩
  conv => whnf
  refine Or.inl ⟨26, by kernel_rfl, ?_⟩
  conv => whnf
  refine ⟨_, h5, ?_⟩
  conv => whnf
  refine ⟨_, h6, ?_⟩
  conv => whnf
  rw [show (e3 == e3) = true by simp]
  conv => whnf
  refine ⟨_, h7, ?_⟩
  conv => whnf
  rw [show (e1 == e1) = true by simp]
  conv => whnf
  refine ⟨_, h8, ?_⟩
  conv => whnf
  rw [show (e2 == e2) = true by simp]
  conv => whnf
  left
  conv => whnf
  try rfl
end Go.YtoeophdffhmpmaaE
end
