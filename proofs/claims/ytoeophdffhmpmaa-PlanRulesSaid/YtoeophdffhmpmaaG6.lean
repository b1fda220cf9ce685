/- N2: Groups: number.prime, power, CheckGroup; headendref01.IsPrime, Power, ValidGroup. N3: poly.valid, Check; headendref04.Valid. -/
import Derived.WalkSmall
import Derived.Test.YtoeophdffhmpmaaG5

section
set_option linter.unusedVariables false
set_option linter.unusedSimpArgs false
set_option maxRecDepth 100000
set_option maxHeartbeats 1000000
namespace Go.YtoeophdffhmpmaaE
open Go Go.RowKit

/-- No d from a number on, whose square is at most n, divides n. -/
def primeR (n : Nat) : Nat → Nat → Bool
  | 0, _ => true
  | c + 1, d => if d * d ≤ n then (if n % d = 0 then false else primeR n c (d + 1)) else true
def primeB (n : Nat) : Bool := decide (2 ≤ n ∧ n ≤ 1048575) && primeR n 1098 2
theorem wrapu {n : Nat} (h : n < 18446744073709551616) : IntKind.u64.wrap (n : Int) = (n : Int) := by
  simp [IntKind.wrap, IntKind.bits, IntKind.signed]
  omega
theorem wrapm (a b : Nat) (h : a * b < 18446744073709551616) : IntKind.u64.wrap ((a : Int) * (b : Int)) = ((a * b : Nat) : Int) := by
  rw [← Int.natCast_mul]; exact wrapu h
theorem tmodN (a b : Nat) : ((a : Int)).tmod (b : Int) = ((a % b : Nat) : Int) := rfl
theorem and1 (n : Nat) (h : n < 18446744073709551616) : IntKind.u64.wrap ((BitVec.ofInt IntKind.u64.bits (n : Int) &&& BitVec.ofInt IntKind.u64.bits 1).toNat : Int) = ((n % 2 : Nat) : Int) := by
  have := and_one_u64 (n : Int) (by omega) (by omega)
  have e : ((n % 2 : Nat) : Int) = (n : Int) % 2 := by omega
  rw [e]
  exact this
theorem shr1 (n : Nat) : Int.fdiv (n : Int) (2 ^ min (1 : Int).toNat IntKind.u64.bits) = ((n / 2 : Nat) : Int) := by
  show Int.fdiv (n : Int) 2 = _
  rw [Int.fdiv_eq_ediv_of_nonneg _ (by decide)]
  omega
/-- A power modulo m, by squares. -/
def pwR (m : Nat) : Nat → Nat → Nat → Nat → Nat
  | 0, out, _, _ => out
  | c + 1, out, b, n => if n = 0 then out else pwR m c (if n % 2 = 1 then out * b % m else out) (b * b % m) (n / 2)
def pwN (b n m : Nat) : Nat := pwR m 64 (1 % m) (b % m) n
theorem prime_loop (E : EqT) (n : Nat) (hn : n ≤ 1048575) (K : K) :
    ∀ (c d m : Nat), d + c = 1100 → 2 ≤ d → c + 60 ≤ m →
      (primeR n c d = false → ∀ j, K .ret (mkJ 21 [(2, .v (.bool false))] j) [] []) →
      (primeR n c d = true → ∀ j, K (.exit 0) (mkJ 21 [(0, .v (.int .u64 n))] j) [] []) →
      loopF (run Go.Proofs.Try.prog E (envL Go.Proofs.Try.prog []) m) 0 0 (loopB Go.Proofs.Try.prog 133 0) (mkT 21 [(0, .v (.int .u64 n)), (3, .v (.int .u64 d))]) [] [] K := by
  intro c
  induction c with
  | zero =>
    intro d m hd h2 hm hf ht
    obtain ⟨m, rfl⟩ : ∃ q, m = q + 60 := ⟨m - 60, by omega⟩
    obtain rfl : d = 1100 := by omega
    conv => whnf
    rw [wrapm 1100 1100 (by decide)]
    refine cndK_intro (fun h => ?_) (fun h => ?_)
    · simp only [decide_eq_true_eq] at h; omega
    · conv => whnf
      exact useJ (ht rfl) rfl
  | succ c ih =>
    intro d m hd h2 hm hf ht
    obtain ⟨m, rfl⟩ : ∃ q, m = q + 60 := ⟨m - 60, by omega⟩
    have hdd : d * d ≤ 1100 * 1100 := Nat.mul_le_mul (by omega) (by omega)
    unfold primeR at hf ht
    conv => whnf
    rw [wrapm d d (by omega)]
    refine cndK_intro (fun h => ?_) (fun h => ?_)
    · have h' : d * d ≤ n := by simp only [decide_eq_true_eq] at h; omega
      rw [if_pos h'] at hf ht
      conv => whnf
      refine ⟨by omega, ?_⟩
      conv => whnf
      rw [tmodN]
      refine cndK_intro (fun h3 => ?_) (fun h3 => ?_)
      · have h3' : n % d = 0 := Int.ofNat.inj (show Int.ofNat (n % d) = Int.ofNat 0 from eq_of_beq h3)
        rw [if_pos h3'] at hf
        conv => whnf
        exact useJ (hf rfl) rfl
      · have h3' : ¬ n % d = 0 := fun e => by rw [e] at h3; simp at h3
        rw [if_neg h3'] at hf ht
        conv => whnf
        rw [show IntKind.u64.wrap ((d : Int) + 1) = ((d + 1 : Nat) : Int) from wrapu (n := d + 1) (by omega)]
        refine wk_mask [true, false, false, true] _ rfl ?_
        exact ih (d + 1) (m + 59) (by omega) (by omega) (by omega) hf ht
    · have h' : ¬ d * d ≤ n := by simp only [decide_eq_false_iff_not] at h; omega
      rw [if_neg h'] at ht
      conv => whnf
      exact useJ (ht rfl) rfl
theorem isprime_loop (E : EqT) (n : Nat) (hn : n ≤ 1048575) (K : K) :
    ∀ (c d m : Nat), d + c = 1100 → 2 ≤ d → c + 60 ≤ m →
      (primeR n c d = false → ∀ j, K .ret (mkJ 17 [(2, .v (.bool false))] j) [] []) →
      (primeR n c d = true → ∀ j, K (.exit 0) (mkJ 17 [(0, .v (.int .u64 n))] j) [] []) →
      loopF (run Go.Proofs.Try.prog E (envL Go.Proofs.Try.prog []) m) 0 0 (loopB Go.Proofs.Try.prog 135 0) (mkT 17 [(0, .v (.int .u64 n)), (3, .v (.int .u64 d))]) [] [] K := by
  intro c
  induction c with
  | zero =>
    intro d m hd h2 hm hf ht
    obtain ⟨m, rfl⟩ : ∃ q, m = q + 60 := ⟨m - 60, by omega⟩
    obtain rfl : d = 1100 := by omega
    conv => whnf
    rw [wrapm 1100 1100 (by decide)]
    refine cndK_intro (fun h => ?_) (fun h => ?_)
    · simp only [decide_eq_true_eq] at h; omega
    · conv => whnf
      exact useJ (ht rfl) rfl
  | succ c ih =>
    intro d m hd h2 hm hf ht
    obtain ⟨m, rfl⟩ : ∃ q, m = q + 60 := ⟨m - 60, by omega⟩
    have hdd : d * d ≤ 1100 * 1100 := Nat.mul_le_mul (by omega) (by omega)
    unfold primeR at hf ht
    conv => whnf
    rw [wrapm d d (by omega)]
    refine cndK_intro (fun h => ?_) (fun h => ?_)
    · have h' : d * d ≤ n := by simp only [decide_eq_true_eq] at h; omega
      rw [if_pos h'] at hf ht
      conv => whnf
      refine ⟨by omega, ?_⟩
      conv => whnf
      rw [tmodN]
      refine cndK_intro (fun h3 => ?_) (fun h3 => ?_)
      · have h3' : n % d = 0 := Int.ofNat.inj (show Int.ofNat (n % d) = Int.ofNat 0 from eq_of_beq h3)
        rw [if_pos h3'] at hf
        conv => whnf
        exact useJ (hf rfl) rfl
      · have h3' : ¬ n % d = 0 := fun e => by rw [e] at h3; simp at h3
        rw [if_neg h3'] at hf ht
        conv => whnf
        rw [show IntKind.u64.wrap ((d : Int) + 1) = ((d + 1 : Nat) : Int) from wrapu (n := d + 1) (by omega)]
        refine wk_mask [true, false, false, true] _ rfl ?_
        exact ih (d + 1) (m + 59) (by omega) (by omega) (by omega) hf ht
    · have h' : ¬ d * d ≤ n := by simp only [decide_eq_false_iff_not] at h; omega
      rw [if_neg h'] at ht
      conv => whnf
      exact useJ (ht rfl) rfl
theorem prime_pure (n : Nat) (h : n < 18446744073709551616) : Pure Go.Proofs.Try.prog 133 [.v (.int .u64 n)] ⟨.v (.bool (primeB n)), []⟩ := by
  refine pure_sz pf eqOk_none (env_ok [] rfl) fun _ => ⟨1300, ?_⟩
  conv => whnf
  refine cndK_intro (fun h1 => ?_) (fun h1 => ?_)
  · rw [h1]
    conv => whnf
    left
    conv => whnf
    have : primeB n = false := by unfold primeB; simp at h1 ⊢; omega
    rw [this]
  · rw [h1]
    conv => whnf
    refine cndK_intro (fun h2 => ?_) (fun h2 => ?_)
    · conv => whnf
      left
      conv => whnf
      have : primeB n = false := by unfold primeB; simp at h2 ⊢; omega
      rw [this]
    · conv => whnf
      have hn : 2 ≤ n ∧ n ≤ 1048575 := by simp at h1 h2; omega
      have e : primeB n = primeR n 1098 2 := by unfold primeB; simp [hn]
      rw [e]
      refine wk_mask [true, false, false, true] _ rfl ?_
      refine prime_loop (fun _ => none) n hn.2 _ 1098 2 1294 (by omega) (by omega) (by omega) (fun hp j => ?_) (fun hp j => ?_)
      · rw [hp]
        conv => whnf
        left
        conv => whnf
        try rfl
      · rw [hp]
        conv => whnf
        left
        conv => whnf
        try rfl
theorem isPrime_pure (n : Nat) (h : n ≤ 1048575) : Pure Go.Proofs.Try.prog 135 [.v (.int .u64 n)] ⟨.v (.bool (primeB n)), []⟩ := by
  refine pure_sz pf eqOk_none (env_ok [] rfl) fun _ => ⟨1300, ?_⟩
  conv => whnf
  refine wk_mask [true, false, false, true] _ rfl ?_
  have e : primeB n = (decide (2 ≤ n) && primeR n 1098 2) := by unfold primeB; simp [h]
  rw [e]
  refine isprime_loop (fun _ => none) n h _ 1098 2 1295 (by omega) (by omega) (by omega) (fun hp j => ?_) (fun hp j => ?_)
  · rw [hp, Bool.and_false]
    conv => whnf
    left
    conv => whnf
    try rfl
  · rw [hp, Bool.and_true]
    conv => whnf
    left
    conv => whnf
    refine congrArg (fun b => (⟨.v (.bool b), []⟩ : Res)) ?_
    rw [Bool.eq_iff_iff]
    simp
    omega
theorem power_loop (E : EqT) (m : Nat) (hm : m ≤ 1048575) (h1 : 1 ≤ m) (K : K) :
    ∀ (c o b n q : Nat), n < 2 ^ c → c ≤ 64 → o < m → b < m → n < 18446744073709551616 → c + 60 ≤ q →
      (∀ j, K (.exit 0) (mkJ 31 [(7, .v (.int .u64 (pwR m c o b n : Nat)))] j) [] []) →
      loopF (run Go.Proofs.Try.prog E (envL Go.Proofs.Try.prog []) q) 0 0 (loopB Go.Proofs.Try.prog 134 0) (mkT 31 [(0, .v (.int .u64 b)), (1, .v (.int .u64 n)), (2, .v (.int .u64 m)), (7, .v (.int .u64 o))]) [] [] K := by
  intro c
  induction c with
  | zero =>
    intro o b n q hn hc ho hb hw hq hK
    obtain ⟨q, rfl⟩ : ∃ r, q = r + 60 := ⟨q - 60, by omega⟩
    obtain rfl : n = 0 := by simpa using hn
    conv => whnf
    exact useJ hK rfl
  | succ c ih =>
    intro o b n q hn hc ho hb hw hq hK
    obtain ⟨q, rfl⟩ : ∃ r, q = r + 60 := ⟨q - 60, by omega⟩
    have hob : o * b ≤ 1048575 * 1048575 := Nat.mul_le_mul (by omega) (by omega)
    have hbb : b * b ≤ 1048575 * 1048575 := Nat.mul_le_mul (by omega) (by omega)
    have hn2 : n / 2 < 2 ^ c := by rw [Nat.pow_succ] at hn; omega
    have hbm : b * b % m < m := Nat.mod_lt _ (by omega)
    have hom : o * b % m < m := Nat.mod_lt _ (by omega)
    unfold pwR at hK
    conv => whnf
    refine cndK_intro (fun h => ?_) (fun h => ?_)
    · have h' : ¬ n = 0 := by simp only [decide_eq_true_eq] at h; omega
      rw [if_neg h'] at hK
      conv => whnf
      rw [and1 n hw]
      refine cndK_intro (fun h3 => ?_) (fun h3 => ?_)
      · have h3' : n % 2 = 1 := by have := eq_of_beq h3; omega
        rw [if_pos h3'] at hK
        conv => whnf
        rw [wrapm o b (by omega)]
        refine ⟨by omega, ?_⟩
        conv => whnf
        rw [tmodN]
        rw [wrapm b b (by omega)]
        refine ⟨by omega, ?_⟩
        conv => whnf
        rw [tmodN]
        refine ⟨by decide, ?_⟩
        conv => whnf
        rw [shr1]
        refine wk_mask [true, true, true, false, false, false, false, true] _ rfl ?_
        exact ih _ _ _ (q + 59) hn2 (by omega) hom hbm (by omega) (by omega) hK
      · have h3' : ¬ n % 2 = 1 := by intro e; rw [e] at h3; simp at h3
        rw [if_neg h3'] at hK
        conv => whnf
        rw [wrapm b b (by omega)]
        refine ⟨by omega, ?_⟩
        conv => whnf
        rw [tmodN]
        refine ⟨by decide, ?_⟩
        conv => whnf
        rw [shr1]
        refine wk_mask [true, true, true, false, false, false, false, true] _ rfl ?_
        exact ih _ _ _ (q + 59) hn2 (by omega) ho hbm (by omega) (by omega) hK
    · have h' : n = 0 := by simp only [decide_eq_false_iff_not] at h; omega
      rw [if_pos h'] at hK
      conv => whnf
      exact useJ hK rfl
theorem power1_loop (E : EqT) (m : Nat) (hm : m ≤ 1048575) (h1 : 1 ≤ m) (K : K) :
    ∀ (c o b n q : Nat), n < 2 ^ c → c ≤ 64 → o < m → b < m → n < 18446744073709551616 → c + 60 ≤ q →
      (∀ j, K (.exit 0) (mkJ 32 [(7, .v (.int .u64 (pwR m c o b n : Nat)))] j) [] []) →
      loopF (run Go.Proofs.Try.prog E (envL Go.Proofs.Try.prog []) q) 0 0 (loopB Go.Proofs.Try.prog 136 0) (mkT 32 [(1, .v (.int .u64 n)), (2, .v (.int .u64 m)), (7, .v (.int .u64 o)), (8, .v (.int .u64 b))]) [] [] K := by
  intro c
  induction c with
  | zero =>
    intro o b n q hn hc ho hb hw hq hK
    obtain ⟨q, rfl⟩ : ∃ r, q = r + 60 := ⟨q - 60, by omega⟩
    obtain rfl : n = 0 := by simpa using hn
    conv => whnf
    exact useJ hK rfl
  | succ c ih =>
    intro o b n q hn hc ho hb hw hq hK
    obtain ⟨q, rfl⟩ : ∃ r, q = r + 60 := ⟨q - 60, by omega⟩
    have hob : o * b ≤ 1048575 * 1048575 := Nat.mul_le_mul (by omega) (by omega)
    have hbb : b * b ≤ 1048575 * 1048575 := Nat.mul_le_mul (by omega) (by omega)
    have hn2 : n / 2 < 2 ^ c := by rw [Nat.pow_succ] at hn; omega
    have hbm : b * b % m < m := Nat.mod_lt _ (by omega)
    have hom : o * b % m < m := Nat.mod_lt _ (by omega)
    unfold pwR at hK
    conv => whnf
    refine cndK_intro (fun h => ?_) (fun h => ?_)
    · have h' : ¬ n = 0 := by simp only [decide_eq_true_eq] at h; omega
      rw [if_neg h'] at hK
      conv => whnf
      refine ⟨by decide, ?_⟩
      conv => whnf
      rw [show ((n : Int)).tmod 2 = ((n % 2 : Nat) : Int) from rfl]
      refine cndK_intro (fun h3 => ?_) (fun h3 => ?_)
      · have h3' : n % 2 = 1 := by have := eq_of_beq h3; omega
        rw [if_pos h3'] at hK
        conv => whnf
        rw [wrapm o b (by omega)]
        refine ⟨by omega, ?_⟩
        conv => whnf
        rw [tmodN]
        rw [wrapm b b (by omega)]
        refine ⟨by omega, ?_⟩
        conv => whnf
        rw [tmodN]
        refine ⟨by decide, ?_⟩
        conv => whnf
        rw [show IntKind.u64.wrap (((n : Int)).tdiv 2) = ((n / 2 : Nat) : Int) from wrapu (n := n / 2) (by omega)]
        refine wk_mask [false, true, true, false, false, false, false, true, true] _ rfl ?_
        exact ih _ _ _ (q + 59) hn2 (by omega) hom hbm (by omega) (by omega) hK
      · have h3' : ¬ n % 2 = 1 := by intro e; rw [e] at h3; simp at h3
        rw [if_neg h3'] at hK
        conv => whnf
        rw [wrapm b b (by omega)]
        refine ⟨by omega, ?_⟩
        conv => whnf
        rw [tmodN]
        refine ⟨by decide, ?_⟩
        conv => whnf
        rw [show IntKind.u64.wrap (((n : Int)).tdiv 2) = ((n / 2 : Nat) : Int) from wrapu (n := n / 2) (by omega)]
        refine wk_mask [false, true, true, false, false, false, false, true, true] _ rfl ?_
        exact ih _ _ _ (q + 59) hn2 (by omega) ho hbm (by omega) (by omega) hK
    · have h' : n = 0 := by simp only [decide_eq_false_iff_not] at h; omega
      rw [if_pos h'] at hK
      conv => whnf
      exact useJ hK rfl
theorem power_pure (b n m : Nat) (hb : b < 18446744073709551616) (hn : n < 18446744073709551616) (h1 : 2 ≤ m) (hm : m ≤ 1048575) : Pure Go.Proofs.Try.prog 134 [.v (.int .u64 b), .v (.int .u64 n), .v (.int .u64 m)] ⟨.v (.int .u64 (pwN b n m : Nat)), []⟩ := by
  refine pure_sz pf eqOk_none (env_ok [] rfl) fun _ => ⟨300, ?_⟩
  conv => whnf
  refine ⟨by omega, ?_⟩
  conv => whnf
  refine ⟨by omega, ?_⟩
  conv => whnf
  rw [show (1 : Int).tmod (m : Int) = ((1 % m : Nat) : Int) from rfl, tmodN b m]
  refine wk_mask [true, true, true, false, false, false, false, true] _ rfl ?_
  refine power_loop (fun _ => none) m hm (by omega) _ 64 _ _ _ 294 (by omega) (by omega) (Nat.mod_lt _ (by omega)) (Nat.mod_lt _ (by omega)) hn (by omega) fun j => ?_
  conv => whnf
  left
  conv => whnf
  try rfl
theorem power1_pure (b n m : Nat) (hb : b < 18446744073709551616) (hn : n < 18446744073709551616) (h1 : 2 ≤ m) (hm : m ≤ 1048575) : Pure Go.Proofs.Try.prog 136 [.v (.int .u64 b), .v (.int .u64 n), .v (.int .u64 m)] ⟨.v (.int .u64 (pwN b n m : Nat)), []⟩ := by
  refine pure_sz pf eqOk_none (env_ok [] rfl) fun _ => ⟨300, ?_⟩
  conv => whnf
  refine ⟨by omega, ?_⟩
  conv => whnf
  refine ⟨by omega, ?_⟩
  conv => whnf
  rw [show (1 : Int).tmod (m : Int) = ((1 % m : Nat) : Int) from rfl, tmodN b m]
  refine wk_mask [false, true, true, false, false, false, false, true, true] _ rfl ?_
  refine power1_loop (fun _ => none) m hm (by omega) _ 64 _ _ _ 294 (by omega) (by omega) (Nat.mod_lt _ (by omega)) (Nat.mod_lt _ (by omega)) hn (by omega) fun j => ?_
  conv => whnf
  left
  conv => whnf
  try rfl
def grpB (p q g : Nat) : Bool := primeB p && primeB q && decide ((p - 1) % q = 0) && decide (2 ≤ g ∧ g < p) && decide (pwN g q p = 1)
theorem primeB_le {n : Nat} (h : primeB n = true) : 2 ≤ n ∧ n ≤ 1048575 := by
  unfold primeB at h; rw [Bool.and_eq_true, decide_eq_true_eq] at h; exact h.1
theorem sub1 {n : Nat} (h : 1 ≤ n) (h2 : n < 18446744073709551616) : IntKind.u64.wrap ((n : Int) - 1) = ((n - 1 : Nat) : Int) := by
  rw [show (n : Int) - 1 = ((n - 1 : Nat) : Int) by omega]; exact wrapu (by omega)
theorem CheckGroup_pure (p q g : Nat) (hp : p < 18446744073709551616) (hq : q < 18446744073709551616) (hg : g < 18446744073709551616) :
    Pure Go.Proofs.Try.prog 112 [.agg [.v (.int .u64 p), .v (.int .u64 q), .v (.int .u64 g)]] ⟨.v (.int .i64 (if grpB p q g = true then 0 else 13)), []⟩ := by
  refine pure_sz pf eqOk_none (env_ok [133, 134] rfl) fun _ => ⟨60, ?_⟩
  have h1 := prime_pure p hp
  have h2 := prime_pure q hq
  cases b1 : primeB p with
  | false =>
    rw [b1] at h1
    rw [show grpB p q g = false by simp [grpB, b1]]
    conv => whnf
    refine ⟨_, h1, ?_⟩
    conv => whnf
    left
    conv => whnf
    try rfl
  | true =>
    rw [b1] at h1
    cases b2 : primeB q with
    | false =>
      rw [b2] at h2
      rw [show grpB p q g = false by simp [grpB, b2]]
      conv => whnf
      refine ⟨_, h1, ?_⟩
      conv => whnf
      refine ⟨_, h2, ?_⟩
      conv => whnf
      left
      conv => whnf
      try rfl
    | true =>
      rw [b2] at h2
      have l1 := primeB_le b1
      have l2 := primeB_le b2
      have h3 := power_pure g q p hg hq l1.1 l1.2
      conv => whnf
      refine ⟨_, h1, ?_⟩
      conv => whnf
      refine ⟨_, h2, ?_⟩
      conv => whnf
      rw [sub1 (by omega) hp]
      refine ⟨by omega, ?_⟩
      conv => whnf
      rw [tmodN]
      refine cndK_intro (fun c1 => ?_) (fun c1 => ?_)
      · have e : grpB p q g = false := by
          have : ¬ (p - 1) % q = 0 := fun e => by rw [e] at c1; simp at c1
          simp [grpB, this]
        rw [e, c1]
        conv => whnf
        left
        conv => whnf
        try rfl
      · have m1 : (p - 1) % q = 0 := by
          have : ¬ ((((p - 1) % q : Nat) : Int) ≠ 0) := fun e => by rw [bne_iff_ne.2 e] at c1; cases c1
          omega
        rw [c1]
        conv => whnf
        refine cndK_intro (fun c2 => ?_) (fun c2 => ?_)
        · have e : grpB p q g = false := by
            have : ¬ 2 ≤ g := by simp only [decide_eq_true_eq] at c2; omega
            simp [grpB, this]
          rw [e, c2]
          conv => whnf
          left
          conv => whnf
          try rfl
        · rw [c2]
          conv => whnf
          refine cndK_intro (fun c3 => ?_) (fun c3 => ?_)
          · have e : grpB p q g = false := by
              have : ¬ g < p := by simp only [ge_iff_le, decide_eq_true_eq] at c3; omega
              simp [grpB, this]
            rw [e, c3]
            conv => whnf
            left
            conv => whnf
            try rfl
          · rw [c3]
            conv => whnf
            refine ⟨_, h3, ?_⟩
            conv => whnf
            have m2 : 2 ≤ g ∧ g < p := by simp only [ge_iff_le, decide_eq_false_iff_not] at c2 c3; omega
            refine cndK_intro (fun c4 => ?_) (fun c4 => ?_)
            · have e : grpB p q g = false := by
                have : ¬ pwN g q p = 1 := fun e => by rw [e] at c4; simp at c4
                simp [grpB, this]
              rw [e]
              conv => whnf
              left
              conv => whnf
              try rfl
            · have e : grpB p q g = true := by
                have : pwN g q p = 1 := by
                  have : ¬ (((pwN g q p : Nat) : Int) ≠ 1) := fun e => by rw [bne_iff_ne.2 e] at c4; cases c4
                  omega
                simp [grpB, b1, b2, m1, m2, this]
              rw [e]
              conv => whnf
              left
              conv => whnf
              try rfl
theorem ValidGroup_pure (p q g : Nat) (hp : p < 18446744073709551616) (hq : q < 18446744073709551616) (hg : g < 18446744073709551616) :
    Pure Go.Proofs.Try.prog 115 [.agg [.v (.int .u64 p), .v (.int .u64 q), .v (.int .u64 g)]] ⟨.v (.bool (grpB p q g)), []⟩ := by
  refine pure_sz pf eqOk_none (env_ok [135, 136] rfl) fun _ => ⟨60, ?_⟩
  by_cases k1 : p ≤ 1048575
  · have d1 : decide ((p : Int) > 1048575) = false := by simp only [decide_eq_false_iff_not]; omega
    have h1 := isPrime_pure p k1
    cases b1 : primeB p with
    | false =>
      rw [b1] at h1
      rw [show grpB p q g = false by simp [grpB, b1]]
      conv => whnf
      rw [d1]
      conv => whnf
      refine ⟨_, h1, ?_⟩
      conv => whnf
      left
      conv => whnf
      try rfl
    | true =>
      rw [b1] at h1
      have l1 := primeB_le b1
      by_cases k2 : q ≤ 1048575
      · have d2 : decide ((q : Int) > 1048575) = false := by simp only [decide_eq_false_iff_not]; omega
        have h2 := isPrime_pure q k2
        cases b2 : primeB q with
        | false =>
          rw [b2] at h2
          rw [show grpB p q g = false by simp [grpB, b2]]
          conv => whnf
          rw [d1]
          conv => whnf
          refine ⟨_, h1, ?_⟩
          conv => whnf
          rw [d2]
          conv => whnf
          refine ⟨_, h2, ?_⟩
          conv => whnf
          left
          conv => whnf
          try rfl
        | true =>
          rw [b2] at h2
          have l2 := primeB_le b2
          have h3 := power1_pure g q p hg hq l1.1 l1.2
          conv => whnf
          rw [d1]
          conv => whnf
          refine ⟨_, h1, ?_⟩
          conv => whnf
          rw [d2]
          conv => whnf
          refine ⟨_, h2, ?_⟩
          conv => whnf
          rw [sub1 (by omega) hp]
          refine ⟨by omega, ?_⟩
          conv => whnf
          rw [tmodN]
          refine cndK_intro (fun c1 => ?_) (fun c1 => ?_)
          · have e : grpB p q g = false := by
              have : ¬ (p - 1) % q = 0 := fun e => by rw [e] at c1; simp at c1
              simp [grpB, this]
            rw [e]
            conv => whnf
            left
            conv => whnf
            try rfl
          · have m1 : (p - 1) % q = 0 := by
              have : ¬ ((((p - 1) % q : Nat) : Int) ≠ 0) := fun e => by rw [bne_iff_ne.2 e] at c1; cases c1
              omega
            conv => whnf
            refine cndK_intro (fun c2 => ?_) (fun c2 => ?_)
            · rw [c2]
              conv => whnf
              refine cndK_intro (fun c3 => ?_) (fun c3 => ?_)
              · rw [c3]
                conv => whnf
                refine ⟨_, h3, ?_⟩
                conv => whnf
                left
                conv => whnf
                have m2 : 2 ≤ g ∧ g < p := by simp only [ge_iff_le, decide_eq_true_eq] at c2 c3; omega
                refine congrArg (fun b => (⟨.v (.bool b), []⟩ : Res)) ?_
                rw [Bool.eq_iff_iff]
                simp [grpB, b1, b2, m1, m2]
                omega
              · have e : grpB p q g = false := by
                  have : ¬ g < p := by simp only [decide_eq_false_iff_not] at c3; omega
                  simp [grpB, this]
                rw [e, c3]
                conv => whnf
                left
                conv => whnf
                try rfl
            · have e : grpB p q g = false := by
                have : ¬ 2 ≤ g := by simp only [ge_iff_le, decide_eq_false_iff_not] at c2; omega
                simp [grpB, this]
              rw [e, c2]
              conv => whnf
              left
              conv => whnf
              try rfl
      · have d2 : decide ((q : Int) > 1048575) = true := by simp only [decide_eq_true_eq]; omega
        have e : grpB p q g = false := by simp [grpB, primeB, k2]
        rw [e]
        conv => whnf
        rw [d1]
        conv => whnf
        refine ⟨_, h1, ?_⟩
        conv => whnf
        rw [d2]
        conv => whnf
        left
        conv => whnf
        try rfl
  · have d1 : decide ((p : Int) > 1048575) = true := by simp only [decide_eq_true_eq]; omega
    have e : grpB p q g = false := by simp [grpB, primeB, k1]
    rw [e]
    conv => whnf
    rw [d1]
    conv => whnf
    left
    conv => whnf
    try rfl
end Go.YtoeophdffhmpmaaE
end

section
set_option linter.unusedVariables false
set_option linter.unusedSimpArgs false
set_option maxRecDepth 100000
set_option maxHeartbeats 1000000
namespace Go.YtoeophdffhmpmaaE
open Go Go.RowKit

def val4 (kind : Nat) (d e : Int) (p q g : Nat) : Bool := decide (kind = 4 ∧ 0 ≤ d ∧ d ≤ 6 ∧ 1 ≤ e ∧ e ≤ 8) && (grpB p q g && decide (((2 ^ d.toNat : Nat) : Int) + e < (q : Int)))
theorem val4_no {kind : Nat} {d e : Int} {p q g : Nat} (h : ¬ (kind = 4 ∧ 0 ≤ d ∧ d ≤ 6 ∧ 1 ≤ e ∧ e ≤ 8)) : val4 kind d e p q g = false := by
  unfold val4; rw [show decide (kind = 4 ∧ 0 ≤ d ∧ d ≤ 6 ∧ 1 ≤ e ∧ e ≤ 8) = false from by simpa using h]; rfl
theorem val4_yes {d e : Int} {p q g : Nat} (h : 0 ≤ d ∧ d ≤ 6 ∧ 1 ≤ e ∧ e ≤ 8) : val4 4 d e p q g = (grpB p q g && decide (((2 ^ d.toNat : Nat) : Int) + e < (q : Int))) := by
  unfold val4; rw [show decide (4 = 4 ∧ 0 ≤ d ∧ d ≤ 6 ∧ 1 ≤ e ∧ e ≤ 8) = true from by simpa using h]; rfl
theorem sumw (d : Nat) (e : Int) (hd : d ≤ 6) (he : 1 ≤ e ∧ e ≤ 8) : IntKind.u64.wrap (IntKind.i64.wrap (((2 ^ d : Nat) : Int) + e)) = ((2 ^ d : Nat) : Int) + e := by
  have := pow_le6 hd
  generalize (2 ^ d : Nat) = x at this ⊢
  rw [wrap64 (by omega) (by omega)]
  simp [IntKind.wrap, IntKind.bits, IntKind.signed]
  omega
theorem valid_pure (kind : Nat) (d e : Int) (p q g : Nat) (hp : p < 18446744073709551616) (hq : q < 18446744073709551616) (hg : g < 18446744073709551616) :
    Pure Go.Proofs.Try.prog 90 [scheme kind d e p q g] ⟨.v (.bool (val4 kind d e p q g)), []⟩ := by
  refine pure_sz pf eqOk_none (env_ok [112] rfl) fun hz => ⟨60, ?_⟩
  clear hz
  have h1 := CheckGroup_pure p q g hp hq hg
  conv => whnf
  refine Or.inl ⟨43, by kernel_rfl, ?_⟩
  conv => whnf
  refine cndK_intro (fun c0 => ?_) (fun c0 => ?_)
  rotate_left
  · rw [val4_no (fun h => by rw [h.1] at c0; simp at c0), c0]
    conv => whnf
    left
    conv => whnf
    try rfl
  obtain rfl : kind = 4 := by have := eq_of_beq c0; omega
  rw [c0]
  conv => whnf
  refine cndK_intro (fun c1 => ?_) (fun c1 => ?_)
  rotate_left
  · rw [val4_no (fun h => by simp only [ge_iff_le, decide_eq_false_iff_not] at c1; omega), c1]
    conv => whnf
    left
    conv => whnf
    try rfl
  rw [c1]
  conv => whnf
  refine cndK_intro (fun c2 => ?_) (fun c2 => ?_)
  rotate_left
  · rw [val4_no (fun h => by simp only [ge_iff_le, decide_eq_false_iff_not] at c2; omega), c2]
    conv => whnf
    left
    conv => whnf
    try rfl
  rw [c2]
  conv => whnf
  refine cndK_intro (fun c3 => ?_) (fun c3 => ?_)
  rotate_left
  · rw [val4_no (fun h => by simp only [ge_iff_le, decide_eq_false_iff_not] at c3; omega), c3]
    conv => whnf
    left
    conv => whnf
    try rfl
  rw [c3]
  conv => whnf
  refine cndK_intro (fun c4 => ?_) (fun c4 => ?_)
  rotate_left
  · rw [val4_no (fun h => by simp only [ge_iff_le, decide_eq_false_iff_not] at c4; omega), c4]
    conv => whnf
    left
    conv => whnf
    try rfl
  rw [c4]
  simp only [ge_iff_le, decide_eq_true_eq] at c1 c2 c3 c4
  rw [val4_yes ⟨c1, c2, c3, c4⟩]
  obtain ⟨d, rfl⟩ : ∃ k : Nat, d = k := ⟨d.toNat, by omega⟩
  conv => whnf
  refine ⟨_, h1, ?_⟩
  cases hb : grpB p q g with
  | false =>
    conv => whnf
    left
    conv => whnf
    try rfl
  | true =>
    conv => whnf
    refine ⟨by omega, ?_⟩
    conv => whnf
    rw [shl1 (h := d) (by omega)]
    rw [sumw d e (by omega) ⟨c3, c4⟩]
    left
    conv => whnf
    refine congrArg (fun b => (⟨.v (.bool b), []⟩ : Res)) ?_
    rw [Bool.true_and, Int.toNat_natCast, Bool.eq_iff_iff]
theorem polyCheck_pure (kind : Nat) (d e : Int) (p q g : Nat) (hp : p < 18446744073709551616) (hq : q < 18446744073709551616) (hg : g < 18446744073709551616) :
    Pure Go.Proofs.Try.prog 54 [scheme kind d e p q g] ⟨.v (.int .i64 (if val4 kind d e p q g = true then 0 else 30)), []⟩ := by
  refine pure_sz pf eqOk_none (env_ok [90] rfl) fun _ => ⟨60, ?_⟩
  have h1 := valid_pure kind d e p q g hp hq hg
  cases hb : val4 kind d e p q g with
  | true =>
    rw [hb] at h1
    conv => whnf
    refine ⟨_, h1, ?_⟩
    conv => whnf
    left
    conv => whnf
    try rfl
  | false =>
    rw [hb] at h1
    conv => whnf
    refine ⟨_, h1, ?_⟩
    conv => whnf
    left
    conv => whnf
    try rfl
theorem valid4_pure (kind : Nat) (d e : Int) (p q g : Nat) (hp : p < 18446744073709551616) (hq : q < 18446744073709551616) (hg : g < 18446744073709551616) :
    Pure Go.Proofs.Try.prog 93 [scheme kind d e p q g] ⟨.v (.bool (val4 kind d e p q g)), []⟩ := by
  refine pure_sz pf eqOk_none (env_ok [115, 77] rfl) fun hz => ⟨60, ?_⟩
  clear hz
  have h1 := ValidGroup_pure p q g hp hq hg
  conv => whnf
  refine cndK_intro (fun c0 => ?_) (fun c0 => ?_)
  · rw [val4_no (fun h => by rw [h.1] at c0; simp at c0), c0]
    conv => whnf
    left
    conv => whnf
    try rfl
  obtain rfl : kind = 4 := by
    have : ¬ ((kind : Int) ≠ 4) := fun e => by rw [bne_iff_ne.2 e] at c0; cases c0
    omega
  rw [c0]
  conv => whnf
  refine cndK_intro (fun c1 => ?_) (fun c1 => ?_)
  · rw [val4_no (fun h => by simp only [decide_eq_true_eq] at c1; omega), c1]
    conv => whnf
    left
    conv => whnf
    try rfl
  rw [c1]
  conv => whnf
  refine cndK_intro (fun c2 => ?_) (fun c2 => ?_)
  · rw [val4_no (fun h => by simp only [decide_eq_true_eq] at c2; omega), c2]
    conv => whnf
    left
    conv => whnf
    try rfl
  rw [c2]
  conv => whnf
  refine cndK_intro (fun c3 => ?_) (fun c3 => ?_)
  · rw [val4_no (fun h => by simp only [decide_eq_true_eq] at c3; omega), c3]
    conv => whnf
    left
    conv => whnf
    try rfl
  rw [c3]
  conv => whnf
  refine cndK_intro (fun c4 => ?_) (fun c4 => ?_)
  · rw [val4_no (fun h => by simp only [decide_eq_true_eq] at c4; omega), c4]
    conv => whnf
    left
    conv => whnf
    try rfl
  rw [c4]
  simp only [decide_eq_false_iff_not] at c1 c2 c3 c4
  rw [val4_yes ⟨by omega, by omega, by omega, by omega⟩]
  obtain ⟨d, rfl⟩ : ∃ k : Nat, d = k := ⟨d.toNat, by omega⟩
  conv => whnf
  refine ⟨_, h1, ?_⟩
  cases hb : grpB p q g with
  | false =>
    conv => whnf
    left
    conv => whnf
    try rfl
  | true =>
    conv => whnf
    refine Or.inl ⟨12, by kernel_rfl, ?_⟩
    conv => whnf
    refine ⟨_, receivers_pure d (by omega), ?_⟩
    conv => whnf
    rw [sumw d e (by omega) ⟨by omega, by omega⟩]
    left
    conv => whnf
    refine congrArg (fun b => (⟨.v (.bool b), []⟩ : Res)) ?_
    rw [Bool.true_and, Int.toNat_natCast, Bool.eq_iff_iff]
end Go.YtoeophdffhmpmaaE
end
