/- The functions of the seat's program, one by one: what each comes to. -/
import Derived.Test.YtoeophdffhmpmaaE29
import Derived.Test.YtoeophdffhmpmaaProg
set_option linter.unusedVariables false
set_option linter.unusedSimpArgs false
set_option maxRecDepth 100000
namespace Go.YtoeophdffhmpmaaE
open Go Go.RowKit

theorem pf : PF Go.Proofs.Try.prog where
  num := by
    have h : Go.Proofs.Try.prog.funcs.all (fun fn => !(fn.name == "runtime.NumGoroutine")) = true := by kernel_rfl
    intro f fn hf
    rw [Array.all_eq_true] at h
    obtain ⟨h1, h2⟩ := Array.getElem?_eq_some_iff.1 hf
    have := h f h1
    rw [h2] at this
    simpa using this
  mix := by kernel_rfl
theorem env_ok (L : List Nat) (hL : (L.all fun f => ((Go.Proofs.Try.prog.funcs[f]?).bind (·.body)).isSome) = true) : EnvOk Go.Proofs.Try.prog (envL Go.Proofs.Try.prog L) :=
  envL_ok pf (fun f hf => List.all_eq_true.1 hL f hf)

/-! ### headendref03.SameInts -/
theorem sameInts_loop (E : EqT) (env : Env) (xs ys : List Int) (hl : xs.length = ys.length) (hm : xs.length ≤ maxLen) (K : K) :
    ∀ (d i n : Nat), i + d = xs.length → d + 30 ≤ n → (∀ j, (hj : j < i) → (h1 : j < xs.length) → (h2 : j < ys.length) → xs[j] = ys[j]) →
      (xs ≠ ys → ∀ j, K .ret (mkJ 26 [(4, .v (.bool false))] j) [] []) → (xs = ys → ∀ j, K (.exit 0) (mkJ 26 [] j) [] []) →
      loopF (run Go.Proofs.Try.prog E env n) 0 0 (loopB Go.Proofs.Try.prog 18 0) (mkT 26 [(0, .ro (ints xs)), (1, .ro (ints ys)), (4, .v (.bool false)), (5, .v (.int .i64 i))]) [] [] K := by
  intro d
  induction d with
  | zero =>
    intro i n hi hn heq hf ht
    obtain ⟨n, rfl⟩ : ∃ m, n = m + 30 := ⟨n - 30, by omega⟩
    conv => whnf
    refine cndK_intro (fun h => ?_) (fun h => ?_)
    · simp [ints_length] at h; omega
    · conv => whnf
      exact useJ (ht (List.ext_getElem hl (fun j h1 h2 => heq j (by omega) h1 h2))) rfl
  | succ d ih =>
    intro i n hi hn heq hf ht
    obtain ⟨n, rfl⟩ : ∃ m, n = m + 30 := ⟨n - 30, by omega⟩
    conv => whnf
    refine cndK_intro (fun h => ?_) (fun h => ?_)
    · conv => whnf
      refine Or.inl ⟨8, by kernel_rfl, ?_⟩
      conv => whnf
      have hi2 : i < xs.length := by omega
      refine ⟨⟨by omega, by simp [ints_length]; omega⟩, optK_intro _ (ints_get xs i hi2) ?_⟩
      conv => whnf
      refine ⟨⟨by omega, by simp [ints_length]; omega⟩, optK_intro _ (ints_get ys i (by omega)) ?_⟩
      conv => whnf
      refine cndK_intro (fun h2 => ?_) (fun h2 => ?_)
      · conv => whnf
        exact useJ (hf (fun e => by subst e; simp at h2)) rfl
      · conv => whnf
        have e1 : IntKind.i64.wrap ((i : Int) + 1) = ((i + 1 : Nat) : Int) := by
          simp only [maxLen] at hm
          simp [IntKind.wrap, IntKind.bits, IntKind.signed]
          omega
        refine gc_step ⟨[true, true, false, false, true, true], [], 0⟩ _ _ _ (fun k hk => hk) ?_
        have e2 : ∀ j, (hj : j < i + 1) → (h1 : j < xs.length) → (h2 : j < ys.length) → xs[j] = ys[j] := fun j hj h1 h3 => by
          by_cases hji : j = i
          · subst hji; simpa using h2
          · exact heq j (by omega) h1 h3
        rw [e1]
        exact ih (i + 1) (n + 29) (by omega) (by omega) e2 hf ht
    · simp [ints_length] at h; omega
theorem sameInts (E : EqT) (env : Env) (xs ys : List Int) (hm : xs.length ≤ maxLen) : fnK Go.Proofs.Try.prog E env 18 (xs.length + 60) [.ro (ints xs), .ro (ints ys)] (fun a hp => expK hp a ⟨.v (.bool (decide (xs = ys))), []⟩) := by
  conv => whnf
  refine cndK_intro (fun h => ?_) (fun h => ?_)
  · conv => whnf
    left
    conv => whnf
    have : xs ≠ ys := fun e => by subst e; simp at h
    simp [this]
  · conv => whnf
    refine gc_step ⟨[true, true, false, false, true, true], [], 0⟩ _ _ _ (fun k hk => hk) ?_
    simp only [ints_length, bne_eq_false_iff_eq] at h
    refine sameInts_loop E env xs ys (by omega) hm _ xs.length 0 (xs.length + 54) (by omega) (by omega) (fun j hj => by omega) (fun hne j => ?_) (fun he j => ?_)
    · conv => whnf
      left
      conv => whnf
      simp [hne]
    · conv => whnf
      left
      conv => whnf
      simp [he]

theorem sameInts_pure (xs ys : List Int) : Pure Go.Proofs.Try.prog 18 [.ro (ints xs), .ro (ints ys)] ⟨.v (.bool (decide (xs = ys))), []⟩ :=
  pure_sz pf eqOk_none (env_ok [] rfl) fun h => ⟨_, sameInts _ _ xs ys (by have := (h 0 (by simp)).len; rwa [ints_length] at this)⟩

/-! ### headendref10: small tables -/
theorem states_pure (k : Nat) (hk : k < 4) : Pure Go.Proofs.Try.prog 79 [.v (.int .u8 k)] ⟨.v (.int .i64 ([0, 1, 2, 4].getD k 0)), []⟩ := by
  refine pure_sz pf eqOk_none (env_ok [] rfl) fun _ => ⟨20, ?_⟩
  match k, hk with
  | 0, _ | 1, _ | 2, _ | 3, _ =>
    conv => whnf
    refine ⟨by decide, ?_⟩
    conv => whnf
    left
    conv => whnf
    rfl
theorem more_pure (k : Nat) (hk : k < 4) : Pure Go.Proofs.Try.prog 106 [.v (.int .i64 k)] ⟨.v (.int .i64 (([0, 1, 1, 2] : List Int).getD k 0)), []⟩ := by
  refine pure_sz pf eqOk_none (env_ok [] rfl) fun _ => ⟨20, ?_⟩
  match k, hk with
  | 0, _ | 1, _ | 2, _ | 3, _ =>
    conv => whnf
    refine ⟨by decide, ?_⟩
    conv => whnf
    left
    conv => whnf
    rfl
theorem start_pure (kind state : Nat) (k : Int) (hs : state < 4) (h1 : 0 ≤ k) (h2 : k ≤ 64) :
    Pure Go.Proofs.Try.prog 80 [.v (.int .u8 kind), .v (.int .i64 state), .v (.int .i64 k)] ⟨.v (.int .i64 (if kind = 1 then 1 - k else k * ([0, 1, 1, 2] : List Int).getD state 0)), []⟩ := by
  refine pure_sz pf eqOk_none (env_ok [106] rfl) fun _ => ⟨20, ?_⟩
  conv => whnf
  refine cndK_intro (fun h => ?_) (fun h => ?_)
  · conv => whnf
    left
    conv => whnf
    have hk : kind = 1 := by simp at h; omega
    rw [wrap64 (by omega) (by omega), if_pos hk]
  · conv => whnf
    refine ⟨_, more_pure state hs, ?_⟩
    conv => whnf
    left
    conv => whnf
    have hk : ¬ kind = 1 := fun e => by subst e; simp at h
    have hb : 0 ≤ k * ([0, 1, 1, 2] : List Int).getD state 0 ∧ k * ([0, 1, 1, 2] : List Int).getD state 0 ≤ 128 := by
      match state, hs with
      | 0, _ | 1, _ | 2, _ | 3, _ => constructor <;> simp <;> omega
    rw [wrap64 (by omega) (by omega), if_neg hk]

theorem receivers_pure (d : Nat) (hd : d ≤ 6) : Pure Go.Proofs.Try.prog 77 [.v (.int .i64 d)] ⟨.v (.int .i64 (2 ^ d : Nat)), []⟩ := by
  refine pure_sz pf eqOk_none (env_ok [] rfl) fun _ => ⟨60, ?_⟩
  match d, hd with
  | 0, _ | 1, _ | 2, _ | 3, _ | 4, _ | 5, _ | 6, _ =>
    conv => whnf
    repeat (refine wk_none ?_; conv => whnf)
    left
    conv => whnf
    rfl

/-! ### headendref03: schemes -/
theorem eqg : EqOk Go.Proofs.Try.prog (eqL Go.Proofs.Try.prog [24]) := eqL_ok (by
  intro t ht
  simp only [List.mem_singleton] at ht
  subst ht
  exact ⟨by kernel_rfl, rfl, by kernel_rfl⟩)
def scheme (kind : Nat) (depth degree : Int) (p q g : Int) : A := .agg [.v (.int .u8 kind), .v (.int .i64 depth), .v (.int .i64 degree), .v (.int .u64 p), .v (.int .u64 q), .v (.int .u64 g)]
theorem valid3_pure (kind : Nat) (depth degree p q g : Int) :
    Pure Go.Proofs.Try.prog 89 [scheme kind depth degree p q g] ⟨.v (.bool (decide (1 ≤ kind ∧ kind ≤ 3 ∧ 0 ≤ depth ∧ depth ≤ 6 ∧ degree = 0 ∧ p = 0 ∧ q = 0 ∧ g = 0))), []⟩ := by
  refine pure_sz pf eqg (env_ok [] rfl) fun _ => ⟨20, ?_⟩
  conv => whnf
  repeat' (refine cndK_intro (fun h => ?_) (fun h => ?_) <;> (try rw [h]) <;> conv => whnf)
  all_goals
    left
    conv => whnf
    refine congrArg (fun b => (⟨.v (.bool b), []⟩ : Res)) ?_
    rw [Bool.eq_iff_iff]
    simp_all
    try omega

def validB (kind : Nat) (depth degree p q g : Int) : Bool := decide (1 ≤ kind ∧ kind ≤ 3 ∧ 0 ≤ depth ∧ depth ≤ 6 ∧ degree = 0 ∧ p = 0 ∧ q = 0 ∧ g = 0)
theorem check3_pure (kind : Nat) (depth degree p q g : Int) :
    Pure Go.Proofs.Try.prog 49 [scheme kind depth degree p q g] ⟨.v (.int .i64 (if validB kind depth degree p q g = true then 0 else 30)), []⟩ := by
  refine pure_sz pf eqg (env_ok [89] rfl) fun _ => ⟨20, ?_⟩
  conv => whnf
  refine ⟨_, valid3_pure kind depth degree p q g, ?_⟩
  conv => whnf
  refine cndK_intro (fun h => ?_) (fun h => ?_)
  · conv => whnf
    left
    conv => whnf
    have h' : (!validB kind depth degree p q g) = true := h
    have : validB kind depth degree p q g = false := by simpa using h'
    rw [this]; rfl
  · conv => whnf
    left
    conv => whnf
    have h' : (!validB kind depth degree p q g) = false := h
    have : validB kind depth degree p q g = true := by simpa using h'
    rw [this]; rfl

/-- The least number whose square is at least d. -/
def strideN (d : Nat) : Nat := if d ≤ 1 then 1 else if d ≤ 4 then 2 else 3
theorem stride3_pure (d : Nat) (hd : d ≤ 6) : Pure Go.Proofs.Try.prog 132 [.v (.int .i64 d)] ⟨.v (.int .i64 (strideN d)), []⟩ := by
  refine pure_sz pf eqOk_none (env_ok [] rfl) fun _ => ⟨60, ?_⟩
  match d, hd with
  | 0, _ | 1, _ | 2, _ | 3, _ | 4, _ | 5, _ | 6, _ =>
    conv => whnf
    repeat (refine wk_none ?_; conv => whnf)
    left
    conv => whnf
    rfl
theorem stride_pure (d : Nat) (hd : d ≤ 6) : Pure Go.Proofs.Try.prog 86 [.v (.int .i64 d)] ⟨.v (.int .i64 (strideN d)), []⟩ := by
  refine pure_sz pf eqOk_none (env_ok [] rfl) fun _ => ⟨60, ?_⟩
  match d, hd with
  | 0, _ | 1, _ | 2, _ | 3, _ | 4, _ | 5, _ | 6, _ =>
    conv => whnf
    repeat (refine wk_none ?_; conv => whnf)
    left
    conv => whnf
    rfl

/-! ### Tables as they stand in memory -/
def nest2 (L : List (List Int)) : List (List A) := L.map fun xs => [.ro (ints xs)]
def nest3 (T : List (List (List Int))) : List (List A) := T.map fun L => [.ro (nest2 L)]
theorem nest2_get (L : List (List Int)) (i : Nat) (h : i < L.length) : (nest2 L)[i]? = some [.ro (ints L[i])] := by simp [nest2, h]
theorem nest3_get (T : List (List (List Int))) (i : Nat) (h : i < T.length) : (nest3 T)[i]? = some [.ro (nest2 T[i])] := by simp [nest3, h]
theorem nest2_length (L : List (List Int)) : (nest2 L).length = L.length := by simp [nest2]
theorem nest3_length (T : List (List (List Int))) : (nest3 T).length = T.length := by simp [nest3]

end Go.YtoeophdffhmpmaaE
