/- The engine: contracts, in the form in which they are proved. -/
import Derived.Test.YtoeophdffhmpmaaE27
set_option linter.unusedVariables false
set_option linter.unusedSimpArgs false
namespace Go.YtoeophdffhmpmaaE
open Go Go.RowKit

/-- Of a size that memory may hold. -/
inductive Sz : A → Prop
  | v (x) : Sz (.v x)
  | agg (xs) (h : ∀ i, i < xs.length → Sz (xs.getD i .un)) : Sz (.agg xs)
  | tup (xs) (h : ∀ i, i < xs.length → Sz (xs.getD i .un)) : Sz (.tup xs)
  | pt (b ver es i fo) : Sz (.pt b ver es i fo)
  | sl (b ver es i len) : Sz (.sl b ver es i len)
  | ro (els) (hl : els.length ≤ maxLen) (h : ∀ i j, i < els.length → j < (els.getD i []).length → Sz ((els.getD i []).getD j .un)) : Sz (.ro els)
  | rp (cells) (h : ∀ i, i < cells.length → Sz (cells.getD i .un)) : Sz (.rp cells)
  | cz : Sz .cz
  | fn (f fst cap) (h : ∀ i, i < cap.length → Sz (cap.getD i .un)) : Sz (.fn f fst cap)
  | yl (i) : Sz (.yl i)
  | un : Sz .un
theorem VR.sz {g : Gh} {w : World} {h : Hp} {a : A} {x : Value} (r : VR g w h a x) : Sz a := by
  induction r with
  | un x => exact .un
  | v x h1 => exact .v x
  | agg xs vs hl _ ih => exact .agg xs ih
  | tup xs vs hl _ ih => exact .tup xs ih
  | pt b ver es i fo x h1 hb hv he hx => exact .pt ..
  | sl b ver es i len x h1 hb hv he hx => exact .sl ..
  | ro els a cap es blk off vals h0 hes hc _ hn hcap ih => exact .ro els hcap.2 (fun i j hi hj => ih i j hi (by rw [hes _ (getD_mem _ _ _ hi)] at hj; exact hj))
  | rp cells blk off vals hI hc _ hn ih => exact .rp cells ih
  | cz a => exact .cz
  | fn f fst cap fs vs hl0 hl _ _ ih0 ih => exact .fn f fst cap ih
  | yl i l hl => exact .yl i
theorem Sz.len {els : List (List A)} (h : Sz (.ro els)) : els.length ≤ maxLen := by cases h; assumption

variable {P : Program}
/-- Contracts that are known. -/
noncomputable def envL (P : Program) (L : List Nat) : Env := fun f => match memB f L with | true => some (Pure P f) | false => none
theorem envL_ok (pf : PF P) {L : List Nat} (hL : ∀ f ∈ L, ((P.funcs[f]?).bind (·.body)).isSome = true) : EnvOk P (envL P L) := by
  have mem : ∀ f, memB f L = true → f ∈ L := fun f h => by
    induction L with
    | nil => cases h
    | cons g L ih =>
      change (match Nat.beq f g with | true => true | false => memB f L) = true at h
      cases hb : Nat.beq f g with
      | true => rw [Nat.eq_of_beq_eq_true hb]; simp
      | false => rw [hb] at h; exact List.mem_cons_of_mem _ (ih (fun f hf => hL f (List.mem_cons_of_mem _ hf)) h)
  have cs : ∀ f T, envL P L f = some T → f ∈ L ∧ T = Pure P f := fun f T h => by
    unfold envL at h
    cases hm : memB f L with
    | true => rw [hm] at h; exact ⟨mem f hm, (Option.some.inj h).symm⟩
    | false => rw [hm] at h; cases h
  refine ⟨fun f T h => ?_, fun f T h as r hr => by rw [(cs f T h).2] at hr; exact hr⟩
  have h1 := hL f (cs f T h).1
  cases hf : P.funcs[f]? with
  | none => rw [hf] at h1; cases h1
  | some fn =>
    rw [hf] at h1
    cases hb : fn.body with
    | none => simp [hb] at h1
    | some c => exact enters_pf pf hf hb
/-- THE CONTRACT OF A FUNCTION, OUT OF ITS RUN; sizes are as memory has them. -/
theorem pure_sz (pf : PF P) {E : EqT} {env : Env} (hE : EqOk P E) (henv : EnvOk P env) {f : Nat} {as : List A} {r : Res} (hk : (∀ i, i < as.length → Sz (as.getD i .un)) → ∃ n, fnK P E env f n as fun a hp => expK hp a r) : Pure P f as r := by
  intro w I vs hI harel
  obtain ⟨n, hn⟩ := hk (fun i hi => (harel.2 i hi).sz)
  exact pure_of pf hE henv hn w I vs hI harel
theorem eqOk_none : EqOk P (fun _ => none) := fun t cks h => by cases h

/-- Whole numbers in a row. -/
def ints (xs : List Int) : List (List A) := xs.map fun x => [.v (.int .i64 x)]
theorem ints_length (xs : List Int) : (ints xs).length = xs.length := by simp [ints]
theorem ints_get (xs : List Int) (i : Nat) (h : i < xs.length) : (ints xs)[i]? = some [.v (.int .i64 xs[i])] := by simp [ints, h]
theorem wrap64 {n : Int} (h1 : -9223372036854775808 ≤ n) (h2 : n ≤ 9223372036854775807) : IntKind.i64.wrap n = n := by
  simp [IntKind.wrap, IntKind.bits, IntKind.signed]
  omega
end Go.YtoeophdffhmpmaaE
