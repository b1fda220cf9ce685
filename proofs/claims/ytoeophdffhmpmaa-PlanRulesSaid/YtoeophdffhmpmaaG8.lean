/- M1: Arguments that lie in memory: slices for reading, out of what they read ys; and what read so reads so, where all that lay stands. -/
import Derived.WalkKit
import Derived.ProofKit
import Derived.OpenShut
import Derived.ReadAgain
import Derived.Test.YtoeophdffhmpmaaG7

section
set_option linter.unusedVariables false
set_option linter.unusedSimpArgs false
namespace Go.YtoeophdffhmpmaaE
open Go Go.RowKit Go.ChangeShapes Go.WideShapes Go.ChangeAt

section
variable {H : Type} {enc : TypeId × Value → H} {P : Program} {w w' : World} {base : Nat} {spare : Nat → Bool} {held : Bool}
theorem trod_below (hb : Below w.heap.size w w') {n : Nat} {t : TypeId} {cs : List Value} {x : DataW H × List MemPlace} (h : DataW.trod enc P w base spare held n t cs = some x) :
    DataW.trod enc P w' base spare held n t cs = some x :=
  DataW.trod_carry n t cs x h fun p hp => by
    have := DataW.trod_lt n t cs x h p hp
    cases p with
    | cell b off =>
      show w'.cell? ⟨b, off, none⟩ = w.cell? ⟨b, off, none⟩
      unfold World.cell?
      simp only
      rw [hb.block b this]
    | map b => exact hb.block b this
theorem Trod_below (hb : Below w.heap.size w w') {t : TypeId} {v : Value} {d : DataW H} {ps : List MemPlace} (h : DataW.Trod enc P w base spare held t v d ps) :
    DataW.Trod enc P w' base spare held t v d ps := h.elim fun n hn => ⟨n, trod_below hb hn⟩
theorem TrodAll_below (hb : Below w.heap.size w w') : ∀ {ts : List TypeId} {vs : List Value} {ds : List (DataW H)} {ps : List MemPlace}, DataW.TrodAll enc P w base spare held ts vs ds ps → DataW.TrodAll enc P w' base spare held ts vs ds ps
  | [], [], [], _, h => h
  | _ :: _, _ :: _, _ :: _, _, ⟨p, q, h1, h2, e⟩ => ⟨p, q, Trod_below hb h1, TrodAll_below hb h2, e⟩
/-- The arguments behind the call: they read ys they did. -/
theorem args_back (K : Kids P (· < P.types.size)) (hz : ∀ t e, t < P.types.size → P.underlying t = some (.slice e) → 0 < P.cellsOf e) (hb : Below w.heap.size w w') {ts : List TypeId} {vs : List Value} {ds : List (DataW H)} {ps : List MemPlace} (ht : ∀ t ∈ ts, t < P.types.size)
    (h : DataW.TrodAll enc P w base (fun _ => true) true ts vs ds ps) : DataW.TrodAll enc P w' base (fun b => decide (b < w.heap.size)) true ts vs ds ps :=
  TrodAll_below hb (DataW.TrodAll.respare K hz ht h fun p hp => decide_eq_true (DataW.TrodAll.lt h p hp))
theorem cell?_lt {a : Addr} {v : Value} (h : w.cell? a = some v) : a.block < w.heap.size := by
  unfold World.cell? at h
  split at h
  · rename_i hh
    exact (Array.getElem?_eq_some_iff.1 hh).1
  · cases h
/-- A slice for reading: each element's cells ys its type opens. -/
theorem open_ro {g : Gh} {hp : Hp} {e t : TypeId} {fuel : Nat} {cs : List Value} {x : DataW H × List MemPlace} (hI : ∀ b, b < w.heap.size → g.I b) (ht : P.underlying t = some (.slice e)) (hz : 0 < P.cellsOf e)
    (Q : List A → Prop)
    (hk : ∀ n cs x, cs.length = P.cellsOf e → DataW.trod enc P w base spare held n e cs = some x → ∃ l : List A, Q l ∧ l.length = P.cellsOf e ∧ (∀ j, j < l.length → VR g w hp (l.getD j .un) (cs.getD j undef)) ∧ (∀ a ∈ l, plainA a = true))
    (h0 : DataW.trod enc P w base spare held fuel t cs = some x) :
    ∃ (v : Value) (els : List (List A)), cs = [v] ∧ VR g w hp (.ro els) v ∧ (∀ c ∈ els, Q c) ∧ els.length ≤ maxLen := by
  rcases DataW.trod_slice ht h0 with ⟨rfl, rfl⟩ | ⟨a, len, cap, elems, rest, n, rfl, rfl, rfl, hb, hl, hc, he, hf, -, -⟩
  · refine ⟨_, [], rfl, ?_, fun c hc => absurd hc (by simp), Nat.zero_le _⟩
    exact VR.ro [] none 0 0 0 0 (fun _ _ => undef) (fun h => absurd rfl h) (fun c hc => absurd hc (by simp)) (fun i j hi _ => absurd hi (by simp)) (fun i j hi _ => absurd hi (by simp)) (fun c hc => absurd hc (by simp)) ⟨Nat.zero_le _, Nat.zero_le _⟩
  · have H : ∀ i, ∃ y : List Value × List A, i < len → y.1.length = P.cellsOf e ∧ (∀ j, j < P.cellsOf e → w.cell? ((a.add (i * P.cellsOf e)).add j) = some (y.1.getD j undef)) ∧
        Q y.2 ∧ y.2.length = P.cellsOf e ∧ (∀ j, j < y.2.length → VR g w hp (y.2.getD j .un) (y.1.getD j undef)) ∧ (∀ a ∈ y.2, plainA a = true) := by
      intro i
      by_cases hi : i < len
      · have h1 := hf i hi
        rw [List.getElem?_eq_getElem (by omega)] at h1
        obtain ⟨csi, h2, h3⟩ := Option.bind_eq_some_iff.1 h1
        obtain ⟨-, h4, h5⟩ := World.cells?_some h2
        obtain ⟨l, k1, k2, k3, k4⟩ := hk n csi _ h4 h3
        refine ⟨(csi, l), fun _ => ⟨h4, fun j hj => ?_, k1, k2, k3, k4⟩⟩
        rw [h5 j hj, List.getD_eq_getElem?_getD, List.getElem?_eq_getElem (by omega)]
        rfl
      · exact ⟨([], []), fun h => absurd h hi⟩
    obtain ⟨f, hfn⟩ := Classical.skolem.1 H
    have plain : 0 < len → ∃ b off, a = ⟨b, off, none⟩ ∧ b < w.heap.size := by
      intro h
      have h1 := (hfn 0 h).2.1 0 hz
      obtain ⟨b, off, spot⟩ := a
      have hs := World.cell?_spot h1
      have : spot = none := by simpa [Addr.add] using hs
      subst this
      refine ⟨b, off, rfl, ?_⟩
      have := cell?_lt h1
      simpa [Addr.add] using this
    by_cases h : 0 < len
    · obtain ⟨b, off, rfl, hbl⟩ := plain h
      have hlen : ((List.range len).map fun i => (f i).2).length = len := by simp
      have es : ∀ i, i < len → ((List.range len).map fun i => (f i).2).getD i [] = (f i).2 := by
        intro i hi
        simp [List.getD_eq_getElem?_getD, hi]
      refine ⟨_, (List.range len).map fun i => (f i).2, rfl, ?_, ?_, by omega⟩
      · have := VR.ro (g := g) (w := w) (h := hp) ((List.range len).map fun i => (f i).2) (some ⟨b, off, none⟩) cap (P.cellsOf e) b off (fun i j => (f i).1.getD j undef)
          (fun _ => ⟨rfl, hI b hbl⟩) (fun c hc => ?_) (fun i j hi hj => ?_) (fun i j hi hj => ?_) (fun c hc => ?_) ⟨by omega, by omega⟩
        · rw [hlen] at this; exact this
        · obtain ⟨i, hi, rfl⟩ := List.mem_map.1 hc
          exact (hfn i (by simpa using hi)).2.2.2.1
        · have := (hfn i (by omega)).2.1 j hj
          rw [add_plain, add_plain] at this
          exact this
        · have hi : i < len := by omega
          rw [es i hi]
          exact (hfn i hi).2.2.2.2.1 j (by rw [(hfn i hi).2.2.2.1]; exact hj)
        · obtain ⟨i, hi, rfl⟩ := List.mem_map.1 hc
          exact (hfn i (by simpa using hi)).2.2.2.2.2
      · intro c hc
        obtain ⟨i, hi, rfl⟩ := List.mem_map.1 hc
        exact (hfn i (by simpa using hi)).2.2.1
    · obtain rfl : len = 0 := by omega
      refine ⟨_, [], rfl, ?_, fun c hc => absurd hc (by simp), Nat.zero_le _⟩
      exact VR.ro [] (some a) cap 0 0 0 (fun _ _ => undef) (fun h => absurd rfl h) (fun c hc => absurd hc (by simp)) (fun i j hi _ => absurd hi (by simp)) (fun i j hi _ => absurd hi (by simp)) (fun c hc => absurd hc (by simp)) ⟨Nat.zero_le _, Nat.zero_le _⟩
/-- A slice of one-celled elements. -/
theorem open_ro1 {g : Gh} {hp : Hp} {e t : TypeId} {fuel : Nat} {cs : List Value} {x : DataW H × List MemPlace} {α : Type} (f : α → A) (hI : ∀ b, b < w.heap.size → g.I b) (ht : P.underlying t = some (.slice e)) (hz : P.cellsOf e = 1)
    (hf : ∀ a, plainA (f a) = true)
    (hk : ∀ n cs x, DataW.trod enc P w base spare held n e cs = some x → ∃ v, cs = [v] ∧ ∃ a, VR g w hp (f a) v)
    (h0 : DataW.trod enc P w base spare held fuel t cs = some x) :
    ∃ (v : Value) (ys : List α), cs = [v] ∧ VR g w hp (.ro (ys.map fun a => [f a])) v := by
  obtain ⟨v, els, rfl, h1, h2, -⟩ := open_ro hI ht (by omega) (fun l => ∃ a, l = [f a]) (fun n cs x _ hx => by
    obtain ⟨v, rfl, a, ha⟩ := hk n cs x hx
    refine ⟨[f a], ⟨a, rfl⟩, hz.symm, fun j hj => ?_, fun b hb => ?_⟩
    · obtain rfl : j = 0 := by simpa using hj
      exact ha
    · obtain rfl : b = f a := by simpa using hb
      exact hf a) h0
  obtain ⟨ys, rfl⟩ : ∃ ys : List α, els = ys.map fun a => [f a] := by
    clear h1
    induction els with
    | nil => exact ⟨[], rfl⟩
    | cons c cs ih =>
      obtain ⟨a, rfl⟩ := h2 c (by simp)
      obtain ⟨ys, rfl⟩ := ih fun c hc => h2 c (by simp [hc])
      exact ⟨a :: ys, rfl⟩
  exact ⟨v, ys, rfl, h1⟩
/-- A slice of numbers. -/
theorem open_ro_ints {g : Gh} {hp : Hp} {e t : TypeId} {fuel : Nat} {cs : List Value} {x : DataW H × List MemPlace} (hI : ∀ b, b < w.heap.size → g.I b) (ht : P.underlying t = some (.slice e)) (he : P.underlying e = some (.int .i64)) (hz : P.cellsOf e = 1)
    (h0 : DataW.trod enc P w base spare held fuel t cs = some x) :
    ∃ (v : Value) (xs : List Int), cs = [v] ∧ VR g w hp (.ro (ints xs)) v :=
  open_ro1 (fun n : Int => .v (.int .i64 n)) hI ht hz (fun _ => rfl) (fun n cs x hx => by
    obtain ⟨q, rfl, -, -⟩ := DataW.trod_int he hx
    exact ⟨_, rfl, q, VR.v _ rfl⟩) h0
end
end Go.YtoeophdffhmpmaaE
end
