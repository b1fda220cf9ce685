/- The engine: loads, and new blocks. -/
import Derived.Test.YtoeophdffhmpmaaE4
set_option linter.unusedVariables false
set_option linter.unusedSimpArgs false
namespace Go.YtoeophdffhmpmaaE
open Go Go.RowKit

theorem add_none (B o j : Nat) : (⟨B, o, none⟩ : Addr).add j = ⟨B, o + j, none⟩ := by unfold Addr.add; split <;> simp_all
theorem add_none' (a : Addr) (j : Nat) (h : a.spot = none) : a.add j = ⟨a.block, a.off + j, none⟩ := by
  obtain ⟨b, o, s⟩ := a; simp only at h; subst h; exact add_none b o j
theorem run_isAgg {P : Program} {t : Nat} {d : TypeDesc} (hu : P.underlying t = some d) (w : World) : (isAgg t).run P w = .ok (isAggD d) w := by
  cases d <;> simp [isAgg, run_underlying hu, isAggD]
theorem run_loadVar {P : Program} {t : Nat} {d : TypeDesc} {i : TypeInfo} (hu : P.underlying t = some d) (hi : P.info? t = some i) (w : World) (a : Addr) (f : Nat → Value) (h : ∀ j, j < i.size → w.cell? (a.add j) = some (f j)) (hd : isAggD d = true) :
    (loadVar t a).run P w = .ok (.agg ((List.range i.size).map f).toArray) w := by
  have := run_loadCells (P := P) w a i.size f h
  simp [loadVar, run_isAgg hu, hd, sizeOf, typeInfo, hi, this]
theorem run_loadVar1 {P : Program} {t : Nat} {d : TypeDesc} (hu : P.underlying t = some d) (w : World) (a : Addr) (v : Value) (h : w.cell? a = some v) (hd : isAggD d = false) :
    (loadVar t a).run P w = .ok v w := by
  simp [loadVar, run_isAgg hu, hd, h]

theorem take_drop_getD (cells : List A) (fo size j : Nat) (h : j < size) : ((cells.drop fo).take size).getD j .un = cells.getD (fo + j) .un := by
  simp [List.getD_eq_getElem?_getD, List.getElem?_take, h, List.getElem?_drop]

theorem loadB_sound {P : Program} {t : Nat} {d : TypeDesc} {i : TypeInfo} (hu : P.underlying t = some d) (hi : P.info? t = some i) {cells : List A} {fo : Nat} {k : A → Prop} (hk : loadB (isAggD d) i.size cells fo k) :
    ∃ a, k a ∧ ∀ (g : Gh) (w : World) (h : Hp) (B off : Nat) (f : Nat → Value), (∀ j, j < cells.length → w.cell? ⟨B, off + j, none⟩ = some (f j)) → (∀ j, j < cells.length → VR g w h (cells.getD j .un) (f j)) →
      ∃ v, (loadVar t ⟨B, off + fo, none⟩).run P w = .ok v w ∧ VR g w h a v := by
  rcases loadB_elim hk with ⟨ha, _, hl, hk⟩ | ⟨ha, a, hg, hk⟩
  · refine ⟨_, hk, fun g w h B off f hc hv => ⟨_, run_loadVar hu hi w ⟨B, off + fo, none⟩ (fun j => f (fo + j)) (fun j hj => ?_) ha, .agg _ _ ?_ (fun j hj => ?_)⟩⟩
    · rw [add_none]
      have := hc (fo + j) (by simp at hl; omega)
      rw [← this]; congr 2; omega
    · simp at hl ⊢; omega
    · simp only [List.length_take, List.length_drop] at hj
      rw [take_drop_getD _ _ _ _ (by omega)]
      have := hv (fo + j) (by omega)
      have h2 : j < i.size := by omega
      simp [Array.getD, h2]
      simpa using this
  · refine ⟨a, hk, fun g w h B off f hc hv => ⟨f fo, ?_, ?_⟩⟩
    · have hfo : fo < cells.length := (List.getElem?_eq_some_iff.1 hg).1
      exact run_loadVar1 hu w _ _ (hc fo hfo) ha
    · have hfo : fo < cells.length := (List.getElem?_eq_some_iff.1 hg).1
      have := hv fo hfo
      rwa [List.getD_eq_getElem?_getD, hg] at this
theorem part_sound {P : Program} {t : Nat} {d : TypeDesc} {i : TypeInfo} (hu : P.underlying t = some d) (hi : P.info? t = some i) {cells : List A} {fo : Nat} {k : A → Prop} (hk : loadB (isAggD d) i.size cells fo k) :
    ∃ a, k a ∧ ∀ (g : Gh) (w : World) (h : Hp) (vs : Array Value), VR g w h (.agg cells) (.agg vs) → ∃ v, (part t vs fo).run P w = .ok v w ∧ VR g w h a v := by
  rcases loadB_elim hk with ⟨ha, _, hl, hk⟩ | ⟨ha, a, hg, hk⟩
  · refine ⟨_, hk, fun g w h vs r => ⟨.agg (vs.extract fo (fo + i.size)), by simp [part, run_isAgg hu, ha, sizeOf, typeInfo, hi], ?_⟩⟩
    cases r with
    | agg _ _ hlen hv =>
      refine .agg _ _ ?_ (fun j hj => ?_)
      · simp at hl ⊢; omega
      · simp only [List.length_take, List.length_drop] at hj
        rw [take_drop_getD _ _ _ _ (by omega)]
        have := hv (fo + j) (by omega)
        simp at hl
        have h1 : j < min (fo + i.size) vs.size - fo := by omega
        have h2 : fo + j < vs.size := by omega
        simp [Array.getD, h1]
        simpa [Array.getD, h2] using this
  · refine ⟨a, hk, fun g w h vs r => ?_⟩
    have hfo : fo < cells.length := (List.getElem?_eq_some_iff.1 hg).1
    cases r with
    | agg _ _ hlen hv =>
      have h2 : fo < vs.size := by omega
      refine ⟨vs[fo], by simp [part, run_isAgg hu, ha, h2], ?_⟩
      have := hv fo hfo
      rw [List.getD_eq_getElem?_getD, hg] at this
      simpa [Array.getD, h2] using this

/-! ### New blocks -/
def Gh.at (g : Gh) (p nb c : Nat) : Gh := { g with m := fun b => if b = p then nb else g.m b, cp := fun b => if b = p then c else g.cp b }
/-- Cells that stand for a new block. -/
def NB (g : Gh) (w : World) (h : Hp) (arr : Array Value) (c : Nat) : Blk → Prop
  | .hole => False
  | .bx f cells => f = false ∧ arr.size = cells.length ∧ ∀ j, j < cells.length → VR g w h (cells.getD j .un) (arr.getD j undef)
  | .rw f nx _ es els => f = false ∧ 0 < es ∧ arr.size = c * es ∧ els.length ≤ c ∧ c ≤ maxLen ∧
      (∀ c ∈ els, c.length = es ∧ (nx = false → ∀ x ∈ c, plainA x = true)) ∧ ∀ i j, i < els.length → j < es → VR g w h ((els.getD i []).getD j .un) (arr.getD (i * es + j) undef)
theorem addH_one (h : Hp) (p : Nat) (k : Blk) (b : Nat) : addH h p [k] b = if b = p then k else h b := by
  unfold addH
  by_cases hb : b = p
  · subst hb; rw [if_pos (by simp), if_pos rfl]; simp
  · rw [if_neg (by simp; omega), if_neg hb]
theorem SW.add {B0 : Nat} {w0 : Wz} {g : Gh} {w : World} {h : Hp} (s : SW B0 w0 g w h) {w' : World} (hb : Below w.heap.size w w') {nb : Nat} (hn : w.heap.size ≤ nb) {arr : Array Value} {E : Nat}
    (hc : w'.heap[nb]? = some (.cells arr E (0, 0))) {p c : Nat} (hp : ¬ Live h p) {k : Blk} (hk : NB g w h arr c k) :
    EB g w h (g.at p nb c) w' (addH h p [k]) ∧ SW B0 w0 (g.at p nb c) w' (addH h p [k]) := by
  have hpb : ∀ b, Live h b → b ≠ p := fun b hb e => hp (e ▸ hb)
  have hold : ∀ b, Live h b → addH h p [k] b = h b := fun b hl => by rw [addH_one, if_neg (hpb b hl)]
  have hnew : addH h p [k] p = k := by rw [addH_one, if_pos rfl]
  have e : Ev g w h (g.at p nb c) w' (addH h p [k]) := by
    refine ⟨fun b hl => ?_, fun x hx => ⟨hx, .of (hb.block x (s.sh.imm x hx))⟩, fun _ _ h => h, hb.size⟩
    rw [show Live (addH h p [k]) b ↔ Live h b from by unfold Live; rw [hold b hl]]
    rw [hold b hl]
    exact ⟨hl, Nat.le_refl _, rfl, fun _ => by simp [Gh.at, hpb b hl]⟩
  have hfz : k.fz = false := by cases k with
    | hole => rfl
    | bx f cells => exact hk.1
    | rw f nx ver es els => exact hk.1
  refine ⟨⟨e, rfl, fun x o hx _ => (hb.block x (Array.getElem?_eq_some_iff.1 hx).1).trans hx⟩, ⟨⟨?_, ?_, ?_, ?_, ?_, ?_⟩, s.be.trans (hb.mono s.b0), Nat.le_trans s.b0 hb.size, s.ib⟩⟩
  · intro b b' h1 h2 hm
    by_cases hbp : b = p
    · by_cases hbp' : b' = p
      · rw [hbp, hbp']
      · exfalso
        have hl' : Live h b' := by unfold Live at h2 ⊢; rwa [addH_one, if_neg hbp'] at h2
        have := s.sh.lt hl'
        simp [Gh.at, hbp, hbp'] at hm
        omega
    · have hl : Live h b := by unfold Live at h1 ⊢; rwa [addH_one, if_neg hbp] at h1
      by_cases hbp' : b' = p
      · exfalso
        have := s.sh.lt hl
        simp [Gh.at, hbp, hbp'] at hm
        omega
      · have hl' : Live h b' := by unfold Live at h2 ⊢; rwa [addH_one, if_neg hbp'] at h2
        exact s.sh.inj b b' hl hl' (by simpa [Gh.at, hbp, hbp'] using hm)
  · intro b h1
    by_cases hbp : b = p
    · simp [Gh.at, hbp]; exact Nat.le_trans s.b0 hn
    · have hl : Live h b := by unfold Live at h1 ⊢; rwa [addH_one, if_neg hbp] at h1
      simpa [Gh.at, hbp] using s.sh.lo b hl
  · exact fun x hx => Nat.lt_of_lt_of_le (s.sh.imm x hx) hb.size
  · intro b h1 hf hI
    by_cases hbp : b = p
    · simp [Gh.at, hbp] at hI
      exact absurd (s.sh.imm _ hI) (by omega)
    · have hl : Live h b := by unfold Live at h1 ⊢; rwa [addH_one, if_neg hbp] at h1
      rw [hold b hl] at hf
      exact s.sh.sep b hl hf (by simpa [Gh.at, hbp] using hI)
  · intro b h1 hf
    by_cases hbp : b = p
    · subst hbp; rw [hnew, hfz] at hf; cases hf
    · have hl : Live h b := by unfold Live at h1 ⊢; rwa [addH_one, if_neg hbp] at h1
      rw [hold b hl] at hf
      simpa [Gh.at, hbp] using s.sh.fro b hl hf
  · intro b
    by_cases hbp : b = p
    · subst hbp
      rw [hnew]
      cases k with
      | hole => trivial
      | bx f cells => exact ⟨arr, E, by simpa [Gh.at] using hc, hk.2.1, fun j hj => (hk.2.2 j hj).mono e⟩
      | rw f nx ver es els =>
        obtain ⟨_, h2, h3, h4, h5, h6, h7⟩ := hk
        exact ⟨arr, E, by simpa [Gh.at] using hc, h2, by simpa [Gh.at] using h3, by simpa [Gh.at] using h4, by simpa [Gh.at] using h5, h6, fun i j hi hj => (h7 i j hi hj).mono e⟩
    · by_cases hl : Live h b
      · rw [hold b hl]
        exact BR.mono e (by simp [Gh.at, hbp]) (by simp [Gh.at, hbp]) (hb.block _ (s.sh.lt hl)) (s.sh.blk b)
      · have : addH h p [k] b = .hole := by rw [addH_one, if_neg hbp]; exact Classical.byContradiction hl
        rw [this]; trivial

end Go.YtoeophdffhmpmaaE
