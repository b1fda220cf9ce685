/- The engine: how abstract values stand for the machine's values, and what keeps that. -/
import Derived.Test.YtoeophdffhmpmaaE1
set_option linter.unusedVariables false
namespace Go.YtoeophdffhmpmaaE
open Go Go.RowKit

abbrev Hp := Nat → Blk
def hf (hp : List Blk) : Hp := fun b => hp.getD b .hole
def Live (h : Hp) (b : Nat) : Prop := h b ≠ .hole

/-- m: where the blocks of the own heap lie; cp: how many elements a row has room for; I: what is not turned; ls: the loops' records. -/
structure Gh where
  m : Nat → Nat
  cp : Nat → Nat
  I : Nat → Prop
  ls : List Nat

inductive VR (g : Gh) (w : World) (h : Hp) : A → Value → Prop
  | un (x : Value) : VR g w h .un x
  | v (x : Value) (h1 : x.oneCell' = true) : VR g w h (.v x) x
  | agg (xs : List A) (vs : Array Value) (hl : xs.length = vs.size) (hv : ∀ i, i < xs.length → VR g w h (xs.getD i .un) (vs.getD i undef)) : VR g w h (.agg xs) (.agg vs)
  | tup (xs : List A) (vs : Array Value) (hl : xs.length = vs.size) (hv : ∀ i, i < xs.length → VR g w h (xs.getD i .un) (vs.getD i undef)) : VR g w h (.tup xs) (.tuple vs)
  | pt (b ver es i fo : Nat) (x : Value) (h1 : x.oneCell' = true) (hb : Live h b) (hv : ver ≤ (h b).ver) (he : es = (h b).es)
      (hx : ver = (h b).ver → x = .pointer (some ⟨g.m b, i * es + fo, none⟩)) : VR g w h (.pt b ver es i fo) x
  | sl (b ver es i len : Nat) (x : Value) (h1 : x.oneCell' = true) (hb : Live h b) (hv : ver ≤ (h b).ver) (he : es = (h b).es)
      (hx : ver = (h b).ver → ∃ a cap, x = .slice a len cap ∧ len ≤ cap ∧ i + cap ≤ g.cp b ∧ (0 < cap → a = some ⟨g.m b, i * es, none⟩)) : VR g w h (.sl b ver es i len) x
  | ro (els : List (List A)) (a : Option Addr) (cap es blk off : Nat) (vals : Nat → Nat → Value)
      (h0 : els ≠ [] → a = some ⟨blk, off, none⟩ ∧ g.I blk)
      (hes : ∀ c ∈ els, c.length = es)
      (hc : ∀ i j, i < els.length → j < es → w.cell? ⟨blk, off + i * es + j, none⟩ = some (vals i j))
      (hv : ∀ i j, i < els.length → j < es → VR g w h ((els.getD i []).getD j .un) (vals i j))
      (hn : ∀ c ∈ els, ∀ x ∈ c, plainA x = true) (hcap : els.length ≤ cap ∧ els.length ≤ maxLen) : VR g w h (.ro els) (.slice a els.length cap)
  | rp (cells : List A) (blk off : Nat) (vals : Nat → Value) (hI : g.I blk)
      (hc : ∀ j, j < cells.length → w.cell? ⟨blk, off + j, none⟩ = some (vals j))
      (hv : ∀ j, j < cells.length → VR g w h (cells.getD j .un) (vals j))
      (hn : ∀ x ∈ cells, plainA x = true) : VR g w h (.rp cells) (.pointer (some ⟨blk, off, none⟩))
  | cz (a : Option Addr) : VR g w h .cz (.slice a 0 0)
  | fn (f : Nat) (fst cap : List A) (fs vs : Array Value) (hl0 : fst.length = fs.size) (hl : cap.length = vs.size) (hv0 : ∀ i, i < fst.length → VR g w h (fst.getD i .un) (fs.getD i undef)) (hv : ∀ i, i < cap.length → VR g w h (cap.getD i .un) (vs.getD i undef)) : VR g w h (.fn f fst cap) (.func (.func f) fs vs)
  | yl (i l : Nat) (hl : g.ls[i]? = some l) : VR g w h (.yl i) (.func (.yield l) #[] #[])

/-- Cells lie as they lay. -/
def CSame (w w' : World) (x : Nat) : Prop := ∀ arr E z, w.heap[x]? = some (.cells arr E z) → w'.heap[x]? = some (.cells arr E z)
theorem CSame.of {w w' : World} {x : Nat} (h : w'.heap[x]? = w.heap[x]?) : CSame w w' x := fun arr E z hh => h.trans hh
theorem CSame.cell {w w' : World} {a : Addr} {v : Value} (h : CSame w w' a.block) (hc : w.cell? a = some v) : w'.cell? a = some v := by
  unfold World.cell? at hc ⊢
  cases ho : w.heap[a.block]? with
  | none => rw [ho] at hc; cases hc
  | some o =>
    cases o <;> first
      | (rw [h _ _ _ ho]; rw [ho] at hc; exact hc)
      | (rw [ho] at hc; cases hc; done)
/-- What a stretch of the run keeps. -/
structure Ev (g : Gh) (w : World) (h : Hp) (g' : Gh) (w' : World) (h' : Hp) : Prop where
  live : ∀ b, Live h b → Live h' b ∧ (h b).ver ≤ (h' b).ver ∧ (h' b).es = (h b).es ∧ ((h b).ver = (h' b).ver → g'.m b = g.m b ∧ g'.cp b = g.cp b)
  imm : ∀ x, g.I x → g'.I x ∧ CSame w w' x
  ls : ∀ (i l : Nat), g.ls[i]? = some l → g'.ls[i]? = some l
  size : w.heap.size ≤ w'.heap.size

theorem Ev.refl (g : Gh) (w : World) (h : Hp) : Ev g w h g w h :=
  ⟨fun b hb => ⟨hb, Nat.le_refl _, rfl, fun _ => ⟨rfl, rfl⟩⟩, fun x hx => ⟨hx, .of rfl⟩, fun _ _ h => h, Nat.le_refl _⟩
theorem Ev.trans {g : Gh} {w : World} {h : Hp} {g1 : Gh} {w1 : World} {h1 : Hp} {g2 : Gh} {w2 : World} {h2 : Hp}
    (a : Ev g w h g1 w1 h1) (b : Ev g1 w1 h1 g2 w2 h2) : Ev g w h g2 w2 h2 where
  live := fun x hx => by
    obtain ⟨l1, v1, e1, m1⟩ := a.live x hx
    obtain ⟨l2, v2, e2, m2⟩ := b.live x l1
    refine ⟨l2, Nat.le_trans v1 v2, e2.trans e1, fun hv => ?_⟩
    have hm : (h x).ver = (h1 x).ver := by omega
    have hm' : (h1 x).ver = (h2 x).ver := by omega
    exact ⟨(m2 hm').1.trans (m1 hm).1, (m2 hm').2.trans (m1 hm).2⟩
  imm := fun x hx => ⟨(b.imm x (a.imm x hx).1).1, fun arr E z h => (b.imm x (a.imm x hx).1).2 arr E z ((a.imm x hx).2 arr E z h)⟩
  ls := fun i l hl => b.ls i l (a.ls i l hl)
  size := Nat.le_trans a.size b.size

/-- What a stretch of the run keeps besides: whatever is no cells, and no loop's record, lies as it lay; new loops are new. -/
structure EW (g : Gh) (w : World) (h : Hp) (g' : Gh) (w' : World) (h' : Hp) : Prop extends Ev g w h g' w' h' where
  lsn : ∀ l ∈ g'.ls, l ∈ g.ls ∨ w.heap.size ≤ l
  oth : ∀ (x : Nat) (o : Obj), w.heap[x]? = some o → o.isCells = false → x ∉ g.ls → w'.heap[x]? = some o
/-- What an operation keeps: whatever is no cells lies as it lay. -/
structure EB (g : Gh) (w : World) (h : Hp) (g' : Gh) (w' : World) (h' : Hp) : Prop extends Ev g w h g' w' h' where
  lse : g'.ls = g.ls
  oth : ∀ (x : Nat) (o : Obj), w.heap[x]? = some o → o.isCells = false → w'.heap[x]? = some o
theorem EB.toEW {g : Gh} {w : World} {h : Hp} {g' : Gh} {w' : World} {h' : Hp} (e : EB g w h g' w' h') : EW g w h g' w' h' := ⟨e.toEv, fun l hl => .inl (by rwa [e.lse] at hl), fun x o hx hc _ => e.oth x o hx hc⟩
theorem EB.refl (g : Gh) (w : World) (h : Hp) : EB g w h g w h := ⟨Ev.refl g w h, rfl, fun _ _ h _ => h⟩
theorem EB.trans {g : Gh} {w : World} {h : Hp} {g1 : Gh} {w1 : World} {h1 : Hp} {g2 : Gh} {w2 : World} {h2 : Hp}
    (a : EB g w h g1 w1 h1) (b : EB g1 w1 h1 g2 w2 h2) : EB g w h g2 w2 h2 :=
  ⟨a.toEv.trans b.toEv, b.lse.trans a.lse, fun x o hx hc => b.oth x o (a.oth x o hx hc) hc⟩
theorem EW.refl (g : Gh) (w : World) (h : Hp) : EW g w h g w h := (EB.refl g w h).toEW
theorem EW.trans {g : Gh} {w : World} {h : Hp} {g1 : Gh} {w1 : World} {h1 : Hp} {g2 : Gh} {w2 : World} {h2 : Hp}
    (a : EW g w h g1 w1 h1) (b : EW g1 w1 h1 g2 w2 h2) : EW g w h g2 w2 h2 :=
  ⟨a.toEv.trans b.toEv, fun l hl => (b.lsn l hl).elim (a.lsn l) (fun h => .inr (Nat.le_trans a.size h)), fun x o hx hc hn => b.oth x o (a.oth x o hx hc hn) hc (fun hm => (a.lsn x hm).elim hn (fun h => by
    have := (Array.getElem?_eq_some_iff.1 hx).1; omega))⟩

theorem VR.mono {g : Gh} {w : World} {h : Hp} {g' : Gh} {w' : World} {h' : Hp} (e : Ev g w h g' w' h') {a : A} {x : Value} (r : VR g w h a x) : VR g' w' h' a x := by
  induction r with
  | un x => exact .un x
  | v x h1 => exact .v x h1
  | agg xs vs hl _ ih => exact .agg xs vs hl ih
  | tup xs vs hl _ ih => exact .tup xs vs hl ih
  | pt b ver es i fo x h1 hb hv he hx =>
    obtain ⟨l, v, s, m⟩ := e.live b hb
    refine .pt b ver es i fo x h1 l (Nat.le_trans hv v) (he.trans s.symm) (fun hh => ?_)
    have h2 : (h b).ver = (h' b).ver := by omega
    rw [(m h2).1]; exact hx (by omega)
  | sl b ver es i len x h1 hb hv he hx =>
    obtain ⟨l, v, s, m⟩ := e.live b hb
    refine .sl b ver es i len x h1 l (Nat.le_trans hv v) (he.trans s.symm) (fun hh => ?_)
    have h2 : (h b).ver = (h' b).ver := by omega
    rw [(m h2).1, (m h2).2]; exact hx (by omega)
  | ro els a cap es blk off vals h0 hes hc _ hn hcap ih =>
    refine .ro els a cap es blk off vals (fun hne => ⟨(h0 hne).1, (e.imm _ (h0 hne).2).1⟩) hes (fun i j hi hj => ?_) ih hn hcap
    have hne : els ≠ [] := fun h => by subst h; simp at hi
    exact CSame.cell (e.imm blk (h0 hne).2).2 (hc i j hi hj)
  | rp cells blk off vals hI hc _ hn ih =>
    exact .rp cells blk off vals (e.imm _ hI).1 (fun j hj => CSame.cell (e.imm blk hI).2 (hc j hj)) ih hn
  | cz a => exact .cz a
  | fn f fst cap fs vs hl0 hl _ _ ih0 ih => exact .fn f fst cap fs vs hl0 hl ih0 ih
  | yl i l hl => exact .yl i l (e.ls i l hl)

theorem VR.one {g : Gh} {w : World} {h : Hp} {a : A} {x : Value} (r : VR g w h a x) (ho : oneA a = true) : x.oneCell' = true := by
  cases r <;> first | (simp [oneA] at ho; done) | assumption | rfl

/-- How a block of the own heap lies in memory. -/
def BR (g : Gh) (w : World) (h : Hp) (b : Nat) : Blk → Prop
  | .hole => True
  | .bx _ cells => ∃ arr E, w.heap[g.m b]? = some (.cells arr E (0, 0)) ∧ arr.size = cells.length ∧ ∀ j, j < cells.length → VR g w h (cells.getD j .un) (arr.getD j undef)
  | .rw _ nx _ es els => ∃ arr E, w.heap[g.m b]? = some (.cells arr E (0, 0)) ∧ 0 < es ∧ arr.size = g.cp b * es ∧ els.length ≤ g.cp b ∧ g.cp b ≤ maxLen ∧
      (∀ c ∈ els, c.length = es ∧ (nx = false → ∀ x ∈ c, plainA x = true)) ∧ ∀ i j, i < els.length → j < es → VR g w h ((els.getD i []).getD j .un) (arr.getD (i * es + j) undef)
def Blk.fz : Blk → Bool
  | .hole => false
  | .bx f _ => f
  | .rw f _ _ _ _ => f
structure SH (B0 : Nat) (g : Gh) (w : World) (h : Hp) : Prop where
  inj : ∀ b b', Live h b → Live h b' → g.m b = g.m b' → b = b'
  lo : ∀ b, Live h b → B0 ≤ g.m b
  imm : ∀ x, g.I x → x < w.heap.size
  sep : ∀ b, Live h b → (h b).fz = false → ¬ g.I (g.m b)
  fro : ∀ b, Live h b → (h b).fz = true → g.I (g.m b)
  blk : ∀ b, BR g w h b (h b)
/-- What a call begins with: the world, and what of it will not turn. -/
structure Wz where
  w : World
  I : Nat → Prop
/-- The whole: what the call began with lies as it lay. -/
structure SW (B0 : Nat) (w0 : Wz) (g : Gh) (w : World) (h : Hp) : Prop where
  sh : SH B0 g w h
  be : Below B0 w0.w w
  b0 : B0 ≤ w.heap.size
  ib : ∀ x, g.I x → w0.I x ∨ B0 ≤ x
def TS (g : Gh) (w : World) (h : Hp) (ts : List A) (vs : Array Value) : Prop :=
  ts.length = vs.size ∧ ∀ t, VR g w h (ts.getD t .un) (vs.getD t undef)
theorem TS.mono {g : Gh} {w : World} {h : Hp} {g' : Gh} {w' : World} {h' : Hp} (e : Ev g w h g' w' h') {ts : List A} {vs : Array Value} (r : TS g w h ts vs) : TS g' w' h' ts vs :=
  ⟨r.1, fun t => (r.2 t).mono e⟩

/-- New blocks at p. -/
def addH (h : Hp) (p : Nat) (news : List Blk) : Hp := fun b => if p ≤ b ∧ b < p + news.length then news.getD (b - p) .hole else h b
theorem addH_nil (h : Hp) (p : Nat) : addH h p [] = h := by funext b; simp only [addH, List.length_nil]; rw [if_neg (by omega)]
theorem addH_hf (hp news : List Blk) : addH (hf hp) hp.length news = hf (hp ++ news) := by
  funext b
  simp only [addH, hf, List.getD_eq_getElem?_getD]
  split
  · rename_i hb
    rw [List.getElem?_append_right hb.1]
  · rename_i hb
    by_cases h1 : b < hp.length
    · rw [List.getElem?_append_left h1]
    · rw [List.getElem?_eq_none (by omega), List.getElem?_eq_none (by simp; omega)]
theorem hf_none (hp : List Blk) (b : Nat) (h : hp.length ≤ b) : ¬ Live (hf hp) b := by
  simp [Live, hf, List.getD_eq_getElem?_getD, List.getElem?_eq_none h]

/-! ### Ways in which the whole goes on -/
section
variable {B0 : Nat} {w0 : Wz} {g : Gh} {w : World} {h : Hp}
/-- A world in which old blocks lie as they lay, no more. -/
theorem Ev.same {w' : World} (hb : ∀ x, x < w.heap.size → w'.heap[x]? = w.heap[x]?) (hs : w.heap.size ≤ w'.heap.size) (hi : ∀ x, g.I x → x < w.heap.size) : Ev g w h g w' h :=
  ⟨fun b hb => ⟨hb, Nat.le_refl _, rfl, fun _ => ⟨rfl, rfl⟩⟩, fun x hx => ⟨hx, .of (hb x (hi x hx))⟩, fun _ _ h => h, hs⟩
theorem BR.mono {g' : Gh} {w' : World} {h' : Hp} (e : Ev g w h g' w' h') {b : Nat} {k : Blk} (hm : g'.m b = g.m b) (hcp : g'.cp b = g.cp b) (hw : w'.heap[g.m b]? = w.heap[g.m b]?) (r : BR g w h b k) : BR g' w' h' b k := by
  cases k with
  | hole => trivial
  | bx f cells =>
    obtain ⟨arr, E, h1, h2, h3⟩ := r
    exact ⟨arr, E, by rw [hm, hw]; exact h1, h2, fun j hj => (h3 j hj).mono e⟩
  | rw f nx ver es els =>
    obtain ⟨arr, E, h1, h2, h3, h4, h5, h6, h7⟩ := r
    exact ⟨arr, E, by rw [hm, hw]; exact h1, h2, by rw [hcp]; exact h3, by rw [hcp]; exact h4, by rw [hcp]; exact h5, h6, fun i j hi hj => (h7 i j hi hj).mono e⟩
theorem SH.lt (s : SH B0 g w h) {b : Nat} (hb : Live h b) : g.m b < w.heap.size := by
  have hr := s.blk b
  unfold Live at hb
  generalize h b = k at hr hb
  cases k with
  | hole => exact absurd rfl hb
  | bx f cells => obtain ⟨arr, E, h1, _⟩ := hr; exact (Array.getElem?_eq_some_iff.1 h1).1
  | rw f nx ver es els => obtain ⟨arr, E, h1, _⟩ := hr; exact (Array.getElem?_eq_some_iff.1 h1).1
theorem SH.same (s : SH B0 g w h) {w' : World} (hb : ∀ x, x < w.heap.size → w'.heap[x]? = w.heap[x]?) (hs : w.heap.size ≤ w'.heap.size) : SH B0 g w' h where
  inj := s.inj
  lo := s.lo
  imm := fun x hx => Nat.lt_of_lt_of_le (s.imm x hx) hs
  sep := s.sep
  fro := s.fro
  blk := fun b => by
    by_cases hl : Live h b
    · exact BR.mono (Ev.same hb hs s.imm) rfl rfl (hb _ (s.lt hl)) (s.blk b)
    · have : h b = .hole := Classical.byContradiction hl
      rw [this]; trivial
theorem SW.same (s : SW B0 w0 g w h) {w' : World} (hb : Below w.heap.size w w') : SW B0 w0 g w' h :=
  ⟨s.sh.same hb.block hb.size, s.be.trans (hb.mono s.b0), Nat.le_trans s.b0 hb.size, s.ib⟩
theorem Ev.below (s : SW B0 w0 g w h) {w' : World} (hb : Below w.heap.size w w') : Ev g w h g w' h := Ev.same hb.block hb.size s.sh.imm
end

end Go.YtoeophdffhmpmaaE
