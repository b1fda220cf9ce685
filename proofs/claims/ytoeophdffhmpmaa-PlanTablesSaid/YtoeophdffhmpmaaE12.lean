/- The engine: operations that write: stores into boxes and rows, freezing. -/
import Derived.Test.YtoeophdffhmpmaaE11
set_option linter.unusedVariables false
set_option linter.unusedSimpArgs false
namespace Go.YtoeophdffhmpmaaE
open Go Go.RowKit

variable {P : Program} {B0 : Nat} {w0 : Wz} {c : Hp} {p : Nat} {o : Oper} {ts : List A} {hp : List Blk}

/-- A block of the own heap has turned. -/
def setH (h : Hp) (b : Nat) (k : Blk) : Hp := fun x => if x = b then k else h x
theorem setH_same (h : Hp) (b : Nat) (k : Blk) : setH h b k b = k := if_pos rfl
theorem setH_ne (h : Hp) (b : Nat) (k : Blk) {x : Nat} (hx : x ≠ b) : setH h b k x = h x := if_neg hx
theorem setH_hf (hp : List Blk) (b : Nat) (k : Blk) (hb : b < hp.length) : setH (hf hp) b k = hf (hp.set b k) := by
  funext x
  simp only [setH, hf, List.getD_eq_getElem?_getD]
  by_cases h : x = b
  · subst h; rw [if_pos rfl, List.getElem?_set_self hb]; rfl
  · rw [if_neg h, List.getElem?_set_ne (fun e => h e.symm)]
theorem lt_of_getD {hp : List Blk} {b : Nat} (h : hp.getD b .hole ≠ .hole) : b < hp.length := by
  rcases Nat.lt_or_ge b hp.length with h1 | h1
  · exact h1
  · exact absurd (by simp [List.getD_eq_getElem?_getD, List.getElem?_eq_none h1]) h

/-- THE WHOLE GOES ON WHERE ONE BLOCK's CELLS TURN, its version kept: b's concrete block is written, all else lies as it lay. -/
theorem SW.write {g : Gh} {w : World} {h : Hp} (s : SW B0 w0 g w h) {b : Nat} {k k' : Blk} (hh : h b = k) (hne : k ≠ .hole) (hfz : k.fz = false) (hfz' : k'.fz = false) (hne' : k' ≠ .hole) (hver : k'.ver = k.ver) (hes : k'.es = k.es)
    {w' : World} (hw : w.grownBy w' (some (g.m b))) (hbr : ∀ (h' : Hp), Ev g w h g w' h' → BR g w' h' b k') :
    EB g w h g w' (setH h b k') ∧ SW B0 w0 g w' (setH h b k') := by
  have hl : Live h b := by unfold Live; rw [hh]; exact hne
  have hlive : ∀ x, Live (setH h b k') x ↔ Live h x := fun x => by
    unfold Live setH
    by_cases hx : x = b
    · subst hx; simp [hne', hh, hne]
    · simp [hx]
  have hsep := s.sh.sep b hl (by rw [hh]; exact hfz)
  have e : Ev g w h g w' (setH h b k') := by
    refine ⟨fun x hx => ⟨(hlive x).2 hx, ?_⟩, fun x hx => ⟨hx, .of (hw.block x (s.sh.imm x hx) (fun e => hsep (by cases e; exact hx)))⟩, fun _ _ h => h, hw.size⟩
    by_cases hxb : x = b
    · subst hxb
      rw [setH_same, hh, hver, hes]
      exact ⟨Nat.le_refl _, rfl, fun _ => ⟨rfl, rfl⟩⟩
    · simp [setH, hxb]
  have hcell : ∃ arr E z, w.heap[g.m b]? = some (.cells arr E z) := by
    have := s.sh.blk b
    rw [hh] at this
    cases k with
    | hole => exact absurd rfl hne
    | bx f cells => obtain ⟨arr, E, h1, _⟩ := this; exact ⟨arr, E, _, h1⟩
    | rw f nx v es els => obtain ⟨arr, E, h1, _⟩ := this; exact ⟨arr, E, _, h1⟩
  refine ⟨⟨e, rfl, fun x o hx hc => ?_⟩, ⟨⟨?_, ?_, ?_, ?_, ?_, ?_⟩, s.be.grown hw s.b0 (fun k hk => by cases hk; exact s.sh.lo b hl), Nat.le_trans s.b0 hw.size, s.ib⟩⟩
  · refine (hw.block x (Array.getElem?_eq_some_iff.1 hx).1 (fun e => ?_)).trans hx
    cases e
    obtain ⟨arr, E, z, h1⟩ := hcell
    rw [h1] at hx
    cases hx
    cases hc
  · intro x y hx hy; exact s.sh.inj x y ((hlive x).1 hx) ((hlive y).1 hy)
  · intro x hx; exact s.sh.lo x ((hlive x).1 hx)
  · exact fun x hx => Nat.lt_of_lt_of_le (s.sh.imm x hx) hw.size
  · intro x hx hf
    by_cases hxb : x = b
    · subst hxb; exact hsep
    · exact s.sh.sep x ((hlive x).1 hx) (by simpa [setH, hxb] using hf)
  · intro x hx hf
    by_cases hxb : x = b
    · subst hxb; simp [setH, hfz'] at hf
    · exact s.sh.fro x ((hlive x).1 hx) (by simpa [setH, hxb] using hf)
  · intro x
    by_cases hxb : x = b
    · subst hxb; rw [setH_same]; exact hbr _ e
    · rw [setH_ne _ _ _ hxb]
      by_cases hlx : Live h x
      · refine BR.mono e rfl rfl (hw.block _ (s.sh.lt hlx) (fun e => hxb (s.sh.inj x b hlx hl (Option.some.inj e)))) (s.sh.blk x)
      · have : h x = .hole := Classical.byContradiction hlx
        rw [this]; trivial
/-- THE WHOLE GOES ON WHERE A BLOCK IS FROZEN. -/
theorem SW.freeze {g : Gh} {w : World} {h : Hp} (s : SW B0 w0 g w h) {b : Nat} (hl : Live h b) :
    EB g w h { g with I := fun x => g.I x ∨ x = g.m b } w (setH h b (freeze1 (h b))) ∧ SW B0 w0 { g with I := fun x => g.I x ∨ x = g.m b } w (setH h b (freeze1 (h b))) := by
  have hfr : freeze1 (h b) ≠ .hole ∧ (freeze1 (h b)).ver = (h b).ver ∧ (freeze1 (h b)).es = (h b).es ∧ (freeze1 (h b)).fz = true := by
    unfold Live at hl
    generalize h b = k at hl
    cases k with
    | hole => exact absurd rfl hl
    | bx f cells => exact ⟨Blk.noConfusion, rfl, rfl, rfl⟩
    | rw f nx v es els => exact ⟨Blk.noConfusion, rfl, rfl, rfl⟩
  have hlive : ∀ x, Live (setH h b (freeze1 (h b))) x ↔ Live h x := fun x => by
    unfold Live setH
    by_cases hx : x = b
    · subst hx; simp only [if_pos rfl]; exact ⟨fun _ => hl, fun _ => hfr.1⟩
    · simp [hx]
  have e : Ev g w h { g with I := fun x => g.I x ∨ x = g.m b } w (setH h b (freeze1 (h b))) := by
    refine ⟨fun x hx => ⟨(hlive x).2 hx, ?_⟩, fun x hx => ⟨.inl hx, .of rfl⟩, fun _ _ h => h, Nat.le_refl _⟩
    by_cases hxb : x = b
    · subst hxb
      rw [setH_same, hfr.2.1, hfr.2.2.1]
      exact ⟨Nat.le_refl _, rfl, fun _ => ⟨rfl, rfl⟩⟩
    · simp [setH, hxb]
  refine ⟨⟨e, rfl, fun x o hx _ => hx⟩, ⟨⟨?_, ?_, ?_, ?_, ?_, ?_⟩, s.be, s.b0, fun x hx => hx.elim (s.ib x) (fun e => .inr (by rw [e]; exact s.sh.lo b hl))⟩⟩
  · intro x y hx hy; exact s.sh.inj x y ((hlive x).1 hx) ((hlive y).1 hy)
  · intro x hx; exact s.sh.lo x ((hlive x).1 hx)
  · intro x hx
    rcases hx with hx | rfl
    · exact s.sh.imm x hx
    · exact s.sh.lt hl
  · intro x hx hf
    by_cases hxb : x = b
    · subst hxb; rw [setH_same, hfr.2.2.2] at hf; cases hf
    · rintro (hI | hI)
      · exact s.sh.sep x ((hlive x).1 hx) (by simpa [setH, hxb] using hf) hI
      · exact hxb (s.sh.inj x b ((hlive x).1 hx) hl hI)
  · intro x hx hf
    by_cases hxb : x = b
    · subst hxb; exact .inr rfl
    · exact .inl (s.sh.fro x ((hlive x).1 hx) (by simpa [setH, hxb] using hf))
  · intro x
    by_cases hxb : x = b
    · subst hxb
      rw [setH_same]
      have := BR.mono e rfl rfl rfl (s.sh.blk x)
      generalize h x = k at this
      cases k with
      | hole => exact this
      | bx f cells => exact this
      | rw f nx v es els => exact this
    · rw [setH_ne _ _ _ hxb]
      exact BR.mono e rfl rfl rfl (s.sh.blk x)
theorem freezeK_sound {bs : List Nat} {k : List Blk → Prop} (hk : freezeK hp bs k) : ∃ hp', k hp' ∧ hp'.length = hp.length ∧ (∀ b, hp'.getD b .hole = hp.getD b .hole ∨ (hp'.getD b .hole).fz = true) ∧ ∀ (g : Gh) (w : World), SW B0 w0 g w (hf hp) →
    ∃ g', EB g w (hf hp) g' w (hf hp') ∧ SW B0 w0 g' w (hf hp') ∧ g'.m = g.m ∧ (∀ b ∈ bs, g'.I (g.m b)) ∧ ∀ x, g'.I x → g.I x ∨ ∃ b ∈ bs, Live (hf hp) b ∧ x = g.m b := by
  induction bs generalizing hp with
  | nil => exact ⟨hp, hk, rfl, fun _ => .inl rfl, fun g w s => ⟨g, EB.refl _ _ _, s, rfl, by simp, fun x hx => .inl hx⟩⟩
  | cons b bs ih =>
    have step : ∀ kb, hp.getD b .hole = kb → kb ≠ .hole → freezeK (hp.set b (freeze1 kb)) bs k → ∃ hp', k hp' ∧ hp'.length = hp.length ∧ (∀ b, hp'.getD b .hole = hp.getD b .hole ∨ (hp'.getD b .hole).fz = true) ∧ ∀ (g : Gh) (w : World), SW B0 w0 g w (hf hp) →
        ∃ g', EB g w (hf hp) g' w (hf hp') ∧ SW B0 w0 g' w (hf hp') ∧ g'.m = g.m ∧ (∀ b' ∈ b :: bs, g'.I (g.m b')) ∧ ∀ x, g'.I x → g.I x ∨ ∃ b' ∈ b :: bs, Live (hf hp) b' ∧ x = g.m b' := by
      intro kb hb hne hk2
      obtain ⟨hp', h1, h2, hfz, h3⟩ := ih hk2
      refine ⟨hp', h1, by rw [h2]; simp, fun x => ?_, fun g w s => ?_⟩
      · rcases hfz x with he | he
        · by_cases hx : x = b
          · subst hx
            refine .inr ?_
            rw [he]
            have hlt := lt_of_getD (show hp.getD x .hole ≠ .hole by rw [hb]; exact hne)
            have : (hp.set x (freeze1 kb)).getD x .hole = freeze1 kb := by simp [List.getD_eq_getElem?_getD, hlt]
            rw [this]
            cases kb <;> first | rfl | exact absurd rfl hne
          · refine .inl (he.trans ?_)
            simp [List.getD_eq_getElem?_getD, List.getElem?_set_ne (fun e => hx e.symm)]
        · exact .inr he
      have hl : Live (hf hp) b := by unfold Live hf; rw [hb]; exact hne
      obtain ⟨e1, s1⟩ := s.freeze hl
      have hbk : hf hp b = kb := hb
      rw [hbk, setH_hf hp b _ (lt_of_getD (by rw [hb]; exact hne))] at e1 s1
      obtain ⟨g', e2, s2, m2, i2, j2⟩ := h3 _ w s1
      refine ⟨g', e1.trans e2, s2, m2, fun b' hb' => ?_, fun x hx => ?_⟩
      · rcases List.mem_cons.1 hb' with rfl | hb'
        · exact (e2.imm _ (.inr rfl)).1
        · exact i2 b' hb'
      · rcases j2 x hx with (hx | rfl) | ⟨b', hb', hl', rfl⟩
        · exact .inl hx
        · exact .inr ⟨b, by simp, hl, rfl⟩
        · refine .inr ⟨b', List.mem_cons_of_mem _ hb', ?_, rfl⟩
          unfold Live hf at hl' ⊢
          by_cases hbb : b' = b
          · subst hbb; rw [hb]; exact hne
          · simpa [List.getD_eq_getElem?_getD, List.getElem?_set_ne (fun e => hbb e.symm)] using hl'
    change (match hp.getD b .hole with
      | .rw _ nx ver es els => setK hp b (.rw true nx ver es els) fun hp => freezeK hp bs k
      | .bx _ cells => setK hp b (.bx true cells) fun hp => freezeK hp bs k
      | .hole => False) at hk
    cases hb : hp.getD b .hole <;> rw [hb] at hk <;> try exact hk.elim
    · simp only [setK_eq] at hk
      exact step _ hb Blk.noConfusion hk
    · simp only [setK_eq] at hk
      exact step _ hb Blk.noConfusion hk

/-- The machine's store of a value's cells. -/
theorem run_storeVar {t : TypeId} {i : TypeInfo} (hi : P.info? t = some i) (w : World) (g off : Nat) (x : Value) (cur : Array Value) (E : TypeId) (hg : w.heap[g]? = some (.cells cur E (0, 0))) (hsz : x.cells.size = i.size) (hfit : off + i.size ≤ cur.size)
    (h1 : ∀ v ∈ x.cells.toList, v.oneCell' = true) :
    (storeVar t ⟨g, off, none⟩ x).run P w = .ok () (w.setRow g (cur.toList.take off ++ x.cells.toList ++ cur.toList.drop (off + i.size)).toArray) := by
  have hst := run_storeCells_at P g off E x.cells.toList 0 cur w hg (by simp; omega) h1
  simp only [Nat.add_zero, Array.length_toList, hsz] at hst
  simp only [List.append_assoc] at hst
  simp [storeVar, sizeOf, typeInfo, hi, hsz]
  exact hst

end Go.YtoeophdffhmpmaaE
