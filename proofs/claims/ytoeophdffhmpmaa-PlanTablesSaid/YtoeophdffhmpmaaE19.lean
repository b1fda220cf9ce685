/- The engine: a loop's head: what is forgotten there; results; a round's parameters. -/
import Derived.Test.YtoeophdffhmpmaaE18
set_option linter.unusedVariables false
set_option linter.unusedSimpArgs false
namespace Go.YtoeophdffhmpmaaE
open Go Go.RowKit

variable {P : Program} {B0 : Nat} {w0 : Wz} {c : Hp} {p : Nat} {o : Oper} {ts : List A} {hp : List Blk}

def renTs' (rn : Nat → Nat → Option (Nat × Nat)) (yn : Nat → Bool) : List A → List Bool → List A
  | [], _ => []
  | _ :: xs, [] => .un :: renTs' rn yn xs []
  | x :: xs, true :: tm => ren2' rn yn x :: renTs' rn yn xs tm
  | _ :: xs, false :: tm => .un :: renTs' rn yn xs tm
section
variable {rn : Nat → Nat → Option (Nat × Nat)} {yn : Nat → Bool}
theorem renTs_eq (xs : List A) (tm : List Bool) (k : List A → Prop) : renTs rn yn xs tm k = k (renTs' rn yn xs tm) := by
  induction xs generalizing tm k with
  | nil => cases tm <;> rfl
  | cons x xs ih =>
    cases tm with
    | nil => exact ih [] fun as => k (.un :: as)
    | cons b tm => cases b with
      | true => show ren2 rn yn x (fun a => renTs rn yn xs tm fun as => k (a :: as)) = _; rw [ren2_eq]; exact ih tm fun as => k (ren2' rn yn x :: as)
      | false => exact ih tm fun as => k (.un :: as)
theorem renTs_length (xs : List A) (tm : List Bool) : (renTs' rn yn xs tm).length = xs.length := by
  induction xs generalizing tm with
  | nil => cases tm <;> rfl
  | cons x xs ih => cases tm with
    | nil => simp [renTs', ih]
    | cons b tm => cases b <;> simp [renTs', ih]
theorem renTs_get (xs : List A) (tm : List Bool) (i : Nat) : (renTs' rn yn xs tm).getD i .un = .un ∨ (renTs' rn yn xs tm).getD i .un = ren2' rn yn (xs.getD i .un) := by
  induction xs generalizing tm i with
  | nil => left; cases tm <;> simp [renTs']
  | cons x xs ih => cases i with
    | zero => cases tm with
      | nil => left; rfl
      | cons b tm => cases b
                     · left; rfl
                     · right; rfl
    | succ i => cases tm with
      | nil => simpa [renTs'] using ih [] i
      | cons b tm => cases b <;> simpa [renTs'] using ih tm i
end
theorem rising_spec {lo : Nat} {bs : List Nat} (h : rising lo bs = true) : (∀ (j b : Nat), bs[j]? = some b → lo ≤ b) ∧ ∀ (i j b : Nat), bs[i]? = some b → bs[j]? = some b → i = j := by
  induction bs generalizing lo with
  | nil => exact ⟨fun j b h => by simp at h, fun i j b h => by simp at h⟩
  | cons c bs ih =>
    have h' : (Nat.ble lo c && rising (c + 1) bs) = true := h
    simp only [Bool.and_eq_true] at h'
    obtain ⟨h1, h2⟩ := h'
    have h1 := Nat.le_of_ble_eq_true h1
    obtain ⟨i1, i2⟩ := ih h2
    refine ⟨fun j b hj => ?_, fun i j b hi hj => ?_⟩
    · cases j with
      | zero => simp at hj; omega
      | succ j => have := i1 j b (by simpa using hj); omega
    · cases i with
      | zero => cases j with
        | zero => rfl
        | succ j => simp at hi; have := i1 j b (by simpa using hj); omega
      | succ i => cases j with
        | zero => simp at hj; have := i1 i b (by simpa using hi); omega
        | succ j => rw [i2 i j b (by simpa using hi) (by simpa using hj)]
theorem posOf_spec {b : Nat} {bs : List Nat} {n j : Nat} (h : posOf b bs n = some j) : n ≤ j ∧ bs[j - n]? = some b := by
  induction bs generalizing n with
  | nil => cases h
  | cons c bs ih =>
    change (match Nat.beq b c with | true => some n | false => posOf b bs (n + 1)) = some j at h
    cases hc : Nat.beq b c with
    | true =>
      rw [hc] at h
      obtain rfl : n = j := by simpa using h
      have := Nat.eq_of_beq_eq_true hc
      subst this
      simp
    | false =>
      rw [hc] at h
      obtain ⟨h1, h2⟩ := ih h
      refine ⟨by omega, ?_⟩
      rw [show j - n = (j - (n + 1)) + 1 by omega]
      simpa using h2
theorem allOver_spec {lp : List Lp} (h : allOver lp = true) : ∀ s ∈ lp, s = .over := by
  induction lp with
  | nil => intro s hs; cases hs
  | cons x lp ih =>
    have h' : (isOver x && allOver lp) = true := h
    simp only [Bool.and_eq_true] at h'
    intro s hs
    rcases List.mem_cons.1 hs with rfl | hs
    · cases s <;> simp [isOver] at h' ⊢
    · exact ih h'.2 s hs
theorem pickK_elim {bs : List Nat} {k : List Blk → Prop} (h : pickK hp bs k) : k (bs.map fun b => ver0 (hp.getD b .hole)) ∧ ∀ b ∈ bs, hp.getD b .hole ≠ .hole := by
  induction bs generalizing k with
  | nil => exact ⟨h, by simp⟩
  | cons b bs ih =>
    change forceB (ver0 (hp.getD b .hole)) (fun x => match x with | .hole => False | x => pickK hp bs fun xs => k (x :: xs)) at h
    cases hb : hp.getD b .hole <;> rw [hb] at h <;> try exact h.elim
    · obtain ⟨h1, h2⟩ := ih (k := fun xs => k (_ :: xs)) h
      refine ⟨by simp only [List.map_cons, hb]; exact h1, fun x hx => ?_⟩
      rcases List.mem_cons.1 hx with rfl | hx
      · rw [hb]; exact Blk.noConfusion
      · exact h2 x hx
    · obtain ⟨h1, h2⟩ := ih (k := fun xs => k (_ :: xs)) h
      refine ⟨by simp only [List.map_cons, hb]; exact h1, fun x hx => ?_⟩
      rcases List.mem_cons.1 hx with rfl | hx
      · rw [hb]; exact Blk.noConfusion
      · exact h2 x hx
theorem ver0_fz (b : Blk) : (ver0 b).fz = b.fz := by cases b <;> rfl
theorem ver0_es (b : Blk) : (ver0 b).es = b.es := by cases b <;> rfl
theorem ver0_ver (b : Blk) : (ver0 b).ver = 0 := by cases b <;> rfl
theorem ver0_hole (b : Blk) : ver0 b = .hole ↔ b = .hole := by cases b <;> simp [ver0]
theorem BR.ver0 {g : Gh} {w : World} {h : Hp} {b : Nat} {k : Blk} (r : BR g w h b k) : BR g w h b (ver0 k) := by cases k <;> exact r

theorem gc_sound {r : Option Nat} {β : Bs} (hβ : BOk β r) {q : Option GC} {lp : List Lp} {k : List A → List Blk → List Lp → Prop} (hk : gcK β.nb β.lp.length q ts hp lp k) :
    ∃ ts2 hp2 lp2, k ts2 hp2 lp2 ∧ ∀ (Γ : Gam) (g : Gh) (w : World) (act : Act), Fr B0 w0 r β Γ g w hp lp ts act → ∃ g2, Fr B0 w0 r β Γ g2 w hp2 lp2 ts2 act := by
  cases q with
  | none => exact ⟨ts, hp, lp, hk, fun Γ g w act f => ⟨g, f⟩⟩
  | some q =>
    obtain ⟨h1, h2⟩ := chk_elim hk
    rw [dropK_eq] at h2
    obtain ⟨h3, h4⟩ := chk_elim h2
    obtain ⟨h5, h6⟩ := takeK_elim h4
    rw [renTs_eq] at h6
    obtain ⟨h7, h8⟩ := takeK_elim h6
    rw [renBs_eq] at h8
    obtain ⟨h9, h10⟩ := pickK_elim h8
    rw [renBs_eq, snocK_eq] at h9
    simp only [Bool.and_eq_true] at h1
    obtain ⟨r1, r2⟩ := rising_spec h1.1
    have hnl := Nat.le_of_ble_eq_true h1.2
    refine ⟨_, _, _, h9, fun Γ g w act f => ?_⟩
    generalize hrn : gcN β.nb q.bs hp = rn
    generalize hyn : (fun i => Nat.blt i q.nl) = yn
    have hlen1 : ((hp.take β.nb).map (renB' rn yn)).length = β.nb := by simp; omega
    generalize hhp2 : (hp.take β.nb).map (renB' rn yn) ++ (q.bs.map fun b => ver0 (hp.getD b .hole)).map (renB' rn yn) = hp2
    have hlow : ∀ b, b < β.nb → hf hp2 b = renB' rn yn (hf hp b) := fun b hb => by
      rw [← hhp2, hf_append_lt _ _ (by rw [hlen1]; exact hb), hf_map _ rfl]
      congr 1
      simp [hf, List.getD_eq_getElem?_getD, List.getElem?_take, hb]
    have hhigh : ∀ (j b : Nat), q.bs[j]? = some b → hf hp2 (β.nb + j) = renB' rn yn (ver0 (hf hp b)) := fun j b hj => by
      have : hf hp2 (((hp.take β.nb).map (renB' rn yn)).length + j) = hf ((q.bs.map fun b => ver0 (hp.getD b .hole)).map (renB' rn yn)) j := by rw [← hhp2, hf_append_ge]
      rw [hlen1] at this
      rw [this, hf_map _ rfl]
      congr 1
      have hjl := (List.getElem?_eq_some_iff.1 hj)
      simp [hf, List.getD_eq_getElem?_getD, hj]
    obtain ⟨g2, hg2⟩ : ∃ g2 : Gh, g2 = ⟨fun x => if x < β.nb then g.m x else g.m (q.bs.getD (x - β.nb) 0), fun x => if x < β.nb then g.cp x else g.cp (q.bs.getD (x - β.nb) 0), g.I, g.ls.take q.nl⟩ := ⟨_, rfl⟩
    have mlow : ∀ b, b < β.nb → g2.m b = g.m b ∧ g2.cp b = g.cp b := fun b hb => by rw [hg2]; simp [hb]
    have mhigh : ∀ (j b : Nat), q.bs[j]? = some b → g2.m (β.nb + j) = g.m b ∧ g2.cp (β.nb + j) = g.cp b := fun j b hj => by
      have e : q.bs.getD (β.nb + j - β.nb) 0 = b := by rw [Nat.add_sub_cancel_left, List.getD_eq_getElem?_getD, hj]; rfl
      rw [hg2]
      dsimp only
      rw [if_neg (by omega), if_neg (by omega), e]
      exact ⟨rfl, rfl⟩
    have hI2 : g2.I = g.I := by rw [hg2]
    have hls2 : g2.ls = g.ls.take q.nl := by rw [hg2]
    have hlive : ∀ b, b ∈ q.bs → Live (hf hp) b := fun b hb => h10 b hb
    have hcase : ∀ x, Live (hf hp2) x → (x < β.nb ∧ Live (hf hp) x) ∨ ∃ (j b : Nat), x = β.nb + j ∧ q.bs[j]? = some b ∧ Live (hf hp) b := fun x hx => by
      by_cases hb : x < β.nb
      · refine .inl ⟨hb, fun h => hx ?_⟩
        rw [hlow x hb, h]; rfl
      · right
        have hxl : x < hp2.length := live_lt hx
        have hj : x - β.nb < q.bs.length := by rw [← hhp2] at hxl; simp at hxl; omega
        refine ⟨x - β.nb, q.bs[x - β.nb], by omega, List.getElem?_eq_getElem hj, hlive _ (List.getElem_mem _)⟩
    have hR : Ren rn yn g (hf hp) g2 (hf hp2) := by
      refine ⟨fun b ver b' v' hr hl hv => ?_, fun x hx => by rw [hI2]; exact hx, fun i l hy hl => ?_⟩
      · rw [← hrn] at hr
        unfold gcN at hr
        cases hb : Nat.blt b β.nb with
        | true =>
          rw [hb] at hr
          simp only [Option.some.injEq, Prod.mk.injEq] at hr
          obtain ⟨rfl, rfl⟩ := hr
          have hbl : b < β.nb := Nat.le_of_ble_eq_true hb
          obtain ⟨m1, m2⟩ := mlow b hbl
          unfold Live at hl ⊢
          rw [hlow b hbl, renB_ver, renB_es]
          exact ⟨fun h => hl ((renB_hole _).1 h), hv, rfl, fun h => ⟨h, m1, m2⟩⟩
        | false =>
          rw [hb] at hr
          dsimp only at hr
          cases hp' : posOf b q.bs 0 with
          | none => rw [hp'] at hr; cases hr
          | some j =>
            rw [hp'] at hr
            dsimp only at hr
            cases hve : Nat.beq ver (hp.getD b .hole).ver with
            | false => rw [hve] at hr; cases hr
            | true =>
              rw [hve] at hr
              simp only [Option.some.injEq, Prod.mk.injEq] at hr
              obtain ⟨rfl, rfl⟩ := hr
              have hj := (posOf_spec hp').2
              rw [Nat.sub_zero] at hj
              obtain ⟨m1, m2⟩ := mhigh j b hj
              unfold Live at hl ⊢
              rw [hhigh j b hj, renB_ver, renB_es, ver0_ver, ver0_es]
              exact ⟨fun h => hl ((ver0_hole _).1 ((renB_hole _).1 h)), Nat.le_refl _, rfl, fun _ => ⟨Nat.eq_of_beq_eq_true hve, m1, m2⟩⟩
      · rw [← hyn] at hy
        have hil : i < q.nl := Nat.le_of_ble_eq_true hy
        rw [hls2, List.getElem?_take_of_lt hil]; exact hl
    have hmx : ∀ x, Live (hf hp2) x → ∃ b, Live (hf hp) b ∧ g2.m x = g.m b ∧ g2.cp x = g.cp b ∧ ((x < β.nb ∧ b = x ∧ hf hp2 x = renB' rn yn (hf hp b)) ∨ (∃ (j : Nat), x = β.nb + j ∧ q.bs[j]? = some b ∧ hf hp2 x = renB' rn yn (ver0 (hf hp b)))) := fun x hx => by
      rcases hcase x hx with ⟨hb, hl⟩ | ⟨j, b, rfl, hj, hl⟩
      · exact ⟨x, hl, (mlow x hb).1, (mlow x hb).2, .inl ⟨hb, rfl, hlow x hb⟩⟩
      · exact ⟨b, hl, (mhigh j b hj).1, (mhigh j b hj).2, .inr ⟨j, rfl, hj, hhigh j b hj⟩⟩
    have hsame : ∀ (x b : Nat), ((x < β.nb ∧ b = x ∧ hf hp2 x = renB' rn yn (hf hp b)) ∨ (∃ (j : Nat), x = β.nb + j ∧ q.bs[j]? = some b ∧ hf hp2 x = renB' rn yn (ver0 (hf hp b)))) → (hf hp2 x).fz = (hf hp b).fz := fun x b h => by
      rcases h with ⟨_, _, h⟩ | ⟨_, _, _, h⟩
      · rw [h, renB_fz]
      · rw [h, renB_fz, ver0_fz]
    refine ⟨g2, ⟨⟨⟨?_, ?_, ?_, ?_, ?_, ?_⟩, f.sw.be, f.sw.b0, fun x hx => f.sw.ib x (by rw [hI2] at hx; exact hx)⟩, ⟨⟨fun b hb => ?_, fun x hx => ?_, fun i l hl => ?_, f.ev.size⟩, fun l hl => ?_, f.ev.oth⟩, ?_, ⟨fun l hl => ?_, ?_, ?_, fun i l s hi hs => ?_⟩, ⟨?_, fun i rd h => ?_⟩, f.gam, f.dm⟩⟩
    · intro x y hx hy hm
      obtain ⟨b, l1, m1, _, c1⟩ := hmx x hx
      obtain ⟨b', l2, m2, _, c2⟩ := hmx y hy
      rw [m1, m2] at hm
      have hbb := f.sw.sh.inj b b' l1 l2 hm
      subst hbb
      rcases c1 with ⟨h1, rfl, _⟩ | ⟨j, rfl, h1, _⟩ <;> rcases c2 with ⟨h2, h3, _⟩ | ⟨j', rfl, h2, _⟩
      · exact h3
      · have := r1 j' _ h2; omega
      · have := r1 j _ h1; omega
      · rw [r2 j j' b h1 h2]
    · intro x hx
      obtain ⟨b, l1, m1, _⟩ := hmx x hx
      rw [m1]; exact f.sw.sh.lo b l1
    · intro x hx; rw [hI2] at hx; exact f.sw.sh.imm x hx
    · intro x hx hf'
      obtain ⟨b, l1, m1, _, c1⟩ := hmx x hx
      rw [hsame x b c1] at hf'
      rw [m1, hI2]; exact f.sw.sh.sep b l1 hf'
    · intro x hx hf'
      obtain ⟨b, l1, m1, _, c1⟩ := hmx x hx
      rw [hsame x b c1] at hf'
      rw [m1, hI2]; exact f.sw.sh.fro b l1 hf'
    · intro x
      by_cases hx : Live (hf hp2) x
      · obtain ⟨b, l1, m1, c1, d1⟩ := hmx x hx
        rcases d1 with ⟨_, _, h⟩ | ⟨_, _, _, h⟩
        · rw [h]; exact BR.rnm hR m1 c1 (f.sw.sh.blk b)
        · rw [h]; exact BR.rnm hR m1 c1 (f.sw.sh.blk b).ver0
      · have : hf hp2 x = .hole := Classical.byContradiction hx
        rw [this]; trivial
    · have hbn := hβ.live b hb
      obtain ⟨e1, e2, e3, e4⟩ := f.ev.live b hb
      unfold Live at e1 ⊢
      rw [hlow b hbn, renB_ver, renB_es, (mlow b hbn).1, (mlow b hbn).2]
      exact ⟨fun h => e1 ((renB_hole _).1 h), e2, e3, e4⟩
    · rw [hI2]; exact f.ev.imm x hx
    · have h1 := f.ev.ls i l hl
      have h2 := (List.getElem?_eq_some_iff.1 hl).1
      rw [hβ.len] at h2
      rw [hls2, List.getElem?_take_of_lt (by omega)]; exact h1
    · rw [hls2] at hl; exact f.ev.lsn l (List.mem_of_mem_take hl)
    · refine ⟨by rw [renTs_length]; exact f.ts.1, fun i => ?_⟩
      rcases renTs_get (rn := rn) (yn := yn) ts q.tm i with h | h
      · rw [h]; exact .un _
      · rw [h]; exact (f.ts.2 i).rn2 hR
    · rw [hls2] at hl; exact f.ld.lo l (List.mem_of_mem_take hl)
    · rw [hls2]; simp [f.ld.len]
    · rw [hls2]; exact f.ld.nd.sublist (List.take_sublist _ _)
    · rw [hls2] at hi
      obtain ⟨hlt, hi2⟩ := List.getElem?_eq_some_iff.1 hi
      have hiq : i < q.nl := by simp at hlt; omega
      rw [List.getElem?_take_of_lt hiq] at hi hs
      exact f.ld.st i l s hi hs
    · rw [List.length_take]; have := f.ao.1; omega
    · refine f.ao.2 i rd ?_
      unfold Act1 at h ⊢
      simp only [List.getElem?_take] at h
      split at h
      · exact h
      · simp at h

theorem maskT_length (ts : List A) (tm : List Bool) : (maskT ts tm).length = ts.length := by
  induction ts generalizing tm with
  | nil => rfl
  | cons x xs ih => cases tm with
    | nil => show (A.un :: maskT xs []).length = _; simp [ih]
    | cons b tm => cases b
                   · show (A.un :: maskT xs tm).length = _; simp [ih]
                   · show (x :: maskT xs tm).length = _; simp [ih]
theorem maskT_get (ts : List A) (tm : List Bool) (i : Nat) : (maskT ts tm).getD i .un = .un ∨ (maskT ts tm).getD i .un = ts.getD i .un := by
  induction ts generalizing tm i with
  | nil => left; show ([] : List A).getD i .un = _; simp
  | cons x xs ih => cases i with
    | zero => cases tm with
      | nil => left; rfl
      | cons b tm => cases b
                     · left; rfl
                     · right; rfl
    | succ i => cases tm with
      | nil => exact ih [] i
      | cons b tm => cases b
                     · exact ih tm i
                     · exact ih tm i
/-- A row's references become what is only read. -/
theorem SW.cv {g : Gh} {w : World} {h : Hp} (s : SW B0 w0 g w h) {b : Nat} {fz nx : Bool} {ver es : Nat} {els els2 : List (List A)} (hh : h b = .rw fz nx ver es els) (hl : els2.length = els.length)
    (hc : ∀ i, i < els.length → (els2.getD i []).length = (els.getD i []).length ∧ ∀ j, j < (els.getD i []).length → plainA ((els2.getD i []).getD j .un) = true ∧
      ∀ arr E, w.heap[g.m b]? = some (.cells arr E (0, 0)) → ∀ h2, VR g w h2 ((els2.getD i []).getD j .un) (arr.getD (i * es + j) undef)) :
    EB g w h g w (setH h b (.rw fz false ver es els2)) ∧ SW B0 w0 g w (setH h b (.rw fz false ver es els2)) := by
  have hlb : Live h b := by unfold Live; rw [hh]; exact Blk.noConfusion
  have hlive : ∀ x, Live (setH h b (.rw fz false ver es els2)) x ↔ Live h x := fun x => by
    unfold Live setH
    by_cases hx : x = b
    · subst hx; simp [hh]
    · simp [hx]
  have hfz : ∀ x, (setH h b (.rw fz false ver es els2) x).fz = (h x).fz := fun x => by
    by_cases hx : x = b
    · subst hx; rw [setH_same, hh]; rfl
    · rw [setH_ne _ _ _ hx]
  have e : Ev g w h g w (setH h b (.rw fz false ver es els2)) := by
    refine ⟨fun x hx => ⟨(hlive x).2 hx, ?_⟩, fun x hx => ⟨hx, .of rfl⟩, fun _ _ h => h, Nat.le_refl _⟩
    by_cases hxb : x = b
    · subst hxb
      rw [setH_same, hh]
      exact ⟨Nat.le_refl _, rfl, fun _ => ⟨rfl, rfl⟩⟩
    · rw [setH_ne _ _ _ hxb]; exact ⟨Nat.le_refl _, rfl, fun _ => ⟨rfl, rfl⟩⟩
  refine ⟨⟨e, rfl, fun x o hx _ => hx⟩, ⟨⟨fun x y hx hy => s.sh.inj x y ((hlive x).1 hx) ((hlive y).1 hy), fun x hx => s.sh.lo x ((hlive x).1 hx), s.sh.imm, fun x hx hf => s.sh.sep x ((hlive x).1 hx) (by rwa [hfz] at hf), fun x hx hf => s.sh.fro x ((hlive x).1 hx) (by rwa [hfz] at hf), fun x => ?_⟩, s.be, s.b0, s.ib⟩⟩
  by_cases hxb : x = b
  · subst hxb
    rw [setH_same]
    obtain ⟨arr, E, h1, h2', h3, h4, h5, h6, h7⟩ := rw_facts s hh
    have row : ∀ i, i < els.length → (els2.getD i []).length = es := fun i hi => by rw [(hc i hi).1]; exact (h6 _ (getD_mem _ _ _ hi)).1
    have gd : ∀ i (hi : i < els2.length), els2.getD i [] = els2[i] := fun i hi => by rw [List.getD_eq_getElem?_getD, List.getElem?_eq_getElem hi]; rfl
    refine ⟨arr, E, h1, h2', h3, by rw [hl]; exact h4, h5, fun c hcm => ?_, fun i j hi hj => ?_⟩
    · obtain ⟨i, hi, rfl⟩ := List.getElem_of_mem hcm
      have hi2 : i < els.length := by omega
      refine ⟨by rw [← gd i hi]; exact row i hi2, fun _ y hy => ?_⟩
      obtain ⟨j, hj, rfl⟩ := List.getElem_of_mem hy
      have := ((hc i hi2).2 j (by rw [← (hc i hi2).1, gd i hi]; exact hj)).1
      rw [gd i hi] at this
      rwa [List.getD_eq_getElem?_getD, List.getElem?_eq_getElem hj] at this
    · have hi2 : i < els.length := by omega
      have hj2 : j < (els.getD i []).length := by rw [(h6 _ (getD_mem els i [] hi2)).1]; exact hj
      exact ((hc i hi2).2 j hj2).2 arr E h1 _
  · rw [setH_ne _ _ _ hxb]
    by_cases hlx : Live h x
    · exact BR.mono e rfl rfl rfl (s.sh.blk x)
    · have : h x = .hole := Classical.byContradiction hlx
      rw [this]; trivial
theorem wk_sound {r : Option Nat} {β : Bs} (hβ : BOk β r) {lp lp2 : List Lp} {ts2 : List A} {hp2 : List Blk} (hk : Wk β.nb β.lp.length ts hp lp ts2 hp2 lp2) :
    ∀ (Γ : Gam) (g : Gh) (w : World) (act : Act), Fr B0 w0 r β Γ g w hp lp ts act → ∃ g2, Fr B0 w0 r β Γ g2 w hp2 lp2 ts2 act := by
  induction hk with
  | refl ts hp lp => exact fun Γ g w act f => ⟨g, f⟩
  | gc q h =>
    obtain ⟨_, _, _, ⟨rfl, rfl, rfl⟩, h2⟩ := gc_sound (B0 := B0) (w0 := w0) hβ h
    exact h2
  | mask tm =>
    intro Γ g w act f
    refine ⟨g, ⟨f.sw, f.ev, ⟨by rw [maskT_length]; exact f.ts.1, fun i => ?_⟩, f.ld, f.ao, f.gam, f.dm⟩⟩
    rcases maskT_get _ tm i with h | h
    · rw [h]; exact .un _
    · rw [h]; exact f.ts.2 i
  | cv b d bs hb hc hbs hfz hb1 =>
    intro Γ g w act f
    obtain ⟨hp', h1, hlen, _, h3⟩ := freezeK_sound (B0 := B0) (w0 := w0) hfz
    subst h1
    obtain ⟨g', e1, s1, m1, i1, j1⟩ := h3 g w f.sw
    have hlt := lt_of_getD (show _ ≠ Blk.hole by rw [hb1]; exact Blk.noConfusion)
    obtain ⟨e2, s2⟩ := s1.cv (h := hf hp') (b := b) hb1 hc.len (fun i hi => ⟨(hc.row i hi).1, fun j hj => by
      have hok := rowsF_sound (fun a k h => convD_sound (B0 := B0) (w0 := w0) h) hc i hi j hj
      refine ⟨hok.1, fun arr E ha h2 => ?_⟩
      obtain ⟨arr0, E0, q1, _, _, _, _, q6, q7⟩ := rw_facts f.sw (show hf _ b = _ from hb)
      rw [m1, q1] at ha
      cases ha
      exact hok.2 g w _ _ f.sw (fun _ _ _ => rfl) (q7 i j hi (by rw [← (q6 _ (getD_mem _ i [] hi)).1]; exact hj)) g' h2 (fun x hx => (e1.imm x hx).1) (fun x hx _ => i1 x (hbs x hx))⟩)
    rw [setH_hf hp' b _ hlt] at e2 s2
    exact ⟨g', f.move (Mv.eb f.ld (e1.trans e2) s2)⟩
  | trans _ _ ih1 ih2 =>
    intro Γ g w act f
    obtain ⟨g1, f1⟩ := ih1 Γ g w act f
    exact ih2 Γ g1 w act f1

end Go.YtoeophdffhmpmaaE
