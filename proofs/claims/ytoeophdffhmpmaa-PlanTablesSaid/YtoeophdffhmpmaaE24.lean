/- The engine: a function's contract out of its run. -/
import Derived.Test.YtoeophdffhmpmaaE23
set_option linter.unusedVariables false
set_option linter.unusedSimpArgs false
namespace Go.YtoeophdffhmpmaaE
open Go Go.RowKit

variable {P : Program} {B0 : Nat} {w0 : Wz} {c : Hp} {p : Nat} {o : Oper} {ts : List A} {hp : List Blk}

theorem convR_sound {a : A} {k : A → Prop} (hk : convR hp a k) :
    ∃ a', k a' ∧ ∀ (g : Gh) (w : World) (h : Hp) (v : Value), SW B0 w0 g w h → (∀ b, Live h b → Live (hf hp) b → h b = hf hp b) → VR g w h a v →
      ∀ (g2 : Gh) (h2 : Hp), (∀ x, g.I x → g2.I x) → (∀ b ∈ blocksR hp a, Live h b → g2.I (g.m b)) → VR g2 w h2 a' v := by
  cases a with
  | tup xs =>
    obtain ⟨ys, k1, k2, k5⟩ := convs_sound (B0 := B0) (w0 := w0) hk
    refine ⟨_, k1, fun g w h v hs hc r g2 h2 hI hb => ?_⟩
    cases r with
    | tup _ vs hl hv => exact .tup _ _ (by omega) (k5 g w h (fun i => vs.getD i undef) hs hc hv g2 h2 hI hb)
  | fn f fst cap =>
    cases fst with
    | cons _ _ => exact convA_sound (B0 := B0) (w0 := w0) hk
    | nil =>
    obtain ⟨ys, k1, k2, k5⟩ := convs_sound (B0 := B0) (w0 := w0) (show convs hp cap _ from hk)
    refine ⟨_, k1, fun g w h v hs hc r g2 h2 hI hb => ?_⟩
    cases r with
    | fn _ _ _ fs vs hl0 hl hv0 hv => exact .fn f _ _ _ _ hl0 (by omega) (fun i hi => by simp at hi) (k5 g w h (fun i => vs.getD i undef) hs hc hv g2 h2 hI hb)
  | _ => exact convA_sound (B0 := B0) (w0 := w0) hk

/-- Blocks picked out, under new names. -/
theorem pick_ren {bs : List Nat} {g : Gh} {w : World} (s : SW B0 w0 g w (hf hp)) (h1 : rising 0 bs = true) (h10 : ∀ b ∈ bs, hp.getD b .hole ≠ .hole) :
    ∃ g2, SW B0 w0 g2 w (hf ((bs.map fun b => ver0 (hp.getD b .hole)).map (renB' (gcN 0 bs hp) noY))) ∧ g2.I = g.I ∧ Ren (gcN 0 bs hp) noY g (hf hp) g2 (hf ((bs.map fun b => ver0 (hp.getD b .hole)).map (renB' (gcN 0 bs hp) noY))) := by
  obtain ⟨r1, r2⟩ := rising_spec h1
  generalize hrn : gcN 0 bs hp = rn
  generalize hhp2 : (bs.map fun b => ver0 (hp.getD b .hole)).map (renB' rn noY) = hp2
  have hhigh : ∀ (j b : Nat), bs[j]? = some b → hf hp2 j = renB' rn noY (ver0 (hf hp b)) := fun j b hj => by
    rw [← hhp2, hf_map _ rfl]
    congr 1
    simp [hf, List.getD_eq_getElem?_getD, hj]
  obtain ⟨g2, hg2⟩ : ∃ g2 : Gh, g2 = ⟨fun x => g.m (bs.getD x 0), fun x => g.cp (bs.getD x 0), g.I, []⟩ := ⟨_, rfl⟩
  have mhigh : ∀ (j b : Nat), bs[j]? = some b → g2.m j = g.m b ∧ g2.cp j = g.cp b := fun j b hj => by
    have e : bs.getD j 0 = b := by rw [List.getD_eq_getElem?_getD, hj]; rfl
    rw [hg2]
    dsimp only
    rw [e]
    exact ⟨rfl, rfl⟩
  have hI2 : g2.I = g.I := by rw [hg2]
  have hcase : ∀ x, Live (hf hp2) x → ∃ b : Nat, bs[x]? = some b ∧ Live (hf hp) b := fun x hx => by
    have hxl : x < hp2.length := live_lt hx
    have hj : x < bs.length := by rw [← hhp2] at hxl; simpa using hxl
    exact ⟨bs[x], List.getElem?_eq_getElem hj, h10 _ (List.getElem_mem _)⟩
  have hR : Ren rn noY g (hf hp) g2 (hf hp2) := by
    refine ⟨fun b ver b' v' hr hl hv => ?_, fun x hx => by rw [hI2]; exact hx, fun i l hy hl => by cases hy⟩
    rw [← hrn] at hr
    unfold gcN at hr
    have hb : Nat.blt b 0 = false := rfl
    rw [hb] at hr
    dsimp only at hr
    cases hp' : posOf b bs 0 with
    | none => rw [hp'] at hr; cases hr
    | some j =>
      rw [hp'] at hr
      dsimp only at hr
      cases hve : Nat.beq ver (hp.getD b .hole).ver with
      | false => rw [hve] at hr; cases hr
      | true =>
        rw [hve] at hr
        simp only [Option.some.injEq, Prod.mk.injEq, Nat.zero_add] at hr
        obtain ⟨rfl, rfl⟩ := hr
        have hj := (posOf_spec hp').2
        rw [Nat.sub_zero] at hj
        obtain ⟨m1, m2⟩ := mhigh j b hj
        unfold Live at hl ⊢
        rw [hhigh j b hj, renB_ver, renB_es, ver0_ver, ver0_es]
        exact ⟨fun h => hl ((ver0_hole _).1 ((renB_hole _).1 h)), Nat.le_refl _, rfl, fun _ => ⟨Nat.eq_of_beq_eq_true hve, m1, m2⟩⟩
  refine ⟨g2, ⟨⟨?_, ?_, ?_, ?_, ?_, ?_⟩, s.be, s.b0, fun x hx => s.ib x (by rw [hI2] at hx; exact hx)⟩, hI2, hR⟩
  · intro x y hx hy hm
    obtain ⟨b, c1, l1⟩ := hcase x hx
    obtain ⟨b', c2, l2⟩ := hcase y hy
    rw [(mhigh x b c1).1, (mhigh y b' c2).1] at hm
    have := s.sh.inj b b' l1 l2 hm
    subst this
    exact r2 x y b c1 c2
  · intro x hx
    obtain ⟨b, c1, l1⟩ := hcase x hx
    rw [(mhigh x b c1).1]; exact s.sh.lo b l1
  · intro x hx; rw [hI2] at hx; exact s.sh.imm x hx
  · intro x hx hf'
    obtain ⟨b, c1, l1⟩ := hcase x hx
    rw [hhigh x b c1, renB_fz, ver0_fz] at hf'
    rw [(mhigh x b c1).1, hI2]; exact s.sh.sep b l1 hf'
  · intro x hx hf'
    obtain ⟨b, c1, l1⟩ := hcase x hx
    rw [hhigh x b c1, renB_fz, ver0_fz] at hf'
    rw [(mhigh x b c1).1, hI2]; exact s.sh.fro b l1 hf'
  · intro x
    by_cases hx : Live (hf hp2) x
    · obtain ⟨b, c1, l1⟩ := hcase x hx
      rw [hhigh x b c1]
      exact BR.rnm hR (mhigh x b c1).1 (mhigh x b c1).2 (s.sh.blk b).ver0
    · have : hf hp2 x = .hole := Classical.byContradiction hx
      rw [this]; trivial

theorem exp_sound {a : A} {r : Res} (hk : expK hp a r) {w1 : World} {I : Nat → Prop} {g : Gh} {w : World} {v : Value} (hI0 : ∀ x, I x → g.I x) (s : SW w1.heap.size ⟨w1, I⟩ g w (hf hp)) (hv : VR g w (hf hp) a v) :
    ∃ g', SW w1.heap.size ⟨w1, I⟩ g' w (hf r.hs) ∧ (∀ x, I x → g'.I x) ∧ VR g' w (hf r.hs) r.v v := by
  rcases hk with hk | ⟨bs, hk⟩
  · obtain ⟨a', h3, h4⟩ := convR_sound (B0 := w1.heap.size) (w0 := ⟨w1, I⟩) hk
    obtain ⟨hp1, h1, hlen, hfz, h2⟩ := freezeK_sound (B0 := w1.heap.size) (w0 := ⟨w1, I⟩) h3
    subst h1
    obtain ⟨g1, e1, s1, m1, i1, j1⟩ := h2 g w s
    refine ⟨g1, ⟨⟨fun b b' hb => ?_, fun b hb => ?_, s1.sh.imm, fun b hb => ?_, fun b hb => ?_, fun b => ?_⟩, s1.be, s1.b0, s1.ib⟩, fun x hx => (e1.imm x (hI0 x hx)).1, h4 g w (hf hp) v s (fun _ _ _ => rfl) hv g1 _ (fun x h => (e1.imm x h).1) (fun b hb hl => i1 b hb)⟩
    all_goals first
      | exact absurd (hf_none [] b (Nat.zero_le _)) (fun h => h hb)
      | (have : hf ([] : List Blk) b = .hole := by simp [hf]
         rw [this]; trivial)
  · obtain ⟨h1, h2⟩ := chk_elim hk
    obtain ⟨h3, h4⟩ := pickK_elim h2
    rw [renBs_eq, ren2_eq] at h3
    subst h3
    obtain ⟨g2, s2, hI2, R⟩ := pick_ren s h1 h4
    exact ⟨g2, s2, fun x hx => by rw [hI2]; exact hI0 x hx, hv.rn2 R⟩

/-- THE CONTRACT OF A FUNCTION, OUT OF ITS RUN. -/
theorem pure_of_run (pf : PF P) {E : EqT} {env : Env} (hE : EqOk P E) (henv : EnvOk P env) (hD : DrawsOk P E env) {f n : Nat} {as : List A} {r : Res} (hk : fnK P E env f n as fun a hp => expK hp a r) : Pure P f as r := by
  obtain ⟨fn, hf, hk1⟩ := optK_elim hk
  obtain ⟨cd, hb, hk2⟩ := optK_elim hk1
  rw [frameK_eq] at hk2
  intro w I vs hI harel
  have hs : SW w.heap.size ⟨w, I⟩ (gI I) w (Go.YtoeophdffhmpmaaE.hf []) := by
    refine ⟨⟨fun b b' hb => ?_, fun b hb => ?_, hI, fun b hb => ?_, fun b hb => ?_, fun b => ?_⟩, Below.refl _ _, Nat.le_refl _, fun x hx => .inl hx⟩
    all_goals first
      | exact absurd (hf_none [] b (Nat.zero_le _)) (fun h => h hb)
      | (have : Go.YtoeophdffhmpmaaE.hf ([] : List Blk) b = .hole := by simp [Go.YtoeophdffhmpmaaE.hf]
         rw [this]; trivial)
  have hf0 : Go.YtoeophdffhmpmaaE.hf [] = fun _ => Blk.hole := by funext b; simp [Go.YtoeophdffhmpmaaE.hf]
  have ld : LD w.heap.size (fun _ => (⟨[], .skip, .skip, []⟩, ⟨.ready, none, 0, #[], #[], .skip, .skip, 0⟩)) [] (gI I) w := ⟨fun l h => by simp [gI] at h, rfl, by simp [gI], fun i l s h => by simp [gI] at h⟩
  have hβ : BOk (Bs.here (gI I) w [] [] (fun _ => (⟨[], .skip, .skip, []⟩, ⟨.ready, none, 0, #[], #[], .skip, .skip, 0⟩))) none := by
    refine ⟨fun i rd h => ?_, fun b hb => ?_, rfl, fun l h => by simp [Bs.here, gI] at h, fun l h => by cases h⟩
    · rcases h with h | h <;> simp [Bs.here] at h
    · exact absurd (hf_none [] b (Nat.zero_le _)) (fun h => h hb)
  have h1 := call_inline pf (run_sound (B0 := w.heap.size) (w0 := ⟨w, I⟩) pf hE henv hD n) hs ld hβ hf hb harel.1 (fun i hi => by rw [hf0]; exact harel.2 i hi) (kk := fun a hp _ => expK hp a r) (as := as) (args := vs) hk2 none 0
  have h2 : CallsIn Fence.wide 0 P f vs w _ := h1
  refine Calls.mono (callsIn_wide.1 h2) ?_
  rintro e w' ⟨v, a, hp', lp', Γ', g', rfl, hka, m, hvr⟩
  obtain ⟨g2, s2, hI2, hv2⟩ := exp_sound hka (fun x hx => (m.ev.imm x hx).1) m.sw hvr
  exact ⟨v, g2, rfl, s2, s2.ib, hI2, hv2⟩

end Go.YtoeophdffhmpmaaE
