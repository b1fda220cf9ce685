/- The engine: calls by contract, whatever they hand back; what an operation comes to, but for appends and what is walked in place. -/
import Derived.Test.YtoeophdffhmpmaaE14
set_option linter.unusedVariables false
set_option linter.unusedSimpArgs false
namespace Go.YtoeophdffhmpmaaE
open Go Go.RowKit

variable {P : Program} {B0 : Nat} {w0 : Wz} {c : Hp} {p : Nat} {o : Oper} {ts : List A} {hp : List Blk}

/-- A callee's own heap behind mine. -/
def Gh.join (g g1 : Gh) (p : Nat) : Gh :=
  ⟨fun b => if b < p then g.m b else g1.m (b - p), fun b => if b < p then g.cp b else g1.cp (b - p), g1.I, g.ls⟩
theorem hf_append_lt (hp hs : List Blk) {b : Nat} (hb : b < hp.length) : hf (hp ++ hs) b = hf hp b := by
  simp [hf, List.getD_eq_getElem?_getD, List.getElem?_append_left hb]
theorem hf_append_ge (hp hs : List Blk) (b : Nat) : hf (hp ++ hs) (hp.length + b) = hf hs b := by
  simp [hf, List.getD_eq_getElem?_getD, List.getElem?_append_right (show hp.length ≤ hp.length + b by omega)]
theorem hf_map (f : Blk → Blk) (hu : f .hole = .hole) (hs : List Blk) (b : Nat) : hf (hs.map f) b = f (hf hs b) := by
  by_cases hi : b < hs.length
  · simp [hf, List.getD_eq_getElem?_getD, hi]
  · simp [hf, List.getD_eq_getElem?_getD, hi, hu]
theorem live_lt {hp : List Blk} {b : Nat} (h : Live (hf hp) b) : b < hp.length := lt_of_getD h
theorem SW.join {g : Gh} {w : World} (s : SW B0 w0 g w (hf hp)) {g1 : Gh} {w' : World} {hs : List Blk} {z : Nat → Prop} (s1 : SW w.heap.size ⟨w, z⟩ g1 w' (hf hs)) (hI : ∀ x, g1.I x → g.I x ∨ w.heap.size ≤ x) (hI' : ∀ x, g.I x → g1.I x) :
    EB g w (hf hp) (g.join g1 hp.length) w' (hf (hp ++ hs.map (renB' (shN hp.length) noY))) ∧ SW B0 w0 (g.join g1 hp.length) w' (hf (hp ++ hs.map (renB' (shN hp.length) noY))) ∧
      Ren (shN hp.length) noY g1 (hf hs) (g.join g1 hp.length) (hf (hp ++ hs.map (renB' (shN hp.length) noY))) := by
  have hnew : ∀ b, hf (hp ++ hs.map (renB' (shN hp.length) noY)) (hp.length + b) = renB' (shN hp.length) noY (hf hs b) := fun b => by rw [hf_append_ge, hf_map _ rfl]
  have hold : ∀ b, b < hp.length → hf (hp ++ hs.map (renB' (shN hp.length) noY)) b = hf hp b := fun b hb => hf_append_lt _ _ hb
  have e : Ev g w (hf hp) (g.join g1 hp.length) w' (hf (hp ++ hs.map (renB' (shN hp.length) noY))) := by
    refine ⟨fun b hl => ?_, fun x hx => ⟨hI' x hx, .of (s1.be.block x (s.sh.imm x hx))⟩, fun _ _ h => h, s1.be.size⟩
    have hlt := live_lt hl
    rw [show Live (hf (hp ++ hs.map (renB' (shN hp.length) noY))) b ↔ Live (hf hp) b from by unfold Live; rw [hold b hlt], hold b hlt]
    exact ⟨hl, Nat.le_refl _, rfl, fun _ => by simp [Gh.join, hlt]⟩
  have hR : Ren (shN hp.length) noY g1 (hf hs) (g.join g1 hp.length) (hf (hp ++ hs.map (renB' (shN hp.length) noY))) := by
    refine ⟨fun b ver b' v' hr hl hv => ?_, fun x hx => hx, fun i l hy _ => by cases hy⟩
    simp only [shN, Option.some.injEq, Prod.mk.injEq] at hr
    obtain ⟨rfl, rfl⟩ := hr
    unfold Live at hl ⊢
    rw [hnew, renB_ver, renB_es]
    refine ⟨fun h => hl ((renB_hole _).1 h), hv, rfl, fun h => ⟨h, ?_, ?_⟩⟩
    · simp only [Gh.join]; rw [if_neg (by omega), Nat.add_sub_cancel_left]
    · simp only [Gh.join]; rw [if_neg (by omega), Nat.add_sub_cancel_left]
  have hcase : ∀ b, Live (hf (hp ++ hs.map (renB' (shN hp.length) noY))) b → (b < hp.length ∧ Live (hf hp) b) ∨ ∃ d, b = hp.length + d ∧ Live (hf hs) d := fun b hl => by
    by_cases hb : b < hp.length
    · exact .inl ⟨hb, by unfold Live at hl ⊢; rwa [hold b hb] at hl⟩
    · refine .inr ⟨b - hp.length, by omega, ?_⟩
      have : b = hp.length + (b - hp.length) := by omega
      rw [this] at hl
      unfold Live at hl ⊢
      rw [hnew] at hl
      exact fun h => hl ((renB_hole _).2 h)
  have mold : ∀ b, b < hp.length → (g.join g1 hp.length).m b = g.m b := fun b hb => by simp [Gh.join, hb]
  have mnew : ∀ d, (g.join g1 hp.length).m (hp.length + d) = g1.m d := fun d => by simp only [Gh.join]; rw [if_neg (by omega), Nat.add_sub_cancel_left]
  have cnew : ∀ d, (g.join g1 hp.length).cp (hp.length + d) = g1.cp d := fun d => by simp only [Gh.join]; rw [if_neg (by omega), Nat.add_sub_cancel_left]
  refine ⟨⟨e, rfl, fun x o hx _ => (s1.be.block x (Array.getElem?_eq_some_iff.1 hx).1).trans hx⟩, ⟨⟨?_, ?_, fun x hx => s1.sh.imm x hx, ?_, ?_, ?_⟩, s.be.trans (s1.be.mono s.b0), Nat.le_trans s.b0 s1.be.size, fun x hx => (hI x hx).elim (s.ib x) (fun h => .inr (Nat.le_trans s.b0 h))⟩, hR⟩
  · intro b b' hb hb' hm
    rcases hcase b hb with ⟨h1, h2⟩ | ⟨d, rfl, h2⟩ <;> rcases hcase b' hb' with ⟨h3, h4⟩ | ⟨d', rfl, h4⟩
    · rw [mold b h1, mold b' h3] at hm; exact s.sh.inj b b' h2 h4 hm
    · rw [mold b h1, mnew] at hm
      have := s.sh.lt h2
      have := s1.sh.lo d' h4
      omega
    · rw [mold b' h3, mnew] at hm
      have := s.sh.lt h4
      have := s1.sh.lo d h2
      omega
    · rw [mnew, mnew] at hm; rw [s1.sh.inj d d' h2 h4 hm]
  · intro b hb
    rcases hcase b hb with ⟨h1, h2⟩ | ⟨d, rfl, h2⟩
    · rw [mold b h1]; exact s.sh.lo b h2
    · rw [mnew]; exact Nat.le_trans s.b0 (s1.sh.lo d h2)
  · intro b hb hf
    rcases hcase b hb with ⟨h1, h2⟩ | ⟨d, rfl, h2⟩
    · rw [hold b h1] at hf
      rw [mold b h1]
      intro hx
      rcases hI _ hx with h | h
      · exact s.sh.sep b h2 hf h
      · have := s.sh.lt h2; omega
    · rw [hnew, renB_fz] at hf
      rw [mnew]; exact s1.sh.sep d h2 hf
  · intro b hb hf
    rcases hcase b hb with ⟨h1, h2⟩ | ⟨d, rfl, h2⟩
    · rw [hold b h1] at hf
      rw [mold b h1]
      exact hI' _ (s.sh.fro b h2 hf)
    · rw [hnew, renB_fz] at hf
      rw [mnew]; exact s1.sh.fro d h2 hf
  · intro b
    by_cases hl : Live (hf (hp ++ hs.map (renB' (shN hp.length) noY))) b
    · rcases hcase b hl with ⟨h1, h2⟩ | ⟨d, rfl, h2⟩
      · rw [hold b h1]
        exact BR.mono e (mold b h1) (by simp [Gh.join, h1]) (s1.be.block _ (s.sh.lt h2)) (s.sh.blk b)
      · rw [hnew]
        exact BR.rnm hR (mnew d) (cnew d) (s1.sh.blk d)
    · have : hf (hp ++ hs.map (renB' (shN hp.length) noY)) b = .hole := Classical.byContradiction hl
      rw [this]; trivial

theorem os_call {env : Env} (henv : EnvOk P env) {cl : Call} {x : Operand} {f : Nat} {fst cap : List A} {T : List A → Res → Prop} {k : A → List Blk → Prop} (ho : o.op = .call cl) (hcl : cl.callee = .value x) (hx : ev ts x = .fn f fst cap) (hT : env f = some T)
    (hk : convs hp (fst ++ cl.args.toList.map (ev ts) ++ cap) fun bs => ∃ r : Res, T bs r ∧ match scalarR r with
      | true => k r.v hp
      | false => freezeK hp (blocksAs hp (fst ++ cl.args.toList.map (ev ts) ++ cap)) fun hp => lenK hp 0 fun p => renBs (shN p) noY r.hs fun hs => snocK hp hs fun hp => ren2 (shN p) noY r.v fun a => k a hp) :
    OS P B0 w0 hp o (ev ts) k := by
  obtain ⟨ys, hk2, hlen, hconv⟩ := convs_sound (B0 := B0) (w0 := w0) hk
  obtain ⟨r, hr, hk3⟩ := hk2
  intro rd g w act N next Q hs hop hnext
  refine ⟨fun f _ => trivial, ?_⟩
  rw [Oper.semAt_eq _ _ _ (by simp [ho])]
  have hx1 := hop x (by simp [ho, Op.operands, Call.operands, hcl])
  rw [hx] at hx1
  obtain ⟨fs, vs, hfe, hl0, hv0, hl, hv⟩ : ∃ fs vs, act.eval x = .func (.func f) fs vs ∧ fst.length = fs.size ∧ (∀ i, i < fst.length → VR g w (hf hp) (fst.getD i .un) (fs.getD i undef)) ∧ cap.length = vs.size ∧ ∀ i, i < cap.length → VR g w (hf hp) (cap.getD i .un) (vs.getD i undef) := by
    generalize act.eval x = y at hx1
    cases hx1 with
    | fn _ _ _ fs vs hl0 hl hv0 hv => exact ⟨fs, vs, rfl, hl0, hv0, hl, hv⟩
  rw [execOp_call ho hcl hfe (henv.ent f T hT)]
  obtain ⟨a1, a2⟩ := call_args (cl := cl) (ρ := act.eval) (fun x hx => hop x (by simp [ho, Op.operands, Call.operands, hx])) hl0 hv0 hl hv
  cases hsc : scalarR r with
  | true =>
    rw [hsc] at hk3
    have harel : ARel (fun x => x < w.heap.size) w ys (fs ++ cl.args.map act.eval ++ vs) :=
      ⟨by omega, hconv g w (hf hp) (fun i => (fs ++ cl.args.map act.eval ++ vs).getD i undef) hs (fun _ _ _ => rfl) a2 (gI (fun x => x < w.heap.size)) (fun _ => .hole) (fun x hx => hs.sh.imm x hx) (fun b _ hl => hs.sh.lt hl)⟩
    refine ⟨fun h => by simp [FW] at h, (callsIn_FW (henv.pure f T hT ys r hr w _ _ (fun x hx => hx) harel)).mono ?_⟩
    rintro e w' ⟨v, g', rfl, hsw, _, _, hvr⟩
    exact hnext r.v hp v w' g hk3 ⟨Ev.below hs hsw.be, rfl, fun x o hx _ => (hsw.be.block x (Array.getElem?_eq_some_iff.1 hx).1).trans hx⟩ (hs.same hsw.be) (scalarR_free hsc hvr g w' (hf hp))
  | false =>
    rw [hsc] at hk3
    obtain ⟨hp1, hk4, hlen1, _, hf1⟩ := freezeK_sound (B0 := B0) (w0 := w0) hk3
    simp only [lenK_eq, Nat.zero_add, renBs_eq, snocK_eq, ren2_eq] at hk4
    obtain ⟨g1, e1, s1, m1, i1, j1⟩ := hf1 g w hs
    have harel : ARel g1.I w ys (fs ++ cl.args.map act.eval ++ vs) :=
      ⟨by omega, hconv g w (hf hp) (fun i => (fs ++ cl.args.map act.eval ++ vs).getD i undef) hs (fun _ _ _ => rfl) a2 (gI g1.I) (fun _ => .hole) (fun x hx => (e1.imm x hx).1) (fun b hb _ => i1 b hb)⟩
    refine ⟨fun h => by simp [FW] at h, (callsIn_FW (henv.pure f T hT ys r hr w _ _ s1.sh.imm harel)).mono ?_⟩
    rintro e w' ⟨v, g', rfl, hsw, hI1, hI2, hvr⟩
    obtain ⟨e2, s2, R⟩ := s1.join hsw hI1 hI2
    exact hnext _ _ v w' _ hk4 (e1.trans e2) s2 (hvr.rn2 R)

end Go.YtoeophdffhmpmaaE
