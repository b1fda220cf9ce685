/- E14: The engine: nil, literals of slices with what is frozen, other names, calls by contract. E15: The engine: calls by contract, whatever they hand back; what an operation comes to, but for appends and what is walked in place. E16: The engine: append. E17: The engine: all operations in their text's order. E18: The engine: frames, loops' records, regions. E19: The engine: a loop's head: what is forgotten there; results; a round's parameters. E20: The engine: results, a round's parameters, a new frame, a loop's record turned. E21: The engine: what is walked in place: functions, rounds. E22: The engine: THE RUN IS SOUND. E23: The engine: THE RUN IS SOUND, whatever the code. E24: The engine: a function's contract out of its run. E25: The engine: regions that draw: whatever order is drawn, it comes to the text's. First: what the quiet operations come to; the order's bits. E26: The engine: regions that draw: the orders, and what they come to. E27: The engine: regions that draw are sound. E28: The engine: contracts, in the form in which they are proved. E29: The engine: '==' of structs of numbers and bools. -/
import Derived.Test.YtoeophdffhmpmaaG1

section
set_option linter.unusedVariables false
set_option linter.unusedSimpArgs false
namespace Go.YtoeophdffhmpmaaE
open Go Go.RowKit

variable {P : Program} {B0 : Nat} {w0 : Wz} {c : Hp} {p : Nat} {o : Oper} {ts : List A} {hp : List Blk}

theorem run_equalIn_slice_nil (w : World) (d : Nat) (t e : TypeId) (a : Option Addr) (l c : Nat) (h : P.underlying t = some (.slice e)) : (Op.equalIn (d + 1) t (.slice a l c) (.slice none 0 0)).run P w = .ok a.isNone w := by
  cases a <;> simp [Op.equalIn, run_underlying h]
theorem run_equal_slice_nil (w : World) (t e : TypeId) (a : Option Addr) (l c : Nat) (h : P.underlying t = some (.slice e)) : (Op.equal t (.slice a l c) (.slice none 0 0)).run P w = .ok a.isNone w := run_equalIn_slice_nil w 9999 t e a l c h
theorem run_eql_slice_nil {t e : TypeId} (h : P.underlying t = some (.slice e)) (w : World) (a : Option Addr) (l c : Nat) : (binOp .eql t (.slice a l c) (.slice none 0 0)).run P w = .ok (.bool a.isNone) w := by
  simp [binOp, run_equal_slice_nil w t e a l c h]
theorem run_neq_slice_nil {t e : TypeId} (h : P.underlying t = some (.slice e)) (w : World) (a : Option Addr) (l c : Nat) : (binOp .neq t (.slice a l c) (.slice none 0 0)).run P w = .ok (.bool (!a.isNone)) w := by
  simp [binOp, run_equal_slice_nil w t e a l c h]
theorem os_nil_ro {op : BinOp} {t yt : TypeId} {x : Operand} {els : List (List A)} {k : A → List Blk → Prop} (ho : o.op = .binOp op t x (.const (.slice none 0 0)) yt) (hx : ev ts x = .ro els)
    (hk : nilK P op t els fun z => k z hp) : OS P B0 w0 hp o (ev ts) k := by
  unfold nilK at hk
  cases hu : P.underlying t <;> rw [hu] at hk <;> try exact hk.elim
  rename_i d
  cases d <;> try exact hk.elim
  have key : ∀ (g : Gh) (w : World) (act : Act), (∀ y ∈ o.op.operands, VR g w (hf hp) (ev ts y) (act.eval y)) → ∃ a cap, act.eval x = .slice a els.length cap ∧ (a.isNone = true → els = []) := by
    intro g w act hop
    have h4 := hop x (by simp [ho, Op.operands])
    rw [hx] at h4
    obtain ⟨a, cap, es, blk, off, vals, he, h0, _⟩ := h4.ro_inv
    refine ⟨a, cap, he, fun hn => ?_⟩
    by_cases hne : els = []
    · exact hne
    · rw [(h0 hne).1] at hn; cases hn
  cases op <;> try exact hk.elim
  · refine OS.run (by simp [ho]) fun g w act hs hop => ?_
    obtain ⟨a, cap, he, hn⟩ := key g w act hop
    exact ⟨_, w, _, hp, g, execOp_bin ho (by rw [he]; exact eqGuard_slice ..) (by rw [he]; exact run_eql_slice_nil hu w a _ cap), hk _ hn, EB.refl _ _ _, hs, .v _ rfl⟩
  · refine OS.run (by simp [ho]) fun g w act hs hop => ?_
    obtain ⟨a, cap, he, hn⟩ := key g w act hop
    exact ⟨_, w, _, hp, g, execOp_bin ho (by rw [he]; exact eqGuard_slice ..) (by rw [he]; exact run_neq_slice_nil hu w a _ cap), hk _ (by simpa using hn), EB.refl _ _ _, hs, .v _ rfl⟩
theorem os_nil_nil {op : BinOp} {t yt e : TypeId} {x : Operand} {k : A → List Blk → Prop} (ho : o.op = .binOp op t x (.const (.slice none 0 0)) yt) (hx : ev ts x = .v (.slice none 0 0)) (hu : P.underlying t = some (.slice e))
    (hk : match op with | .eql => k (.v (.bool true)) hp | .neq => k (.v (.bool false)) hp | _ => False) : OS P B0 w0 hp o (ev ts) k := by
  have key : ∀ (g : Gh) (w : World) (act : Act), (∀ y ∈ o.op.operands, VR g w (hf hp) (ev ts y) (act.eval y)) → act.eval x = .slice none 0 0 := by
    intro g w act hop
    have h4 := hop x (by simp [ho, Op.operands])
    rw [hx] at h4
    exact h4.v_inv.1
  cases op <;> try exact hk.elim
  · refine OS.run (by simp [ho]) fun g w act hs hop => ?_
    have he := key g w act hop
    exact ⟨_, w, _, hp, g, execOp_bin ho (by rw [he]; exact eqGuard_slice ..) (by rw [he]; exact run_eql_slice_nil hu w none _ 0), hk, EB.refl _ _ _, hs, .v _ rfl⟩
  · refine OS.run (by simp [ho]) fun g w act hs hop => ?_
    have he := key g w act hop
    exact ⟨_, w, _, hp, g, execOp_bin ho (by rw [he]; exact eqGuard_slice ..) (by rw [he]; exact run_neq_slice_nil hu w none _ 0), hk, EB.refl _ _ _, hs, .v _ rfl⟩

theorem os_buildSlice {t e : TypeId} {inf : TypeInfo} {z : Value} {len : Nat} {parts : Array (Nat × Operand)} {k : A → List Blk → Prop} (ho : o.op = .buildSlice t len parts) (hu : P.underlying t = some (.slice e)) (hi : P.info? e = some inf) (hz : inf.zero = some z)
    (hlen : parts.size = len) (hs0 : 0 < inf.size) (hlim : len * inf.size ≤ 4096)
    (hk : partsK hp ts inf.size 0 parts.toList fun els bs => match bs with
      | [] => lenK hp 0 fun p => snocK hp [.rw false false 0 inf.size els] fun hp => k (.sl p 0 inf.size 0 len) hp
      | b :: bs => (freezeK hp (b :: bs) fun hp => lenK hp 0 fun p => snocK hp [.rw false false 0 inf.size els] fun hp => k (.sl p 0 inf.size 0 len) hp) ∨
          keptK ts inf.size 0 parts.toList fun els => lenK hp 0 fun p => snocK hp [.rw false true 0 inf.size els] fun hp => k (.sl p 0 inf.size 0 len) hp) :
    OS P B0 w0 hp o (ev ts) k := by
  obtain ⟨els, bs, k1, k2, k3, k4⟩ := partsK_sound (B0 := B0) (w0 := w0) hk
  have hm : len ≤ 4096 := Nat.le_trans (Nat.le_mul_of_pos_right _ hs0) hlim
  have k6 : (freezeK hp bs fun hp => lenK hp 0 fun p => snocK hp [.rw false false 0 inf.size els] fun hp => k (.sl p 0 inf.size 0 len) hp) ∨
          keptK ts inf.size 0 parts.toList fun els => lenK hp 0 fun p => snocK hp [.rw false true 0 inf.size els] fun hp => k (.sl p 0 inf.size 0 len) hp := by
    cases bs with
    | nil => exact .inl k1
    | cons b bs => exact k1
  rcases k6 with k6 | k6
  rotate_left
  · obtain ⟨els, k1, k2, k3, k4⟩ := keptK_sound k6
    rw [lenK_eq, Nat.zero_add, snocK_eq] at k1
    refine OS.run (by simp [ho]) fun g w act hs hop => ?_
    obtain ⟨arr, r1, r2, r3⟩ := lit_kept (els := els) (ρ := act.eval) hu hi hz hs0 hlim hlen (fun arr hfit => (k4 g w (hf hp) act.eval arr (fun q hq => hop q.2 (by rw [ho]; exact mem_parts hq)) hfit).imp fun arr' q => ⟨q.1, q.2.1, q.2.2.2⟩) w
    have hl2 : els.length = len := by rw [k2]; simpa using hlen
    have hb : Below w.heap.size w (w.alloc (.cells arr e)) := (Below.refl _ _).alloc (Nat.le_refl _) _
    have hnb : NB g w (hf hp) arr len (.rw false true 0 inf.size els) := ⟨rfl, hs0, r2, by omega, by simp only [maxLen]; omega, fun c hc => ⟨k3 c hc, fun h => by cases h⟩, r3⟩
    obtain ⟨e2, s2⟩ := hs.add hb (Nat.le_refl _) (heap_alloc_new w _) (hf_none hp hp.length (Nat.le_refl _)) hnb
    have hh : addH (hf hp) hp.length [Blk.rw false true 0 inf.size els] hp.length = .rw false true 0 inf.size els := by rw [addH_one, if_pos rfl]
    have hv : VR (g.at hp.length w.heap.size len) (w.alloc (.cells arr e)) (addH (hf hp) hp.length [.rw false true 0 inf.size els]) (.sl hp.length 0 inf.size 0 len) (.slice (some ⟨w.heap.size, 0, none⟩) len len) :=
      .sl hp.length 0 inf.size 0 _ _ rfl (by unfold Live; rw [hh]; exact Blk.noConfusion) (Nat.zero_le _) (by rw [hh]; rfl) (fun _ => ⟨_, _, rfl, by omega, by simp [Gh.at], fun _ => by simp [Gh.at]⟩)
    rw [addH_hf] at e2 s2 hv
    exact ⟨_, _, _, _, _, by simp only [execOp, ho, Sem.run_bind, r1, Result.andThen_ok, Sem.run_pure], k1, e2, s2, hv⟩
  obtain ⟨hp1, k5, hlen1, _, hf1⟩ := freezeK_sound (B0 := B0) (w0 := w0) k6
  rw [lenK_eq, Nat.zero_add, snocK_eq] at k5
  refine OS.run (by simp [ho]) fun g w act hs hop => ?_
  obtain ⟨arr, r1, r2, r3⟩ := lit_fill (ρ := act.eval) hu hi hz hs0 hlim hlen k2 k3 hs (fun _ _ _ => rfl) (fun q hq => hop q.2 (by rw [ho]; exact mem_parts hq)) k4
  obtain ⟨g1, e1, s1, m1, i1, j1⟩ := hf1 g w hs
  have hl2 : els.length = len := by rw [k2]; simpa using hlen
  have hb : Below w.heap.size w (w.alloc (.cells arr e)) := (Below.refl _ _).alloc (Nat.le_refl _) _
  have hnb : NB g1 w (hf hp1) arr len (.rw false false 0 inf.size els) := ⟨rfl, hs0, r2, by omega, by simp only [maxLen]; omega, fun c hc => ⟨(k3 c hc).1, fun _ => (k3 c hc).2⟩, r3 g1 (hf hp1) (fun x hx => (e1.imm x hx).1) (fun b hb _ => i1 b hb)⟩
  obtain ⟨e2, s2⟩ := s1.add hb (Nat.le_refl _) (heap_alloc_new w _) (hf_none hp1 hp1.length (Nat.le_refl _)) hnb
  have hh : addH (hf hp1) hp1.length [Blk.rw false false 0 inf.size els] hp1.length = .rw false false 0 inf.size els := by rw [addH_one, if_pos rfl]
  have hv : VR (g1.at hp1.length w.heap.size len) (w.alloc (.cells arr e)) (addH (hf hp1) hp1.length [.rw false false 0 inf.size els]) (.sl hp1.length 0 inf.size 0 len) (.slice (some ⟨w.heap.size, 0, none⟩) len len) :=
    .sl hp1.length 0 inf.size 0 _ _ rfl (by unfold Live; rw [hh]; exact Blk.noConfusion) (Nat.zero_le _) (by rw [hh]; rfl) (fun _ => ⟨_, _, rfl, by omega, by simp [Gh.at], fun _ => by simp [Gh.at]⟩)
  rw [addH_hf] at e2 s2 hv
  exact ⟨_, _, _, _, _, by simp only [execOp, ho, Sem.run_bind, r1, Result.andThen_ok, Sem.run_pure], k5, e1.trans e2, s2, hv⟩

end Go.YtoeophdffhmpmaaE
end

section
set_option linter.unusedVariables false
set_option linter.unusedSimpArgs false
namespace Go.YtoeophdffhmpmaaE
open Go Go.RowKit

variable {P : Program} {B0 : Nat} {w0 : Wz} {c : Hp} {p : Nat} {o : Oper} {ts : List A} {hp : List Blk}

/-- A callee's own heap behind mine. -/
def Gh.join (g g1 : Gh) (p : Nat) : Gh :=
  ⟨fun b => if b < p then g.m b else g1.m (b - p), fun b => if b < p then g.cp b else g1.cp (b - p), g1.I, g.ls⟩
theorem hf_append_lt (hp hs : List Blk) {b : Nat} (hb : b < hp.length) : hf (hp ++ hs) b = hf hp b := by
  simp [hf, List.getD_eq_getElem?_getD, List.getElem?_append_left hb]
theorem hf_append_ge (hp hs : List Blk) (b : Nat) : hf (hp ++ hs) (hp.length + b) = hf hs b := by
  simp [hf, List.getD_eq_getElem?_getD, List.getElem?_append_right (show hp.length ≤ hp.length + b by omega)]
theorem hf_map (f : Blk → Blk) (hu : f .hole = .hole) (hs : List Blk) (b : Nat) : hf (hs.map f) b = f (hf hs b) := by
  by_cases hi : b < hs.length
  · simp [hf, List.getD_eq_getElem?_getD, hi]
  · simp [hf, List.getD_eq_getElem?_getD, hi, hu]
theorem live_lt {hp : List Blk} {b : Nat} (h : Live (hf hp) b) : b < hp.length := lt_of_getD h
theorem SW.join {g : Gh} {w : World} (s : SW B0 w0 g w (hf hp)) {g1 : Gh} {w' : World} {hs : List Blk} {z : Nat → Prop} (s1 : SW w.heap.size ⟨w, z⟩ g1 w' (hf hs)) (hI : ∀ x, g1.I x → g.I x ∨ w.heap.size ≤ x) (hI' : ∀ x, g.I x → g1.I x) :
    EB g w (hf hp) (g.join g1 hp.length) w' (hf (hp ++ hs.map (renB' (shN hp.length) noY))) ∧ SW B0 w0 (g.join g1 hp.length) w' (hf (hp ++ hs.map (renB' (shN hp.length) noY))) ∧
      Ren (shN hp.length) noY g1 (hf hs) (g.join g1 hp.length) (hf (hp ++ hs.map (renB' (shN hp.length) noY))) := by
  have hnew : ∀ b, hf (hp ++ hs.map (renB' (shN hp.length) noY)) (hp.length + b) = renB' (shN hp.length) noY (hf hs b) := fun b => by rw [hf_append_ge, hf_map _ rfl]
  have hold : ∀ b, b < hp.length → hf (hp ++ hs.map (renB' (shN hp.length) noY)) b = hf hp b := fun b hb => hf_append_lt _ _ hb
  have e : Ev g w (hf hp) (g.join g1 hp.length) w' (hf (hp ++ hs.map (renB' (shN hp.length) noY))) := by
    refine ⟨fun b hl => ?_, fun x hx => ⟨hI' x hx, .of (s1.be.block x (s.sh.imm x hx))⟩, fun _ _ h => h, s1.be.size⟩
    have hlt := live_lt hl
    rw [show Live (hf (hp ++ hs.map (renB' (shN hp.length) noY))) b ↔ Live (hf hp) b from by unfold Live; rw [hold b hlt], hold b hlt]
    exact ⟨hl, Nat.le_refl _, rfl, fun _ => by simp [Gh.join, hlt]⟩
  have hR : Ren (shN hp.length) noY g1 (hf hs) (g.join g1 hp.length) (hf (hp ++ hs.map (renB' (shN hp.length) noY))) := by
    refine ⟨fun b ver b' v' hr hl hv => ?_, fun x hx => hx, fun i l hy _ => by cases hy⟩
    simp only [shN, Option.some.injEq, Prod.mk.injEq] at hr
    obtain ⟨rfl, rfl⟩ := hr
    unfold Live at hl ⊢
    rw [hnew, renB_ver, renB_es]
    refine ⟨fun h => hl ((renB_hole _).1 h), hv, rfl, fun h => ⟨h, ?_, ?_⟩⟩
    · simp only [Gh.join]; rw [if_neg (by omega), Nat.add_sub_cancel_left]
    · simp only [Gh.join]; rw [if_neg (by omega), Nat.add_sub_cancel_left]
  have hcase : ∀ b, Live (hf (hp ++ hs.map (renB' (shN hp.length) noY))) b → (b < hp.length ∧ Live (hf hp) b) ∨ ∃ d, b = hp.length + d ∧ Live (hf hs) d := fun b hl => by
    by_cases hb : b < hp.length
    · exact .inl ⟨hb, by unfold Live at hl ⊢; rwa [hold b hb] at hl⟩
    · refine .inr ⟨b - hp.length, by omega, ?_⟩
      have : b = hp.length + (b - hp.length) := by omega
      rw [this] at hl
      unfold Live at hl ⊢
      rw [hnew] at hl
      exact fun h => hl ((renB_hole _).2 h)
  have mold : ∀ b, b < hp.length → (g.join g1 hp.length).m b = g.m b := fun b hb => by simp [Gh.join, hb]
  have mnew : ∀ d, (g.join g1 hp.length).m (hp.length + d) = g1.m d := fun d => by simp only [Gh.join]; rw [if_neg (by omega), Nat.add_sub_cancel_left]
  have cnew : ∀ d, (g.join g1 hp.length).cp (hp.length + d) = g1.cp d := fun d => by simp only [Gh.join]; rw [if_neg (by omega), Nat.add_sub_cancel_left]
  refine ⟨⟨e, rfl, fun x o hx _ => (s1.be.block x (Array.getElem?_eq_some_iff.1 hx).1).trans hx⟩, ⟨⟨?_, ?_, fun x hx => s1.sh.imm x hx, ?_, ?_, ?_⟩, s.be.trans (s1.be.mono s.b0), Nat.le_trans s.b0 s1.be.size, fun x hx => (hI x hx).elim (s.ib x) (fun h => .inr (Nat.le_trans s.b0 h))⟩, hR⟩
  · intro b b' hb hb' hm
    rcases hcase b hb with ⟨h1, h2⟩ | ⟨d, rfl, h2⟩ <;> rcases hcase b' hb' with ⟨h3, h4⟩ | ⟨d', rfl, h4⟩
    · rw [mold b h1, mold b' h3] at hm; exact s.sh.inj b b' h2 h4 hm
    · rw [mold b h1, mnew] at hm
      have := s.sh.lt h2
      have := s1.sh.lo d' h4
      omega
    · rw [mold b' h3, mnew] at hm
      have := s.sh.lt h4
      have := s1.sh.lo d h2
      omega
    · rw [mnew, mnew] at hm; rw [s1.sh.inj d d' h2 h4 hm]
  · intro b hb
    rcases hcase b hb with ⟨h1, h2⟩ | ⟨d, rfl, h2⟩
    · rw [mold b h1]; exact s.sh.lo b h2
    · rw [mnew]; exact Nat.le_trans s.b0 (s1.sh.lo d h2)
  · intro b hb hf
    rcases hcase b hb with ⟨h1, h2⟩ | ⟨d, rfl, h2⟩
    · rw [hold b h1] at hf
      rw [mold b h1]
      intro hx
      rcases hI _ hx with h | h
      · exact s.sh.sep b h2 hf h
      · have := s.sh.lt h2; omega
    · rw [hnew, renB_fz] at hf
      rw [mnew]; exact s1.sh.sep d h2 hf
  · intro b hb hf
    rcases hcase b hb with ⟨h1, h2⟩ | ⟨d, rfl, h2⟩
    · rw [hold b h1] at hf
      rw [mold b h1]
      exact hI' _ (s.sh.fro b h2 hf)
    · rw [hnew, renB_fz] at hf
      rw [mnew]; exact s1.sh.fro d h2 hf
  · intro b
    by_cases hl : Live (hf (hp ++ hs.map (renB' (shN hp.length) noY))) b
    · rcases hcase b hl with ⟨h1, h2⟩ | ⟨d, rfl, h2⟩
      · rw [hold b h1]
        exact BR.mono e (mold b h1) (by simp [Gh.join, h1]) (s1.be.block _ (s.sh.lt h2)) (s.sh.blk b)
      · rw [hnew]
        exact BR.rnm hR (mnew d) (cnew d) (s1.sh.blk d)
    · have : hf (hp ++ hs.map (renB' (shN hp.length) noY)) b = .hole := Classical.byContradiction hl
      rw [this]; trivial

theorem os_call {env : Env} (henv : EnvOk P env) {cl : Call} {x : Operand} {f : Nat} {fst cap : List A} {T : List A → Res → Prop} {k : A → List Blk → Prop} (ho : o.op = .call cl) (hcl : cl.callee = .value x) (hx : ev ts x = .fn f fst cap) (hT : env f = some T)
    (hk : convs hp (fst ++ cl.args.toList.map (ev ts) ++ cap) fun bs => ∃ r : Res, T bs r ∧ match scalarR r with
      | true => k r.v hp
      | false => freezeK hp (blocksAs hp (fst ++ cl.args.toList.map (ev ts) ++ cap)) fun hp => lenK hp 0 fun p => renBs (shN p) noY r.hs fun hs => snocK hp hs fun hp => ren2 (shN p) noY r.v fun a => k a hp) :
    OS P B0 w0 hp o (ev ts) k := by
  obtain ⟨ys, hk2, hlen, hconv⟩ := convs_sound (B0 := B0) (w0 := w0) hk
  obtain ⟨r, hr, hk3⟩ := hk2
  intro rd g w act N next Q hs hop hnext
  refine ⟨fun f _ => trivial, ?_⟩
  rw [Oper.semAt_eq _ _ _ (by simp [ho])]
  have hx1 := hop x (by simp [ho, Op.operands, Call.operands, hcl])
  rw [hx] at hx1
  obtain ⟨fs, vs, hfe, hl0, hv0, hl, hv⟩ : ∃ fs vs, act.eval x = .func (.func f) fs vs ∧ fst.length = fs.size ∧ (∀ i, i < fst.length → VR g w (hf hp) (fst.getD i .un) (fs.getD i undef)) ∧ cap.length = vs.size ∧ ∀ i, i < cap.length → VR g w (hf hp) (cap.getD i .un) (vs.getD i undef) := by
    generalize act.eval x = y at hx1
    cases hx1 with
    | fn _ _ _ fs vs hl0 hl hv0 hv => exact ⟨fs, vs, rfl, hl0, hv0, hl, hv⟩
  rw [execOp_call ho hcl hfe (henv.ent f T hT)]
  obtain ⟨a1, a2⟩ := call_args (cl := cl) (ρ := act.eval) (fun x hx => hop x (by simp [ho, Op.operands, Call.operands, hx])) hl0 hv0 hl hv
  cases hsc : scalarR r with
  | true =>
    rw [hsc] at hk3
    have harel : ARel (fun x => x < w.heap.size) w ys (fs ++ cl.args.map act.eval ++ vs) :=
      ⟨by omega, hconv g w (hf hp) (fun i => (fs ++ cl.args.map act.eval ++ vs).getD i undef) hs (fun _ _ _ => rfl) a2 (gI (fun x => x < w.heap.size)) (fun _ => .hole) (fun x hx => hs.sh.imm x hx) (fun b _ hl => hs.sh.lt hl)⟩
    refine ⟨fun h => by simp [FW] at h, (callsIn_FW (henv.pure f T hT ys r hr w _ _ (fun x hx => hx) harel)).mono ?_⟩
    rintro e w' ⟨v, g', rfl, hsw, _, _, hvr⟩
    exact hnext r.v hp v w' g hk3 ⟨Ev.below hs hsw.be, rfl, fun x o hx _ => (hsw.be.block x (Array.getElem?_eq_some_iff.1 hx).1).trans hx⟩ (hs.same hsw.be) (scalarR_free hsc hvr g w' (hf hp))
  | false =>
    rw [hsc] at hk3
    obtain ⟨hp1, hk4, hlen1, _, hf1⟩ := freezeK_sound (B0 := B0) (w0 := w0) hk3
    simp only [lenK_eq, Nat.zero_add, renBs_eq, snocK_eq, ren2_eq] at hk4
    obtain ⟨g1, e1, s1, m1, i1, j1⟩ := hf1 g w hs
    have harel : ARel g1.I w ys (fs ++ cl.args.map act.eval ++ vs) :=
      ⟨by omega, hconv g w (hf hp) (fun i => (fs ++ cl.args.map act.eval ++ vs).getD i undef) hs (fun _ _ _ => rfl) a2 (gI g1.I) (fun _ => .hole) (fun x hx => (e1.imm x hx).1) (fun b hb _ => i1 b hb)⟩
    refine ⟨fun h => by simp [FW] at h, (callsIn_FW (henv.pure f T hT ys r hr w _ _ s1.sh.imm harel)).mono ?_⟩
    rintro e w' ⟨v, g', rfl, hsw, hI1, hI2, hvr⟩
    obtain ⟨e2, s2, R⟩ := s1.join hsw hI1 hI2
    exact hnext _ _ v w' _ hk4 (e1.trans e2) s2 (hvr.rn2 R)

end Go.YtoeophdffhmpmaaE
end

section
set_option linter.unusedVariables false
set_option linter.unusedSimpArgs false
namespace Go.YtoeophdffhmpmaaE
open Go Go.RowKit

variable {P : Program} {B0 : Nat} {w0 : Wz} {c : Hp} {p : Nat} {o : Oper} {ts : List A} {hp : List Blk}

theorem nat_of_int {a b : Nat} (h : (a : Int) * b ≤ 70368744177664) : a * b ≤ 70368744177664 := by
  have h2 : ((a * b : Nat) : Int) ≤ 70368744177664 := by rw [Int.natCast_mul]; exact h
  omega
def flat (es : Nat) (vals : Nat → Nat → Value) (n : Nat) : List Value := (List.range (n * es)).map fun q => vals (q / es) (q % es)
theorem flat_length (es : Nat) (vals : Nat → Nat → Value) (n : Nat) : (flat es vals n).length = n * es := by simp [flat]
theorem flat_get {es : Nat} {vals : Nat → Nat → Value} {n q : Nat} {u : Value} (h0 : 0 < es) (h : (flat es vals n)[q]? = some u) : ∃ i j, q = i * es + j ∧ i < n ∧ j < es ∧ u = vals i j := by
  obtain ⟨h1, h2⟩ := List.getElem?_eq_some_iff.1 h
  rw [flat_length] at h1
  refine ⟨q / es, q % es, ?_, ?_, Nat.mod_lt _ h0, ?_⟩
  · rw [Nat.mul_comm]; exact (Nat.div_add_mod q es).symm
  · exact (Nat.div_lt_iff_lt_mul h0).2 h1
  · rw [← h2]; simp [flat]
theorem flat_getD {es : Nat} {vals : Nat → Nat → Value} {n i j : Nat} (hi : i < n) (hj : j < es) : (flat es vals n).getD (i * es + j) undef = vals i j := by
  have h0 : 0 < es := by omega
  have := idx_lt hi hj
  have e1 : (i * es + j) / es = i := by rw [Nat.mul_comm, Nat.mul_add_div h0, Nat.div_eq_of_lt hj, Nat.add_zero]
  have e2 : (i * es + j) % es = j := by rw [Nat.mul_comm, Nat.mul_add_mod, Nat.mod_eq_of_lt hj]
  simp [flat, List.getD_eq_getElem?_getD, this, e1, e2]

section
variable {t ty e : TypeId} {i : TypeInfo} {z : Value}
theorem run_append_zero (ht : P.underlying t = some (.slice e)) (hi : P.info? e = some i) (w : World) (p0 a : Option Addr) (n cap cc : Nat) (hn : n ≤ cap) (hp : p0 = none → cap = 0) :
    (Builtin.append_ #[t, t] ty #[.slice p0 n cap, .slice a 0 cc]).run P w = .ok (.slice p0 n cap) w := by
  cases p0 with
  | none =>
    have := hp rfl
    subst this
    obtain rfl : n = 0 := by omega
    cases a <;> simp [Builtin.append_, run_underlying ht, sizeOf, typeInfo, hi, Builtin.lenOf, Builtin.firstCells, loadCells, loadCellsFrom]
  | some p0 =>
    cases a <;> simp [Builtin.append_, run_underlying ht, sizeOf, typeInfo, hi, Builtin.lenOf, Builtin.firstCells, loadCells, loadCellsFrom, hn, storeCells]
theorem run_append_roomE (w : World) (ht : P.underlying t = some (.slice e)) (hi : P.info? e = some i)
    (g sLen sCap : Nat) (cur : Array Value) (E : TypeId) (hg : w.heap[g]? = some (.cells cur E (0, 0)))
    (a : Addr) (m c : Nat) (news : List Value) (hl : news.length = m * i.size) (hnews : ∀ j u, news[j]? = some u → w.cell? (a.add j) = some u) (h1 : ∀ u ∈ news, u.oneCell' = true)
    (hroom : sLen + m ≤ sCap) (hfit : sLen * i.size + news.length ≤ cur.size) :
    (Builtin.append_ #[t, t] ty #[.slice (some ⟨g, 0, none⟩) sLen sCap, .slice (some a) m c]).run P w =
      .ok (.slice (some ⟨g, 0, none⟩) (sLen + m) sCap) (w.setRow g (cur.toList.take (sLen * i.size) ++ news ++ cur.toList.drop (sLen * i.size + news.length)).toArray) := by
  have hf := run_firstCells_some (P := P) w i.size m a m c news hl hnews
  have hst := run_storeCells_at P g (sLen * i.size) E news 0 cur w hg (by simpa using hfit) h1
  simp only [Nat.add_zero] at hst
  simp [Builtin.append_, run_underlying ht, sizeOf, typeInfo, hi, Builtin.lenOf, hroom, hf, Addr.add_lit, hst]
/-- Where there is no room: a new block. -/
theorem run_append_new (w : World) (ht : P.underlying t = some (.slice e)) (hi : P.info? e = some i) (hz : i.zero = some z) (hzs : z.cells.size = i.size)
    (p0 : Option Addr) (n cap : Nat) (olds : List Value) (hlo : olds.length = n * i.size) (hp : p0 = none → n = 0 ∧ cap = 0) (holds : ∀ b, p0 = some b → ∀ j u, olds[j]? = some u → w.cell? (b.add j) = some u)
    (a : Addr) (m c : Nat) (news : List Value) (hl : news.length = m * i.size) (hnews : ∀ j u, news[j]? = some u → w.cell? (a.add j) = some u)
    (hm : 0 < m) (hroom : cap < n + m) (hbytes : (n + m) * i.bytes ≤ 70368744177664) (hb0 : 0 < i.bytes) :
    ∃ cp arr, n + m ≤ cp ∧ cp ≤ maxLen ∧ arr.size = cp * i.size ∧ (∀ q, q < n * i.size → arr.getD q undef = olds.getD q undef) ∧ (∀ q, q < m * i.size → arr.getD (n * i.size + q) undef = news.getD q undef) ∧
      (Builtin.append_ #[t, t] ty #[.slice p0 n cap, .slice (some a) m c]).run P w = .ok (.slice (some ⟨w.heap.size, 0, none⟩) (n + m) cp) (w.drew.alloc (.cells arr e)) := by
  have hnm : n + m ≤ 70368744177664 := Nat.le_trans (Nat.le_mul_of_pos_right _ hb0) hbytes
  have h63 : n + m ≤ maxLen := by simp only [maxLen]; omega
  have arrs : ∀ cp, n + m ≤ cp → (olds.toArray ++ news.toArray ++ Builtin.zeroCells z.cells (cp - (n + m))).size = cp * i.size ∧
      (∀ q, q < n * i.size → (olds.toArray ++ news.toArray ++ Builtin.zeroCells z.cells (cp - (n + m))).getD q undef = olds.getD q undef) ∧
      (∀ q, q < m * i.size → (olds.toArray ++ news.toArray ++ Builtin.zeroCells z.cells (cp - (n + m))).getD (n * i.size + q) undef = news.getD q undef) := by
    intro cp hcp
    have hsz : (olds.toArray ++ news.toArray ++ Builtin.zeroCells z.cells (cp - (n + m))).size = cp * i.size := by
      simp only [Array.size_append, List.size_toArray, size_zeroCells, hzs, hlo, hl, ← Nat.add_mul]
      congr 1; omega
    have tl : (olds.toArray ++ news.toArray ++ Builtin.zeroCells z.cells (cp - (n + m))).toList = olds ++ (news ++ (Builtin.zeroCells z.cells (cp - (n + m))).toList) := by simp
    refine ⟨hsz, fun q hq => ?_, fun q hq => ?_⟩
    · rw [← toList_getD, tl, List.getD_eq_getElem?_getD, List.getElem?_append_left (by omega), ← List.getD_eq_getElem?_getD]
    · rw [← toList_getD, tl, List.getD_eq_getElem?_getD, List.getElem?_append_right (by omega), hlo, Nat.add_sub_cancel_left, List.getElem?_append_left (by omega), ← List.getD_eq_getElem?_getD]
  cases p0 with
  | none =>
    obtain ⟨rfl, rfl⟩ := hp rfl
    have hr := run_append_nil (P := P) w t ty e i z ht hi hz a m c news hl hnews hm (by omega) (by rw [Nat.zero_add] at hbytes; omega)
    obtain ⟨q1, q2, q3⟩ := arrs (grownCap w m 0 e) (by rw [Nat.zero_add]; exact grownCap_ge w m 0 e)
    have ho : olds = [] := List.eq_nil_of_length_eq_zero (by simpa using hlo)
    subst ho
    simp only [Nat.zero_add, Array.empty_append] at q1 q2 q3 hr ⊢
    exact ⟨grownCap w m 0 e, _, grownCap_ge w m 0 e, grownCap_le_maxLen w m 0 e (by omega), q1, q2, q3, hr⟩
  | some b =>
    have hr := run_append_grow (P := P) (ty := ty) w t e i z ht hi hz b n cap olds hlo (holds b rfl) a m c news hl hnews hroom (by omega) (growslice_fits (by omega) (by omega))
    obtain ⟨q1, q2, q3⟩ := arrs (grownCap w (n + m) cap e) (grownCap_ge w (n + m) cap e)
    exact ⟨grownCap w (n + m) cap e, _, grownCap_ge w _ cap e, grownCap_le_maxLen w _ cap e h63, q1, q2, q3, hr⟩
end

/-- What is handed over by a slice, for reading. -/
def Src (nx : Bool) (g : Gh) (w : World) (h : Hp) (news : List (List A)) (v : Value) (es : Nat) : Prop :=
  ∃ ad cap vals, v = .slice ad news.length cap ∧ (news ≠ [] → ∃ a0, ad = some a0 ∧ ∀ j u, (flat es vals news.length)[j]? = some u → w.cell? (a0.add j) = some u) ∧
    (∀ c ∈ news, ∀ x ∈ c, oneA x = true ∧ (nx = false → plainA x = true)) ∧ ∀ i j, i < news.length → j < es → VR g w h ((news.getD i []).getD j .un) (vals i j)
theorem src_sound {a : A} {K : List (List A) → Prop} (hk : conv1 hp a fun x => match x with | .ro news => K news | _ => False) :
    ∃ news, K news ∧ ∀ (g : Gh) (w : World) (v : Value) (es : Nat), SW B0 w0 g w (hf hp) → (∀ c ∈ news, c.length = es) → 0 < es → VR g w (hf hp) a v → Src false g w (hf hp) news v es := by
  have nilc : ∀ (g : Gh) (w : World) (v : Value) (es : Nat), (∃ ad, v = .slice ad 0 0) → Src false g w (hf hp) [] v es := by
    rintro g w v es ⟨ad, rfl⟩
    exact ⟨ad, 0, fun _ _ => undef, rfl, fun h => absurd rfl h, by simp, fun i j hi => by simp at hi⟩
  cases a <;> try exact hk.elim
  · rename_i x
    by_cases hx : x = .slice none 0 0
    · subst hx
      exact ⟨[], hk, fun g w v es hs _ _ r => nilc g w v es ⟨none, r.v_inv.1⟩⟩
    · exfalso
      unfold conv1 at hk
      split at hk
      · exact absurd (by rename_i h; cases h; rfl) hx
      all_goals first | exact hk | (rename_i h; cases h)
  · rename_i b ver es i len
    simp only [conv1] at hk
    cases hb : hp.getD b .hole <;> rw [hb] at hk <;> try exact hk.elim
    rename_i fz nx ver' es' els
    cases nx with
    | true => exact hk.elim
    | false =>
    obtain ⟨hv, hl, hk3⟩ := chk_elim hk
    simp only [Bool.and_eq_true, beq_iff_eq] at hv
    obtain ⟨rfl, rfl⟩ := hv
    have mem : ∀ c, c ∈ (els.drop i).take len → c ∈ els := fun c hc => List.mem_of_mem_drop (List.mem_of_mem_take hc)
    have hlen : ((els.drop i).take len).length = len := by simp; omega
    have idx : ∀ i', i' < len → ((els.drop i).take len).getD i' [] = els.getD (i + i') [] := fun i' hi' => by
      simp [List.getD_eq_getElem?_getD, List.getElem?_take, hi', List.getElem?_drop]
    refine ⟨_, hk3, fun g w v es2 hs hes h0e r => ?_⟩
    have hh : hf hp b = .rw fz false ver es els := hb
    obtain ⟨arr, E, h1, h2', h3, h4, h5, h6, h7⟩ := rw_facts hs hh
    obtain ⟨_, _, _, _, hx⟩ := r.sl_inv
    obtain ⟨ad, cap, rfl, q1, q2, q3⟩ := hx (by rw [hh]; rfl)
    refine ⟨ad, cap, fun i' j => arr.getD ((i + i') * es + j) undef, by rw [hlen], fun hne => ?_, fun c hc x hx => ⟨one_of_plain ((h6 c (mem c hc)).2 rfl x hx), fun _ => (h6 c (mem c hc)).2 rfl x hx⟩, fun i' j hi' hj => ?_⟩
    · have h0 : 0 < len := by rw [← hlen]; exact List.length_pos_iff.2 hne
      obtain ⟨cl, hcl⟩ := List.exists_mem_of_ne_nil _ hne
      have hee : es2 = es := by rw [← hes cl hcl, (h6 cl (mem cl hcl)).1]
      subst hee
      refine ⟨_, q3 (by omega), fun q u hq => ?_⟩
      obtain ⟨i', j, rfl, hi', hj, rfl⟩ := flat_get h0e hq
      rw [hlen] at hi'
      have hlt : (i + i') * es2 + j < arr.size := by rw [h3]; exact idx_lt (by omega) hj
      have e : i * es2 + (i' * es2 + j) = (i + i') * es2 + j := by rw [Nat.add_mul]; omega
      rw [add_none, e]
      simp [World.cell?, h1, Array.getD, hlt]
    · rw [hlen] at hi'
      rw [idx i' hi']
      have hm : els.getD (i + i') [] ∈ els := getD_mem _ _ _ (by omega)
      have hee : es2 = es := by
        have hmm : ((els.drop i).take len).getD i' [] ∈ (els.drop i).take len := getD_mem _ _ _ (by omega)
        rw [← hes _ hmm, (h6 _ (mem _ hmm)).1]
      subst hee
      exact h7 (i + i') j (by omega) hj
  · rename_i els
    refine ⟨_, hk, fun g w v es hs hes h0e r => ?_⟩
    obtain ⟨ad, cap, es2, blk, off, vals, he, h0, hes2, hc2, hv, hpl, hcap⟩ := r.ro_inv
    by_cases hne : els = []
    · subst hne
      exact ⟨ad, cap, vals, he, fun h => absurd rfl h, by simp, fun i j hi => by simp at hi⟩
    · have : es2 = es := by
        obtain ⟨cl, hcl⟩ := List.exists_mem_of_ne_nil els hne
        rw [← hes cl hcl, hes2 cl hcl]
      subst this
      refine ⟨ad, cap, vals, he, fun _ => ⟨_, (h0 hne).1, fun q u hq => ?_⟩, fun c hc x hx => ⟨one_of_plain (hpl c hc x hx), fun _ => hpl c hc x hx⟩, hv⟩
      obtain ⟨i, j, rfl, hi, hj, rfl⟩ := flat_get h0e hq
      rw [add_none, ← Nat.add_assoc]
      exact hc2 i j hi hj
  · refine ⟨[], hk, fun g w v es hs _ _ r => ?_⟩
    cases r with
    | cz a => exact nilc g w _ es ⟨a, rfl⟩

/-- The same, of a row that keeps references. -/
theorem src_nx {a : A} {b ver es i len : Nat} {fz : Bool} {els news : List (List A)} (ha : a = .sl b ver es i len) (hb : hp.getD b .hole = .rw fz true ver es els) (hl : i + len ≤ els.length) (hn : news = (els.drop i).take len) (h1 : ∀ c ∈ news, ∀ x ∈ c, oneA x = true) :
    ∀ (g : Gh) (w : World) (v : Value) (es : Nat), SW B0 w0 g w (hf hp) → (∀ c ∈ news, c.length = es) → 0 < es → VR g w (hf hp) a v → Src true g w (hf hp) news v es := by
  subst ha hn
  have mem : ∀ c, c ∈ (els.drop i).take len → c ∈ els := fun c hc => List.mem_of_mem_drop (List.mem_of_mem_take hc)
  have hlen : ((els.drop i).take len).length = len := by simp; omega
  have idx : ∀ i', i' < len → ((els.drop i).take len).getD i' [] = els.getD (i + i') [] := fun i' hi' => by
    simp [List.getD_eq_getElem?_getD, List.getElem?_take, hi', List.getElem?_drop]
  intro g w v es2 hs hes h0e r
  have hh : hf hp b = .rw fz true ver es els := hb
  obtain ⟨arr, E, h1', h2', h3, h4, h5, h6, h7⟩ := rw_facts hs hh
  obtain ⟨_, _, _, _, hx⟩ := r.sl_inv
  obtain ⟨ad, cap, rfl, q1, q2, q3⟩ := hx (by rw [hh]; rfl)
  refine ⟨ad, cap, fun i' j => arr.getD ((i + i') * es + j) undef, by rw [hlen], fun hne => ?_, fun c hc x hx => ⟨h1 c hc x hx, fun h => by cases h⟩, fun i' j hi' hj => ?_⟩
  · have h0 : 0 < len := by rw [← hlen]; exact List.length_pos_iff.2 hne
    obtain ⟨cl, hcl⟩ := List.exists_mem_of_ne_nil _ hne
    have hee : es2 = es := by rw [← hes cl hcl, (h6 cl (mem cl hcl)).1]
    subst hee
    refine ⟨_, q3 (by omega), fun q u hq => ?_⟩
    obtain ⟨i', j, rfl, hi', hj, rfl⟩ := flat_get h0e hq
    rw [hlen] at hi'
    have hlt : (i + i') * es2 + j < arr.size := by rw [h3]; exact idx_lt (by omega) hj
    have e : i * es2 + (i' * es2 + j) = (i + i') * es2 + j := by rw [Nat.add_mul]; omega
    rw [add_none, e]
    simp [World.cell?, h1', Array.getD, hlt]
  · rw [hlen] at hi'
    rw [idx i' hi']
    have hm : els.getD (i + i') [] ∈ els := getD_mem _ _ _ (by omega)
    have hee : es2 = es := by
      have hmm : ((els.drop i).take len).getD i' [] ∈ (els.drop i).take len := getD_mem _ _ _ (by omega)
      rw [← hes _ hmm, (h6 _ (mem _ hmm)).1]
    subst hee
    exact h7 (i + i') j (by omega) hj

/-- THE WHOLE GOES ON WHERE A ROW COMES TO A NEW VERSION, in its old place or in a new one. -/
theorem SW.bump {g : Gh} {w : World} {h : Hp} (s : SW B0 w0 g w h) {b ver es : Nat} {nx nx2 : Bool} {els els2 : List (List A)} (hh : h b = .rw false nx ver es els) {w' : World} (hw : w.grownBy w' (some (g.m b))) {nb cp : Nat} (hnb : nb = g.m b ∨ w.heap.size ≤ nb)
    (hbr : ∀ (h' : Hp), Ev g w h (g.at b nb cp) w' h' → BR (g.at b nb cp) w' h' b (.rw false nx2 (ver + 1) es els2)) :
    EB g w h (g.at b nb cp) w' (setH h b (.rw false nx2 (ver + 1) es els2)) ∧ SW B0 w0 (g.at b nb cp) w' (setH h b (.rw false nx2 (ver + 1) es els2)) := by
  have hl : Live h b := by unfold Live; rw [hh]; exact Blk.noConfusion
  have hlive : ∀ x, Live (setH h b (.rw false nx2 (ver + 1) es els2)) x ↔ Live h x := fun x => by
    unfold Live setH
    by_cases hx : x = b
    · subst hx; simp [hh]
    · simp [hx]
  have hsep := s.sh.sep b hl (by rw [hh]; rfl)
  have mo : ∀ x, x ≠ b → (g.at b nb cp).m x = g.m x := fun x hx => by simp [Gh.at, hx]
  have mb : (g.at b nb cp).m b = nb := by simp [Gh.at]
  have e : Ev g w h (g.at b nb cp) w' (setH h b (.rw false nx2 (ver + 1) es els2)) := by
    refine ⟨fun x hx => ⟨(hlive x).2 hx, ?_⟩, fun x hx => ⟨hx, .of (hw.block x (s.sh.imm x hx) (fun e => hsep (by cases e; exact hx)))⟩, fun _ _ h => h, hw.size⟩
    by_cases hxb : x = b
    · subst hxb
      rw [setH_same, hh]
      exact ⟨Nat.le_succ _, rfl, fun h => by simp [Blk.ver] at h⟩
    · rw [setH_ne _ _ _ hxb]
      exact ⟨Nat.le_refl _, rfl, fun _ => ⟨mo x hxb, by simp [Gh.at, hxb]⟩⟩
  obtain ⟨arr, E, r1, _⟩ := rw_facts s hh
  have hnI : ¬ g.I nb := by
    rcases hnb with rfl | hn
    · exact hsep
    · intro hx; have := s.sh.imm _ hx; omega
  refine ⟨⟨e, rfl, fun x o hx hc => ?_⟩, ⟨⟨?_, ?_, ?_, ?_, ?_, ?_⟩, s.be.grown hw s.b0 (fun k hk => by cases hk; exact s.sh.lo b hl), Nat.le_trans s.b0 hw.size, s.ib⟩⟩
  · refine (hw.block x (Array.getElem?_eq_some_iff.1 hx).1 (fun e => ?_)).trans hx
    cases e
    rw [r1] at hx
    cases hx
    cases hc
  · intro x y hx hy hm
    have hx' := (hlive x).1 hx
    have hy' := (hlive y).1 hy
    by_cases hxb : x = b <;> by_cases hyb : y = b
    · rw [hxb, hyb]
    · subst hxb
      rw [mb, mo y hyb] at hm
      rcases hnb with rfl | hn
      · exact s.sh.inj x y hx' hy' hm
      · have := s.sh.lt hy'; omega
    · subst hyb
      rw [mb, mo x hxb] at hm
      rcases hnb with rfl | hn
      · exact s.sh.inj x y hx' hy' hm
      · have := s.sh.lt hx'; omega
    · rw [mo x hxb, mo y hyb] at hm; exact s.sh.inj x y hx' hy' hm
  · intro x hx
    by_cases hxb : x = b
    · subst hxb
      rw [mb]
      rcases hnb with rfl | hn
      · exact s.sh.lo x hl
      · exact Nat.le_trans s.b0 hn
    · rw [mo x hxb]; exact s.sh.lo x ((hlive x).1 hx)
  · exact fun x hx => Nat.lt_of_lt_of_le (s.sh.imm x hx) hw.size
  · intro x hx hf
    by_cases hxb : x = b
    · subst hxb; rw [mb]; exact hnI
    · rw [mo x hxb]; exact s.sh.sep x ((hlive x).1 hx) (by simpa [setH, hxb] using hf)
  · intro x hx hf
    by_cases hxb : x = b
    · subst hxb; simp [setH, Blk.fz] at hf
    · rw [mo x hxb]; exact s.sh.fro x ((hlive x).1 hx) (by simpa [setH, hxb] using hf)
  · intro x
    by_cases hxb : x = b
    · subst hxb; rw [setH_same]; exact hbr _ e
    · rw [setH_ne _ _ _ hxb]
      by_cases hlx : Live h x
      · refine BR.mono e (mo x hxb) (by simp [Gh.at, hxb]) (hw.block _ (s.sh.lt hlx) (fun e => hxb (s.sh.inj x b hlx hl (Option.some.inj e)))) (s.sh.blk x)
      · have : h x = .hole := Classical.byContradiction hlx
        rw [this]; trivial

section
variable {cl : Call} {e : TypeId} {inf : TypeInfo} {z : Value} {d src : Operand} {k : A → List Blk → Prop} {t : TypeId}
theorem execOp_append (ho : o.op = .call cl) (hcl : cl.callee = .builtin .append) (ha : cl.args.toList = [d, src]) (hty : cl.argTypes = #[t, t]) {ρ : Operand → Value} {w w' : World} {v : Value}
    (hr : (Builtin.append_ #[t, t] o.type #[ρ d, ρ src]).run P w = .ok v w') : (execOp ρ o).run P w = .ok (.value v) w' := by
  have haa : cl.args = #[d, src] := by rw [← Array.toList_inj, ha]
  simp [execOp, ho, resolve, hcl, invoke, builtin, haa, hty, hr]
/-- An append to nothing. -/
theorem os_append_new {nx : Bool} (ho : o.op = .call cl) (hcl : cl.callee = .builtin .append) (ha : cl.args.toList = [d, src]) (hty : cl.argTypes = #[t, t]) (hu : P.underlying t = some (.slice e)) (hi : P.info? e = some inf) (hz : inf.zero = some z)
    (hzs : z.cells.size = inf.size) (hs0 : 0 < inf.size) (hb0 : 0 < inf.bytes) (hd : ev ts d = .v (.slice none 0 0) ∨ ev ts d = .cz) {news : List (List A)}
    (hsrc : ∀ (g : Gh) (w : World) (v : Value) (es : Nat), SW B0 w0 g w (hf hp) → (∀ c ∈ news, c.length = es) → 0 < es → VR g w (hf hp) (ev ts src) v → Src nx g w (hf hp) news v es)
    (hk : (news = [] → k (ev ts d) hp) ∧ (news ≠ [] → ((news.length : Int) * inf.bytes ≤ 70368744177664 ∧ ∀ c ∈ news, c.length = inf.size) ∧ k (.sl hp.length 0 inf.size 0 news.length) (hp ++ [.rw false nx 0 inf.size news]))) : OS P B0 w0 hp o (ev ts) k := by
  refine OS.run (by simp [ho]) fun g w act hs hop => ?_
  have haa : cl.args = #[d, src] := by rw [← Array.toList_inj, ha]
  have h3 := hop d (by simp [ho, Op.operands, Call.operands, hcl, haa])
  have h4 := hop src (by simp [ho, Op.operands, Call.operands, hcl, haa])
  obtain ⟨p0, hp0⟩ : ∃ p0, act.eval d = .slice p0 0 0 := by
    rcases hd with hd | hd <;> rw [hd] at h3
    · exact ⟨none, h3.v_inv.1⟩
    · generalize act.eval d = y at h3
      cases h3 with
      | cz a => exact ⟨a, rfl⟩
  by_cases hne : news = []
  · have hk1 := hk.1 hne
    subst hne
    obtain ⟨ad, cap, vals, hv, _⟩ := hsrc g w _ inf.size hs (by simp) hs0 h4
    refine ⟨_, w, _, hp, g, execOp_append ho hcl ha hty (by rw [hv, hp0]; exact run_append_zero hu hi w p0 ad 0 0 cap (Nat.le_refl _) (fun _ => rfl)), hk1, EB.refl _ _ _, hs, by rw [← hp0]; exact h3⟩
  · obtain ⟨⟨hb1, hcs⟩, hk2⟩ := hk.2 hne
    obtain ⟨ad, cap, vals, hv, hcells, hpl, hvr⟩ := hsrc g w _ inf.size hs hcs hs0 h4
    obtain ⟨a0, rfl, hcl2⟩ := hcells hne
    have hm : 0 < news.length := List.length_pos_iff.2 hne
    have hb2 : (0 + news.length) * inf.bytes ≤ 70368744177664 := by rw [Nat.zero_add]; exact nat_of_int hb1
    obtain ⟨cp, arr, c1, c2, c3, c4, c5, hr⟩ := run_append_new (P := P) (ty := o.type) w hu hi hz hzs p0 0 0 [] (by simp) (fun _ => ⟨rfl, rfl⟩) (fun _ _ j u h => by simp at h) a0 news.length cap (flat inf.size vals news.length) (flat_length ..) hcl2 hm (by omega) hb2 hb0
    simp only [Nat.zero_mul, Nat.zero_add] at c1 c3 c5 hr
    have hb : Below w.heap.size w (w.drew.alloc (.cells arr e)) := ⟨rfl, rfl, rfl, by simp, fun k hk => heap_alloc_old w.drew _ k hk⟩
    have hnb : NB g w (hf hp) arr cp (.rw false nx 0 inf.size news) := ⟨rfl, hs0, c3, c1, c2, fun c hc => ⟨hcs c hc, fun h x hx => (hpl c hc x hx).2 h⟩, fun i j hi hj => by
      rw [c5 _ (idx_lt hi hj), flat_getD hi hj]; exact hvr i j hi hj⟩
    obtain ⟨e2, s2⟩ := hs.add hb (Nat.le_refl _) (heap_alloc_new w.drew _) (hf_none hp hp.length (Nat.le_refl _)) hnb
    have hh : addH (hf hp) hp.length [Blk.rw false nx 0 inf.size news] hp.length = .rw false nx 0 inf.size news := by rw [addH_one, if_pos rfl]
    have hvv : VR (g.at hp.length w.heap.size cp) (w.drew.alloc (.cells arr e)) (addH (hf hp) hp.length [.rw false nx 0 inf.size news]) (.sl hp.length 0 inf.size 0 news.length) (.slice (some ⟨w.heap.size, 0, none⟩) news.length cp) :=
      .sl hp.length 0 inf.size 0 _ _ rfl (by unfold Live; rw [hh]; exact Blk.noConfusion) (Nat.zero_le _) (by rw [hh]; rfl) (fun _ => ⟨_, _, rfl, by omega, by simp [Gh.at], fun _ => by simp [Gh.at]⟩)
    rw [addH_hf] at e2 s2 hvv
    exact ⟨_, _, _, _, _, execOp_append ho hcl ha hty (by rw [hv, hp0]; exact hr), hk2, e2, s2, hvv⟩
/-- An append to a row of the own heap. -/
theorem os_append_sl {nx nx' : Bool} (ho : o.op = .call cl) (hcl : cl.callee = .builtin .append) (ha : cl.args.toList = [d, src]) (hty : cl.argTypes = #[t, t]) (hu : P.underlying t = some (.slice e)) (hi : P.info? e = some inf) (hz : inf.zero = some z)
    (hzs : z.cells.size = inf.size) (hs0 : 0 < inf.size) (hb0 : 0 < inf.bytes) {b ver len : Nat} {els : List (List A)} (hd : ev ts d = .sl b ver inf.size 0 len) (hb : hp.getD b .hole = .rw false nx' ver inf.size els) {news : List (List A)}
    (hsrc : ∀ (g : Gh) (w : World) (v : Value) (es : Nat), SW B0 w0 g w (hf hp) → (∀ c ∈ news, c.length = es) → 0 < es → VR g w (hf hp) (ev ts src) v → Src nx g w (hf hp) news v es)
    (hlen : len ≤ els.length) (hby : ((len + news.length : Nat) : Int) * inf.bytes ≤ 70368744177664) (hcs : ∀ c ∈ news, c.length = inf.size)
    (hk : k (.sl b (ver + 1) inf.size 0 (len + news.length)) (hp.set b (.rw false (nx' || nx) (ver + 1) inf.size (els.take len ++ news)))) : OS P B0 w0 hp o (ev ts) k := by
  refine OS.run (by simp [ho]) fun g w act hs hop => ?_
  have haa : cl.args = #[d, src] := by rw [← Array.toList_inj, ha]
  have h3 := hop d (by simp [ho, Op.operands, Call.operands, hcl, haa])
  have h4 := hop src (by simp [ho, Op.operands, Call.operands, hcl, haa])
  rw [hd] at h3
  have hh : hf hp b = .rw false nx' ver inf.size els := hb
  obtain ⟨arr, E, h1, _, q3, q4, q5, q6, q7⟩ := rw_facts hs hh
  obtain ⟨_, hlive, _, _, hx⟩ := h3.sl_inv
  obtain ⟨p0, cap, hp0, k1, k2, k3⟩ := hx (by rw [hh]; rfl)
  simp only [Nat.zero_mul] at k3
  obtain ⟨ad, ccap, vals, hv, hcells, hpl, hvr⟩ := hsrc g w _ inf.size hs hcs hs0 h4
  have hlt := lt_of_getD (show hp.getD b .hole ≠ .hole by rw [hb]; exact Blk.noConfusion)
  have hfin : ∀ (nb cp : Nat) (w' : World) (p1 : Option Addr) (cap1 : Nat), (len + news.length ≤ cap1) → cap1 ≤ cp → (0 < cap1 → p1 = some ⟨nb, 0, none⟩) → ∀ (h' : Hp), h' b = .rw false (nx' || nx) (ver + 1) inf.size (els.take len ++ news) →
      VR (g.at b nb cp) w' h' (.sl b (ver + 1) inf.size 0 (len + news.length)) (.slice p1 (len + news.length) cap1) := fun nb cp w' p1 cap1 c1 c2 c3 h' hh' =>
    .sl b (ver + 1) inf.size 0 _ _ rfl (by unfold Live; rw [hh']; exact Blk.noConfusion) (by rw [hh']; exact Nat.le_refl _) (by rw [hh']; rfl) (fun _ => ⟨_, _, rfl, c1, by simp [Gh.at]; exact c2, fun h => by simp [Gh.at]; exact c3 h⟩)
  have hlt2 : (els.take len ++ news).length = len + news.length := by simp; omega
  have hpl2 : ∀ c ∈ els.take len ++ news, c.length = inf.size ∧ ((nx' || nx) = false → ∀ x ∈ c, plainA x = true) := fun c hc => by
    rcases List.mem_append.1 hc with hc | hc
    · exact ⟨(q6 c (List.mem_of_mem_take hc)).1, fun h => (q6 c (List.mem_of_mem_take hc)).2 (by simp only [Bool.or_eq_false_iff] at h; exact h.1)⟩
    · exact ⟨hcs c hc, fun h x hx => (hpl c hc x hx).2 (by simp only [Bool.or_eq_false_iff] at h; exact h.2)⟩
  have helt : ∀ i, i < len → (els.take len ++ news).getD i [] = els.getD i [] := fun i hi => by
    rw [List.getD_eq_getElem?_getD, List.getElem?_append_left (by simp; omega), List.getElem?_take_of_lt hi, List.getD_eq_getElem?_getD]
  have hegt : ∀ i, (els.take len ++ news).getD (len + i) [] = news.getD i [] := fun i => by
    rw [List.getD_eq_getElem?_getD, List.getElem?_append_right (by simp; omega), List.getD_eq_getElem?_getD]
    congr 2; simp; omega
  by_cases hroom : len + news.length ≤ cap
  · by_cases hne : news = []
    · -- nothing comes
      subst hne
      obtain ⟨eb, sb⟩ := hs.bump (w' := w) (nb := g.m b) (cp := g.cp b) (els2 := els.take len ++ []) hh ⟨rfl, rfl, rfl, Nat.le_refl _, fun _ _ _ => rfl⟩ (.inl rfl) (fun h' e => by
        refine ⟨arr, E, by simpa [Gh.at] using h1, hs0, by simpa [Gh.at] using q3, by simp [Gh.at]; omega, by simpa [Gh.at] using q5, hpl2, fun i j hi hj => ?_⟩
        rw [hlt2] at hi
        rw [helt i (by simpa using hi)]
        exact (q7 i j (by simp at hi; omega) hj).mono e)
      have hvv := hfin (g.m b) (g.cp b) w p0 cap hroom (by omega) k3 (setH (hf hp) b (.rw false (nx' || nx) (ver + 1) inf.size (els.take len ++ []))) (setH_same ..)
      rw [setH_hf hp b _ hlt] at eb sb hvv
      exact ⟨_, w, _, _, _, execOp_append ho hcl ha hty (by rw [hv, hp0]; exact run_append_zero hu hi w p0 ad len cap ccap k1 (fun h => by
        rcases Nat.eq_zero_or_pos cap with hc | hc
        · exact hc
        · have := k3 hc; rw [h] at this; cases this)), hk, eb, sb, hvv⟩
    · obtain ⟨a0, rfl, hcl2⟩ := hcells hne
      have hm : 0 < news.length := List.length_pos_iff.2 hne
      have hp1 := k3 (by omega)
      subst hp1
      have hone : ∀ u ∈ flat inf.size vals news.length, u.oneCell' = true := fun u hu => by
        obtain ⟨q, hq, rfl⟩ := List.getElem_of_mem hu
        obtain ⟨i, j, _, hi', hj, he⟩ := flat_get hs0 (List.getElem?_eq_getElem hq)
        rw [he]
        exact (hvr i j hi' hj).one (hpl _ (getD_mem _ _ _ hi') _ (getD_mem _ _ _ (by rw [hcs _ (getD_mem news i [] hi')]; exact hj))).1
      have hfit : len * inf.size + news.length * inf.size ≤ arr.size := by
        rw [q3, ← Nat.add_mul]; exact Nat.mul_le_mul_right _ (by omega)
      have hr := run_append_roomE (P := P) (ty := o.type) w hu hi (g.m b) len cap arr E h1 a0 news.length ccap (flat inf.size vals news.length) (flat_length ..) hcl2 hone hroom (by rw [flat_length]; exact hfit)
      rw [flat_length] at hr
      have hw := grownBy_setRow (w := w) (arr.toList.take (len * inf.size) ++ flat inf.size vals news.length ++ arr.toList.drop (len * inf.size + news.length * inf.size)).toArray (Array.getElem?_eq_some_iff.1 h1).1
      obtain ⟨eb, sb⟩ := hs.bump (nb := g.m b) (cp := g.cp b) (els2 := els.take len ++ news) hh hw (.inl rfl) (fun h' e => by
        refine ⟨_, E, by simp only [Gh.at, if_true]; exact setRow_heap w (g.m b) arr _ E _ h1, hs0, ?_, by rw [hlt2]; simp [Gh.at]; omega, by simpa [Gh.at] using q5, hpl2, fun i j hi hj => ?_⟩
        · rw [wr_size _ _ _ _ (flat_length ..) (by simpa using hfit)]; simpa [Gh.at] using q3
        · rw [hlt2] at hi
          rw [wr_getD _ _ _ _ _ (flat_length ..) (by simpa using hfit)]
          by_cases hil : i < len
          · have := idx_lt hil hj
            rw [helt i hil, if_neg (by omega), toList_toArray_getD]
            exact (q7 i j (by omega) hj).mono e
          · obtain ⟨i', rfl⟩ : ∃ i', i = len + i' := ⟨i - len, by omega⟩
            have := idx_lt (show i' < news.length by omega) hj
            rw [hegt, if_pos (by rw [Nat.add_mul]; omega), show (len + i') * inf.size + j - len * inf.size = i' * inf.size + j by rw [Nat.add_mul]; omega, flat_getD (by omega) hj]
            exact (hvr i' j (by omega) hj).mono e)
      have hvv := hfin (g.m b) (g.cp b) (w.setRow (g.m b) (arr.toList.take (len * inf.size) ++ flat inf.size vals news.length ++ arr.toList.drop (len * inf.size + news.length * inf.size)).toArray) _ cap hroom (by omega) k3 (setH (hf hp) b (.rw false (nx' || nx) (ver + 1) inf.size (els.take len ++ news))) (setH_same ..)
      rw [setH_hf hp b _ hlt] at eb sb hvv
      exact ⟨_, _, _, _, _, execOp_append ho hcl ha hty (by rw [hv, hp0]; exact hr), hk, eb, sb, hvv⟩
  · have hne : news ≠ [] := fun h => by subst h; simp at hroom; omega
    obtain ⟨a0, rfl, hcl2⟩ := hcells hne
    have hm : 0 < news.length := List.length_pos_iff.2 hne
    have hb2 : (len + news.length) * inf.bytes ≤ 70368744177664 := nat_of_int hby
    have hole : len * inf.size ≤ arr.size := by rw [q3]; exact Nat.mul_le_mul_right _ (by omega)
    obtain ⟨cp, arr2, c1, c2, c3, c4, c5, hr⟩ := run_append_new (P := P) (ty := o.type) w hu hi hz hzs p0 len cap (flat inf.size (fun i j => arr.getD (i * inf.size + j) undef) len) (flat_length ..)
      (fun h => by
        have hc : cap = 0 := by
          rcases Nat.eq_zero_or_pos cap with hc | hc
          · exact hc
          · have := k3 hc; rw [h] at this; cases this
        exact ⟨by omega, hc⟩)
      (fun bb hbb q u hq => by
        obtain ⟨i, j, rfl, hi', hj, rfl⟩ := flat_get hs0 hq
        have := k3 (by omega)
        rw [hbb] at this
        cases this
        have hlt := idx_lt hi' hj
        have hlt2 : i * inf.size + j < arr.size := by omega
        rw [add_none, Nat.zero_add]
        simp [World.cell?, h1, Array.getD, hlt2])
      a0 news.length ccap (flat inf.size vals news.length) (flat_length ..) hcl2 hm (by omega) hb2 hb0
    have hw : w.grownBy (w.drew.alloc (.cells arr2 e)) (some (g.m b)) := ⟨rfl, rfl, rfl, by simp, fun k hk _ => heap_alloc_old w.drew _ k hk⟩
    obtain ⟨eb, sb⟩ := hs.bump (nb := w.heap.size) (cp := cp) (els2 := els.take len ++ news) hh hw (.inr (Nat.le_refl _)) (fun h' e => by
      refine ⟨arr2, _, by simp only [Gh.at, if_true]; exact heap_alloc_new w.drew _, hs0, by simpa [Gh.at] using c3, by rw [hlt2]; simp [Gh.at]; omega, by simpa [Gh.at] using c2, hpl2, fun i j hi hj => ?_⟩
      rw [hlt2] at hi
      by_cases hil : i < len
      · rw [helt i hil, c4 _ (idx_lt hil hj), flat_getD hil hj]
        exact (q7 i j (by omega) hj).mono e
      · obtain ⟨i', rfl⟩ : ∃ i', i = len + i' := ⟨i - len, by omega⟩
        rw [hegt, show (len + i') * inf.size + j = len * inf.size + (i' * inf.size + j) by rw [Nat.add_mul]; omega, c5 _ (idx_lt (by omega) hj), flat_getD (by omega) hj]
        exact (hvr i' j (by omega) hj).mono e)
    have hvv := hfin w.heap.size cp (w.drew.alloc (.cells arr2 e)) (some ⟨w.heap.size, 0, none⟩) cp c1 (Nat.le_refl _) (fun _ => rfl) (setH (hf hp) b (.rw false (nx' || nx) (ver + 1) inf.size (els.take len ++ news))) (setH_same ..)
    rw [setH_hf hp b _ hlt] at eb sb hvv
    exact ⟨_, _, _, _, _, execOp_append ho hcl ha hty (by rw [hv, hp0]; exact hr), hk, eb, sb, hvv⟩
end
end Go.YtoeophdffhmpmaaE
end

section
set_option linter.unusedVariables false
set_option linter.unusedSimpArgs false
namespace Go.YtoeophdffhmpmaaE
open Go Go.RowKit

variable {P : Program} {B0 : Nat} {w0 : Wz} {c : Hp} {p : Nat} {o : Oper} {ts : List A} {hp : List Blk}

theorem opS_sound {E : EqT} {env : Env} (hE : EqOk P E) (henv : EnvOk P env) {inl : Inl} {lp : List Lp} {k : K3} (hk : opS P E env inl hp lp ts o.op k) :
    OS P B0 w0 hp o (ev ts) (fun a hp' => k a hp' lp) ∨ ∃ cl x, o.op = .call cl ∧ cl.callee = .value x ∧ inl (ev ts x) (cl.args.toList.map (ev ts)) hp lp k := by
  have quiet : opQ P E env hp ts o.op (fun a news => snocK hp news fun hp => k a hp lp) → OS P B0 w0 hp o (ev ts) (fun a hp' => k a hp' lp) := fun h => by
    obtain ⟨a, news, h1, h2⟩ := opQ_sound (B0 := B0) (w0 := w0) hE henv h
    rw [snocK_eq] at h1
    exact h2.toOS h1
  cases ho : o.op <;> rw [ho] at hk quiet <;> try exact .inl (quiet hk)
  case store t x y =>
    left
    obtain ⟨d, i, hu, hi, h1⟩ := tyK_elim (show tyK P t _ from hk)
    rw [force_eq] at h1
    obtain ⟨h2, h3⟩ := chk_elim h1
    simp only [beq_iff_eq] at h2
    cases hx : ev ts x <;> rw [hx] at h3 <;> try exact h3.elim
    rename_i b ver es ii fo
    dsimp only at h3
    cases hb : hp.getD b .hole <;> rw [hb] at h3 <;> try exact h3.elim
    · rename_i fz cells
      cases fz <;> try exact h3.elim
      cases ii <;> try exact h3.elim
      obtain ⟨h4, h5⟩ := chk_elim h3
      simp only [Bool.and_eq_true, allB_iff, decide_eq_true_eq] at h4
      rw [setMany_eq, setK_eq] at h5
      exact os_store_bx (d := d) ho hi hx hb h2 h4.1 (.inr trivial) h4.2 h5
    · rename_i fz nx ver' es' els
      cases fz <;> try exact h3.elim
      cases nx with
      | false =>
        obtain ⟨h4, h5⟩ := chk_elim h3
        simp only [Bool.and_eq_true, beq_iff_eq] at h4
        obtain ⟨rfl, rfl⟩ := h4
        obtain ⟨cells, h6, h7⟩ := optK_elim h5
        obtain ⟨h8, h9⟩ := chk_elim h7
        exact os_store_rw (d := d) ho hi hx hb h2 h6 (of_decide_eq_true h8) h9
      | true =>
        obtain ⟨h4, h5⟩ := chk_elim h3
        simp only [Bool.and_eq_true, beq_iff_eq, allB_iff] at h4
        obtain ⟨⟨rfl, rfl⟩, hone⟩ := h4
        obtain ⟨cells, h6, h7⟩ := optK_elim h5
        obtain ⟨h8, h9⟩ := chk_elim h7
        rw [setMany_eq, setK_eq, setK_eq] at h9
        exact os_store_nx (d := d) ho hi hx hb h2 hone h6 (of_decide_eq_true h8) h9
  case buildSlice t len parts =>
    left
    simp only [opS] at hk
    cases hu : P.underlying t <;> rw [hu] at hk <;> try exact hk.elim
    rename_i d
    cases d <;> try exact hk.elim
    rename_i e
    obtain ⟨inf, h1, h2⟩ := optK_elim hk
    obtain ⟨z, h3, h4⟩ := optK_elim h2
    rw [natK_eq] at h4
    obtain ⟨h5, h6⟩ := chk_elim h4
    simp only [Bool.and_eq_true, beq_iff_eq, decide_eq_true_eq] at h5
    exact os_buildSlice (k := fun a hp' => k a hp' lp) ho hu h1 h3 h5.1 h5.2.1 h5.2.2 h6
  case binOp op t x y yt =>
    left
    by_cases hy : y = .const (.slice none 0 0)
    · subst hy
      simp only [opS] at hk
      cases hx : ev ts x <;> rw [hx] at hk <;> try exact hk.elim
      · rename_i x0
        have hx0 : x0 = .slice none 0 0 := by
          cases x0 <;> try exact hk.elim
          rename_i a n m
          cases a <;> cases n <;> cases m <;> first | rfl | exact hk.elim
        subst hx0
        cases hu : P.underlying t <;> rw [hu] at hk <;> try exact hk.elim
        rename_i d
        cases d <;> try exact hk.elim
        exact os_nil_nil ho hx hu (by cases op <;> first | exact hk | exact hk.elim)
      · exact os_nil_ro ho hx hk
    · refine quiet ?_
      unfold opS at hk
      split at hk
      all_goals first
        | exact hk
        | (rename_i h; cases h; done)
        | (rename_i h; cases h; exact absurd rfl hy)
  case call cl =>
    simp only [opS] at hk
    cases hcl : cl.callee <;> rw [hcl] at hk <;> try exact hk.elim
    · rename_i x
      dsimp only at hk
      rw [force_eq, evs_eq] at hk
      cases hx : ev ts x <;> rw [hx] at hk <;> try exact hk.elim
      · rename_i f fst cap
        dsimp only at hk
        cases hT : env f with
        | none => rw [hT] at hk; exact .inr ⟨cl, x, rfl, hcl, by rw [hx]; exact hk⟩
        | some T => rw [hT] at hk; exact .inl (os_call (k := fun a hp' => k a hp' lp) henv ho hcl hx hT hk)
      · exact .inr ⟨cl, x, rfl, hcl, by rw [hx]; exact hk⟩
    · rename_i b
      by_cases hb : b = .append
      · subst hb
        left
        dsimp only at hk
        cases hu : P.underlying (cl.argTypes.getD 0 0) <;> rw [hu] at hk <;> try exact hk.elim
        rename_i d
        cases d <;> try exact hk.elim
        rename_i e
        obtain ⟨inf, h1, h2⟩ := optK_elim hk
        rw [natK_eq] at h2
        obtain ⟨z, h3, h4⟩ := optK_elim h2
        obtain ⟨h5, h6⟩ := chk_elim h4
        simp only [Bool.and_eq_true, beq_iff_eq, decide_eq_true_eq] at h5
        obtain ⟨hty, hs0, hzs, hb0⟩ := h5
        rw [evs_eq] at h6
        cases ha : cl.args.toList with
        | nil => rw [ha] at h6; exact h6.elim
        | cons d rest => cases rest with
          | nil => rw [ha] at h6; exact h6.elim
          | cons src rest => cases rest with
            | cons _ _ => rw [ha] at h6; exact h6.elim
            | nil =>
              rw [ha] at h6
              simp only [List.map_cons, List.map_nil] at h6
              obtain ⟨nx, news, h7, hsrc⟩ : ∃ (nx : Bool) (news : List (List A)), appK hp lp inf.size inf.bytes nx news (ev ts d) k ∧
                  ∀ (g : Gh) (w : World) (v : Value) (es : Nat), SW B0 w0 g w (hf hp) → (∀ c ∈ news, c.length = es) → 0 < es → VR g w (hf hp) (ev ts src) v → Src nx g w (hf hp) news v es := by
                have plain : (conv1 hp (ev ts src) fun x => match x with
                    | .ro news => appK hp lp inf.size inf.bytes false news (ev ts d) k
                    | _ => False) → ∃ (nx : Bool) (news : List (List A)), appK hp lp inf.size inf.bytes nx news (ev ts d) k ∧
                  ∀ (g : Gh) (w : World) (v : Value) (es : Nat), SW B0 w0 g w (hf hp) → (∀ c ∈ news, c.length = es) → 0 < es → VR g w (hf hp) (ev ts src) v → Src nx g w (hf hp) news v es := fun h => by
                  obtain ⟨news, h7, hsrc⟩ := src_sound (B0 := B0) (w0 := w0) (K := fun news => appK hp lp inf.size inf.bytes false news (ev ts d) k) h
                  exact ⟨false, news, h7, hsrc⟩
                cases hs : ev ts src with
                | sl b ver es i len =>
                  rw [hs] at h6 plain
                  dsimp only at h6
                  cases hb : hp.getD b .hole <;> rw [hb] at h6 <;> try exact h6.elim
                  rename_i fz nx ver' es' els
                  cases nx with
                  | false => exact plain h6
                  | true =>
                    obtain ⟨hv, hl, h7⟩ := chk_elim h6
                    simp only [Bool.and_eq_true, beq_iff_eq] at hv
                    obtain ⟨rfl, rfl⟩ := hv
                    obtain ⟨_, h8⟩ := takeK_elim h7
                    obtain ⟨h9, h10⟩ := chk_elim h8
                    exact ⟨true, _, h10, src_nx rfl hb hl rfl ((allR_iff _ _).1 h9)⟩
                | _ => rw [hs] at h6 plain; exact plain h6
              have hnew : ((news = [] → k (ev ts d) hp lp) ∧ (news ≠ [] → ((news.length : Int) * inf.bytes ≤ 70368744177664 ∧ ∀ c ∈ news, c.length = inf.size) ∧
                    lenK hp 0 fun p => snocK hp [.rw false nx 0 inf.size news] fun hp => k (.sl p 0 inf.size 0 news.length) hp lp)) →
                  (news = [] → k (ev ts d) hp lp) ∧ (news ≠ [] → ((news.length : Int) * inf.bytes ≤ 70368744177664 ∧ ∀ c ∈ news, c.length = inf.size) ∧ k (.sl hp.length 0 inf.size 0 news.length) (hp ++ [.rw false nx 0 inf.size news]) lp) := fun h =>
                ⟨h.1, fun hne => by have := h.2 hne; rw [lenK_eq, Nat.zero_add, snocK_eq] at this; exact this⟩
              unfold appK at h7
              cases hd : ev ts d <;> rw [hd] at h7 <;> try exact h7.elim
              · rename_i x0
                have hx0 : x0 = .slice none 0 0 := by
                  cases x0 <;> try exact h7.elim
                  rename_i a n m
                  cases a <;> cases n <;> cases m <;> first | rfl | exact h7.elim
                subst hx0
                exact os_append_new (k := fun a hp' => k a hp' lp) ho hcl ha hty hu h1 h3 hzs hs0 hb0 (.inl hd) hsrc (hnew (by rw [hd]; exact h7))
              · rename_i b ver es i len
                dsimp only at h7
                cases hb : hp.getD b .hole <;> rw [hb] at h7 <;> try exact h7.elim
                rename_i fz nx' ver' es' els
                cases fz <;> try exact h7.elim
                obtain ⟨h8, ⟨h9, h10, h11, h12⟩, els2, rfl, h13⟩ := chk_elim h7
                simp only [Bool.and_eq_true, beq_iff_eq] at h8
                obtain ⟨⟨rfl, rfl⟩, rfl⟩ := h8
                subst h9
                rw [setK_eq] at h13
                exact os_append_sl (k := fun a hp' => k a hp' lp) ho hcl ha hty hu h1 h3 hzs hs0 hb0 hd hb hsrc h10 h11 h12 h13
              · exact os_append_new (k := fun a hp' => k a hp' lp) ho hcl ha hty hu h1 h3 hzs hs0 hb0 (.inr hd) hsrc (hnew (by rw [hd]; exact h7))
      · left
        refine quiet ?_
        cases b <;> first | exact absurd rfl hb | exact hk
end Go.YtoeophdffhmpmaaE
end

section
set_option linter.unusedVariables false
set_option linter.unusedSimpArgs false
namespace Go.YtoeophdffhmpmaaE
open Go Go.RowKit

variable {P : Program} {B0 : Nat} {w0 : Wz} {c : Hp} {p : Nat} {o : Oper} {ts : List A} {hp : List Blk}

def exE : Ex → Exit
  | .normal => .normal
  | .exit i => .exit i
  | .ret => .ret
def exC : Ex → Code
  | .normal => .skip
  | .exit i => .exit i
  | .ret => .ret
/-- How a loop's record lies. -/
def LSt (q : Rd × Loop) : Lp → Option Obj → Prop
  | .over, o => ∃ r, o = some (.loop r)
  | .ready rd, o => rd = q.1 ∧ o = some (.loop { q.2 with state := .ready, pending := none })
  | .busy rd, o => rd = q.1 ∧ o = some (.loop { q.2 with state := .busy, pending := none })
  | .done e, o => e ≠ .normal ∧ o = some (.loop { q.2 with state := .done, pending := some (exC e) })
theorem LSt.loop {q : Rd × Loop} {s : Lp} {o : Option Obj} (h : LSt q s o) : ∃ r, o = some (.loop r) := by
  cases s with
  | over => exact h
  | ready rd => exact ⟨_, h.2⟩
  | busy rd => exact ⟨_, h.2⟩
  | done e => exact ⟨_, h.2⟩
abbrev Gam := Nat → Rd × Loop
structure LD (B0 : Nat) (Γ : Gam) (lp : List Lp) (g : Gh) (w : World) : Prop where
  lo : ∀ l ∈ g.ls, B0 ≤ l
  len : g.ls.length = lp.length
  nd : g.ls.Nodup
  st : ∀ (i l : Nat) (s : Lp), g.ls[i]? = some l → lp[i]? = some s → LSt (Γ i) s w.heap[l]?
def Act1 (lp : List Lp) (i : Nat) (rd : Rd) : Prop := lp[i]? = some (.ready rd) ∨ lp[i]? = some (.busy rd)
/-- What runs on was running before. -/
def AO (lp lp' : List Lp) : Prop := lp.length ≤ lp'.length ∧ ∀ i rd, Act1 lp' i rd → Act1 lp i rd
theorem AO.refl (lp : List Lp) : AO lp lp := ⟨Nat.le_refl _, fun _ _ h => h⟩
theorem AO.trans {a b c : List Lp} (h : AO a b) (h' : AO b c) : AO a c := ⟨Nat.le_trans h.1 h'.1, fun i rd hh => h.2 i rd (h'.2 i rd hh)⟩
/-- A loop's record fits what is known of it. -/
def Fit (q : Rd × Loop) (g : Gh) (w : World) (h : Hp) : Prop :=
  q.2.params.toList = q.1.params ∧ q.2.assign = q.1.assign ∧ q.2.body = q.1.body ∧ TS g w h q.1.ts q.2.tmps
theorem LD.loop {Γ : Gam} {lp : List Lp} {g : Gh} {w : World} (h : LD B0 Γ lp g w) {l : Nat} (hl : l ∈ g.ls) : ∃ r, w.heap[l]? = some (.loop r) := by
  obtain ⟨i, hi, rfl⟩ := List.getElem_of_mem hl
  have h1 : g.ls[i]? = some g.ls[i] := List.getElem?_eq_getElem hi
  have h2 : i < lp.length := by rw [← h.len]; exact hi
  exact (h.st i _ lp[i] h1 (List.getElem?_eq_getElem h2)).loop

/-- How a frame began. -/
structure Bs where
  g : Gh
  w : World
  h : Hp
  lp : List Lp
  Γ : Gam
  nb : Nat
structure BOk (β : Bs) (r : Option Nat) : Prop where
  fit : ∀ i rd, Act1 β.lp i rd → Fit (β.Γ i) β.g β.w β.h
  live : ∀ b, Live β.h b → b < β.nb
  len : β.g.ls.length = β.lp.length
  lt : ∀ l ∈ β.g.ls, l < β.w.heap.size
  rnd : ∀ l, r = some l → l ∈ β.g.ls

def markOf (D : Nat) : Deferred := { target := .collected D, args := #[] }
/-- The marks of a frame's loops. -/
def DM (s0 : Nat) (w : World) (ds : List Deferred) : Prop :=
  ∃ Ds : List Nat, ds = Ds.map markOf ∧ Ds.Nodup ∧ ∀ D ∈ Ds, s0 ≤ D ∧ w.heap[D]? = some (.deferred (some []))

/-- From one state to a later one. -/
structure Mv (B0 : Nat) (w0 : Wz) (g : Gh) (w : World) (hp : List Blk) (lp : List Lp) (Γ : Gam) (g' : Gh) (w' : World) (hp' : List Blk) (lp' : List Lp) (Γ' : Gam) : Prop where
  ev : EW g w (hf hp) g' w' (hf hp')
  sw : SW B0 w0 g' w' (hf hp')
  ld : LD B0 Γ' lp' g' w'
  ao : AO lp lp'
  gam : ∀ i, i < lp.length → Γ' i = Γ i
theorem Mv.trans {g g1 g2 : Gh} {w w1 w2 : World} {h h1 h2 : List Blk} {l l1 l2 : List Lp} {Γ Γ1 Γ2 : Gam} (a : Mv B0 w0 g w h l Γ g1 w1 h1 l1 Γ1) (b : Mv B0 w0 g1 w1 h1 l1 Γ1 g2 w2 h2 l2 Γ2) : Mv B0 w0 g w h l Γ g2 w2 h2 l2 Γ2 :=
  ⟨a.ev.trans b.ev, b.sw, b.ld, a.ao.trans b.ao, fun i hi => (b.gam i (Nat.lt_of_lt_of_le hi a.ao.1)).trans (a.gam i hi)⟩
theorem LD.eb {Γ : Gam} {lp : List Lp} {g g' : Gh} {w w' : World} {h h' : Hp} (ld : LD B0 Γ lp g w) (e : EB g w h g' w' h') : LD B0 Γ lp g' w' := by
  refine ⟨by rw [e.lse]; exact ld.lo, by rw [e.lse]; exact ld.len, by rw [e.lse]; exact ld.nd, fun i l s h1 h2 => ?_⟩
  rw [e.lse] at h1
  have h3 := ld.st i l s h1 h2
  obtain ⟨r, hr⟩ := h3.loop
  rw [e.oth l _ hr rfl, ← hr]
  exact h3
theorem Mv.eb {g g' : Gh} {w w' : World} {hp hp' : List Blk} {lp : List Lp} {Γ : Gam} (ld : LD B0 Γ lp g w) (e : EB g w (hf hp) g' w' (hf hp')) (s : SW B0 w0 g' w' (hf hp')) : Mv B0 w0 g w hp lp Γ g' w' hp' lp Γ :=
  ⟨e.toEW, s, ld.eb e, AO.refl _, fun _ _ => rfl⟩

/-- A FRAME UNDER WAY. -/
structure Fr (B0 : Nat) (w0 : Wz) (r : Option Nat) (β : Bs) (Γ : Gam) (g : Gh) (w : World) (hp : List Blk) (lp : List Lp) (ts : List A) (act : Act) : Prop where
  sw : SW B0 w0 g w (hf hp)
  ev : EW β.g β.w β.h g w (hf hp)
  ts : TS g w (hf hp) ts act.tmps
  ld : LD B0 Γ lp g w
  ao : AO β.lp lp
  gam : ∀ i, i < β.lp.length → Γ i = β.Γ i
  dm : r = none → DM β.w.heap.size w act.defers
theorem DM.ew {s0 : Nat} {Γ : Gam} {lp : List Lp} {g g' : Gh} {w w' : World} {h h' : Hp} {ds : List Deferred} (dm : DM s0 w ds) (ld : LD B0 Γ lp g w) (e : EW g w h g' w' h') : DM s0 w' ds := by
  obtain ⟨Ds, h1, h2, h3⟩ := dm
  refine ⟨Ds, h1, h2, fun D hD => ⟨(h3 D hD).1, e.oth D _ (h3 D hD).2 rfl (fun hm => ?_)⟩⟩
  obtain ⟨r, hr⟩ := ld.loop hm
  rw [(h3 D hD).2] at hr
  cases hr
theorem TS.put {g : Gh} {w : World} {h : Hp} {vs : Array Value} (t : TS g w h ts vs) {a : A} {v : Value} (r : VR g w h a v) (d : Nat) : TS g w h (ts.set d a) (vs.setIfInBounds d v) := by
  refine ⟨by simpa using t.1, fun i => ?_⟩
  have := t.2 i
  simp only [List.getD_eq_getElem?_getD, Array.getD_eq_getD_getElem?] at this ⊢
  by_cases hi : i = d
  · subst hi
    by_cases hl : i < ts.length
    · have hl2 : i < vs.size := by rw [← t.1]; exact hl
      simpa [hl, hl2] using r
    · have hl2 : ¬ i < vs.size := by rw [← t.1]; exact hl
      simpa [hl, hl2] using this
  · rw [List.getElem?_set_ne (fun e => hi e.symm), Array.getElem?_setIfInBounds_ne (fun e => hi e.symm)]
    exact this
theorem Fr.move {r : Option Nat} {β : Bs} {Γ Γ' : Gam} {g g' : Gh} {w w' : World} {hp hp' : List Blk} {lp lp' : List Lp} {act : Act} (f : Fr B0 w0 r β Γ g w hp lp ts act) (m : Mv B0 w0 g w hp lp Γ g' w' hp' lp' Γ') :
    Fr B0 w0 r β Γ' g' w' hp' lp' ts act :=
  ⟨m.sw, f.ev.trans m.ev, f.ts.mono m.ev.toEv, m.ld, f.ao.trans m.ao, fun i hi => (m.gam i (Nat.lt_of_lt_of_le hi f.ao.1)).trans (f.gam i hi), fun h => (f.dm h).ew f.ld m.ev⟩
theorem Fr.put {r : Option Nat} {β : Bs} {Γ : Gam} {g : Gh} {w : World} {hp : List Blk} {lp : List Lp} {act : Act} (f : Fr B0 w0 r β Γ g w hp lp ts act) {a : A} {v : Value} (hv : VR g w (hf hp) a v) (dst : Option Nat) :
    Fr B0 w0 r β Γ g w hp lp (match dst with | none => ts | some d => ts.set d a) (act.put dst v) := by
  cases dst with
  | none => exact f
  | some d => exact ⟨f.sw, f.ev, f.ts.put hv d, f.ld, f.ao, f.gam, f.dm⟩
theorem ev_sound {g : Gh} {w : World} {h : Hp} {act : Act} (t : TS g w h ts act.tmps) (x : Operand) : VR g w h (ev ts x) (act.eval x) := by
  cases x with
  | tmp n => exact t.2 n
  | const v => exact VR.ofVal ..
  | global n => exact .un _
  | func f => exact .fn f [] [] #[] #[] rfl rfl (fun i hi => by simp at hi) (fun i hi => by simp at hi)

/-- WHAT IS WALKED IN PLACE, FROM A CALL ON. -/
def InlOk (P : Program) (B0 : Nat) (w0 : Wz) (inl : Inl) : Prop :=
  ∀ (r : Option Nat) (β : Bs) (Γ : Gam) (g : Gh) (w : World) (hp : List Blk) (lp : List Lp) (ts : List A) (act : Act) (fv : A) (as : List A) (kk : K3) (o : Oper) (cl : Call) (x : Operand) (N : Nat) (next : Act → World → Prop) (Q : Exit → Act → World → Prop),
    BOk β r → Fr B0 w0 r β Γ g w hp lp ts act → inl fv as hp lp kk → o.op = .call cl → cl.callee = .value x → fv = ev ts x → as = cl.args.toList.map (ev ts) →
    (∀ a hp' lp' Γ' g' w' v, kk a hp' lp' → Mv B0 w0 g w hp lp Γ g' w' hp' lp' Γ' → VR g' w' (hf hp') a v → next (act.put o.dst v) w') →
    o.wpIn (FW r) N P act w next Q

theorem ops_sound {E : EqT} {env : Env} (hE : EqOk P E) (henv : EnvOk P env) {inl : Inl} (hinl : InlOk P B0 w0 inl) {r : Option Nat} {β : Bs} (hβ : BOk β r) {all : List Oper} {N : Nat} {Q : Exit → Act → World → Prop} {k : List A → List Blk → List Lp → Prop}
    (hQ : ∀ ts hp lp Γ g w act, k ts hp lp → Fr B0 w0 r β Γ g w hp lp ts act → Q .normal act w) :
    ∀ (os : List Oper) (ts : List A) (hp : List Blk) (lp : List Lp) (Γ : Gam) (g : Gh) (w : World) (act : Act), opsS P E env inl all os ts hp lp k → Fr B0 w0 r β Γ g w hp lp ts act → wpListIn (FW r) N P all.toArray Q os act w := by
  intro os
  induction os with
  | nil => exact fun ts hp lp Γ g w act hk f => hQ ts hp lp Γ g w act hk f
  | cons o os ih =>
    intro ts hp lp Γ g w act hk f
    have one : opS P E env inl hp lp ts o.op (fun a hp lp => putK ts o.dst a fun ts => opsS P E env inl all os ts hp lp k) → o.wpIn (FW r) N P act w (wpListIn (FW r) N P all.toArray Q os) Q := fun h => by
      rcases opS_sound (B0 := B0) (w0 := w0) hE henv h with h1 | ⟨cl, x, h1, h2, h3⟩
      · refine h1 r g w act N _ Q f.sw (fun x _ => ev_sound f.ts x) fun a hp' v w' g' hk2 e s hv => ?_
        dsimp only at hk2
        rw [putK_eq] at hk2
        exact ih _ hp' lp Γ g' w' _ hk2 ((f.move (Mv.eb f.ld e s)).put hv o.dst)
      · refine hinl r β Γ g w hp lp ts act _ _ _ o cl x N _ Q hβ f h3 h1 h2 rfl rfl fun a hp' lp' Γ' g' w' v hk2 m hv => ?_
        rw [putK_eq] at hk2
        exact ih _ hp' lp' Γ' g' w' _ hk2 ((f.move m).put hv o.dst)
    have skip : putK ts o.dst (.tup []) (fun ts => opsS P E env inl all os ts hp lp k) → (∀ f, o.about P w act.eval = some f → (FW r).fn f) ∧ wpListIn (FW r) N P all.toArray Q os (act.put o.dst undef) w := fun h => by
      refine ⟨fun _ _ => trivial, ?_⟩
      rw [putK_eq] at h
      exact ih _ hp lp Γ g w _ h (f.put (.tup [] #[] rfl (fun i hi => by simp at hi)) o.dst)
    unfold wpListIn
    change (match o.guard with
      | none => opS P E env inl hp lp ts o.op fun a hp lp => putK ts o.dst a fun ts => opsS P E env inl all os ts hp lp k
      | some g => optK ((all[g.1]?).bind (·.dst)) fun d => match ts.getD d .un with
        | .v (.bool b) => match g.2 with
          | true => cndK b (opS P E env inl hp lp ts o.op fun a hp lp => putK ts o.dst a fun ts => opsS P E env inl all os ts hp lp k) (putK ts o.dst (.tup []) fun ts => opsS P E env inl all os ts hp lp k)
          | false => cndK b (putK ts o.dst (.tup []) fun ts => opsS P E env inl all os ts hp lp k) (opS P E env inl hp lp ts o.op fun a hp lp => putK ts o.dst a fun ts => opsS P E env inl all os ts hp lp k)
        | .tup _ => putK ts o.dst (.tup []) fun ts => opsS P E env inl all os ts hp lp k
        | _ => False) at hk
    cases hg : o.guard with
    | none =>
      rw [hg] at hk
      simp only [Region.wanted, hg, if_true]
      exact one hk
    | some q =>
      obtain ⟨j, want⟩ := q
      rw [hg] at hk
      obtain ⟨d, hd, hk2⟩ := optK_elim hk
      have hy : yielded all.toArray act.tmps j = match act.tmps[d]? with | some (.bool b) => some b | _ => none := by
        have hd' : (all.toArray[j]?).bind (·.dst) = some d := by simpa using hd
        simp only [yielded, hd', Option.bind_some]
        rfl
      have hv := f.ts.2 d
      rw [Array.getD_eq_getD_getElem?] at hv
      cases ht : ts.getD d .un <;> rw [ht] at hk2 hv <;> try exact hk2.elim
      · rename_i x
        cases x <;> try exact hk2.elim
        rename_i b
        have hb := hv.bool_inv
        have hb2 : act.tmps[d]? = some (.bool b) := by
          cases h : act.tmps[d]? with
          | none => rw [h] at hb; simp [undef] at hb
          | some y => rw [h] at hb; simpa using hb
        simp only [Region.wanted, hg, hy, hb2]
        cases want <;> cases b <;> first
          | (rw [if_pos (by rfl)]; exact one hk2)
          | (rw [if_neg (by simp)]; exact skip hk2)
      · rename_i xs
        have hn : (match act.tmps[d]? with | some (.bool b) => some b | _ => none) = none := by
          cases h : act.tmps[d]? with
          | none => rfl
          | some y =>
            rw [h] at hv
            simp only [Option.getD_some] at hv
            cases hv
            rfl
        simp only [Region.wanted, hg, hy, hn]
        rw [if_neg (by simp)]
        exact skip hk2

theorem op1_sound {E : EqT} {env : Env} (hE : EqOk P E) (henv : EnvOk P env) {inl : Inl} (hinl : InlOk P B0 w0 inl) {r : Option Nat} {β : Bs} (hβ : BOk β r) {all : List Oper} {N : Nat} {Q : Exit → Act → World → Prop} {k : List A → List Blk → List Lp → Prop}
    {next : Act → World → Prop} (hn : ∀ ts hp lp Γ g w act, k ts hp lp → Fr B0 w0 r β Γ g w hp lp ts act → next act w)
    (o : Oper) (ts : List A) (hp : List Blk) (lp : List Lp) (Γ : Gam) (g : Gh) (w : World) (act : Act) (hk : opsS P E env inl all [o] ts hp lp k) (f : Fr B0 w0 r β Γ g w hp lp ts act) :
    if Region.wanted o (yielded all.toArray act.tmps) then o.wpIn (FW r) N P act w next Q else (∀ f, o.about P w act.eval = some f → (FW r).fn f) ∧ next (act.put o.dst undef) w := by
  have one : opS P E env inl hp lp ts o.op (fun a hp lp => putK ts o.dst a fun ts => k ts hp lp) → o.wpIn (FW r) N P act w next Q := fun h => by
    rcases opS_sound (B0 := B0) (w0 := w0) hE henv h with h1 | ⟨cl, x, h1, h2, h3⟩
    · refine h1 r g w act N _ Q f.sw (fun x _ => ev_sound f.ts x) fun a hp' v w' g' hk2 e s hv => ?_
      dsimp only at hk2
      rw [putK_eq] at hk2
      exact hn _ hp' lp Γ g' w' _ hk2 ((f.move (Mv.eb f.ld e s)).put hv o.dst)
    · refine hinl r β Γ g w hp lp ts act _ _ _ o cl x N _ Q hβ f h3 h1 h2 rfl rfl fun a hp' lp' Γ' g' w' v hk2 m hv => ?_
      rw [putK_eq] at hk2
      exact hn _ hp' lp' Γ' g' w' _ hk2 ((f.move m).put hv o.dst)
  have skip : putK ts o.dst (.tup []) (fun ts => k ts hp lp) → (∀ f, o.about P w act.eval = some f → (FW r).fn f) ∧ next (act.put o.dst undef) w := fun h => by
    refine ⟨fun _ _ => trivial, ?_⟩
    rw [putK_eq] at h
    exact hn _ hp lp Γ g w _ h (f.put (.tup [] #[] rfl (fun i hi => by simp at hi)) o.dst)
  change (match o.guard with
    | none => opS P E env inl hp lp ts o.op fun a hp lp => putK ts o.dst a fun ts => k ts hp lp
    | some g => optK ((all[g.1]?).bind (·.dst)) fun d => match ts.getD d .un with
      | .v (.bool b) => match g.2 with
        | true => cndK b (opS P E env inl hp lp ts o.op fun a hp lp => putK ts o.dst a fun ts => k ts hp lp) (putK ts o.dst (.tup []) fun ts => k ts hp lp)
        | false => cndK b (putK ts o.dst (.tup []) fun ts => k ts hp lp) (opS P E env inl hp lp ts o.op fun a hp lp => putK ts o.dst a fun ts => k ts hp lp)
      | .tup _ => putK ts o.dst (.tup []) fun ts => k ts hp lp
      | _ => False) at hk
  cases hg : o.guard with
  | none =>
    rw [hg] at hk
    simp only [Region.wanted, hg, if_true]
    exact one hk
  | some q =>
    obtain ⟨j, want⟩ := q
    rw [hg] at hk
    obtain ⟨d, hd, hk2⟩ := optK_elim hk
    have hy : yielded all.toArray act.tmps j = match act.tmps[d]? with | some (.bool b) => some b | _ => none := by
      have hd' : (all.toArray[j]?).bind (·.dst) = some d := by simpa using hd
      simp only [yielded, hd', Option.bind_some]
      rfl
    have hv := f.ts.2 d
    rw [Array.getD_eq_getD_getElem?] at hv
    cases ht : ts.getD d .un <;> rw [ht] at hk2 hv <;> try exact hk2.elim
    · rename_i x
      cases x <;> try exact hk2.elim
      rename_i b
      have hb := hv.bool_inv
      have hb2 : act.tmps[d]? = some (.bool b) := by
        cases h : act.tmps[d]? with
        | none => rw [h] at hb; simp [undef] at hb
        | some y => rw [h] at hb; simpa using hb
      simp only [Region.wanted, hg, hy, hb2]
      cases want <;> cases b <;> first
        | (rw [if_pos (by rfl)]; exact one hk2)
        | (rw [if_neg (by simp)]; exact skip hk2)
    · rename_i xs
      have hn : (match act.tmps[d]? with | some (.bool b) => some b | _ => none) = none := by
        cases h : act.tmps[d]? with
        | none => rfl
        | some y =>
          rw [h] at hv
          simp only [Option.getD_some] at hv
          cases hv
          rfl
      simp only [Region.wanted, hg, hy, hn]
      rw [if_neg (by simp)]
      exact skip hk2

end Go.YtoeophdffhmpmaaE
end

section
set_option linter.unusedVariables false
set_option linter.unusedSimpArgs false
namespace Go.YtoeophdffhmpmaaE
open Go Go.RowKit

variable {P : Program} {B0 : Nat} {w0 : Wz} {c : Hp} {p : Nat} {o : Oper} {ts : List A} {hp : List Blk}

def renTs' (rn : Nat → Nat → Option (Nat × Nat)) (yn : Nat → Bool) : List A → List Bool → List A
  | [], _ => []
  | _ :: xs, [] => .un :: renTs' rn yn xs []
  | x :: xs, true :: tm => ren2' rn yn x :: renTs' rn yn xs tm
  | _ :: xs, false :: tm => .un :: renTs' rn yn xs tm
section
variable {rn : Nat → Nat → Option (Nat × Nat)} {yn : Nat → Bool}
theorem renTs_eq (xs : List A) (tm : List Bool) (k : List A → Prop) : renTs rn yn xs tm k = k (renTs' rn yn xs tm) := by
  induction xs generalizing tm k with
  | nil => cases tm <;> rfl
  | cons x xs ih =>
    cases tm with
    | nil => exact ih [] fun as => k (.un :: as)
    | cons b tm => cases b with
      | true => show ren2 rn yn x (fun a => renTs rn yn xs tm fun as => k (a :: as)) = _; rw [ren2_eq]; exact ih tm fun as => k (ren2' rn yn x :: as)
      | false => exact ih tm fun as => k (.un :: as)
theorem renTs_length (xs : List A) (tm : List Bool) : (renTs' rn yn xs tm).length = xs.length := by
  induction xs generalizing tm with
  | nil => cases tm <;> rfl
  | cons x xs ih => cases tm with
    | nil => simp [renTs', ih]
    | cons b tm => cases b <;> simp [renTs', ih]
theorem renTs_get (xs : List A) (tm : List Bool) (i : Nat) : (renTs' rn yn xs tm).getD i .un = .un ∨ (renTs' rn yn xs tm).getD i .un = ren2' rn yn (xs.getD i .un) := by
  induction xs generalizing tm i with
  | nil => left; cases tm <;> simp [renTs']
  | cons x xs ih => cases i with
    | zero => cases tm with
      | nil => left; rfl
      | cons b tm => cases b
                     · left; rfl
                     · right; rfl
    | succ i => cases tm with
      | nil => simpa [renTs'] using ih [] i
      | cons b tm => cases b <;> simpa [renTs'] using ih tm i
end
theorem rising_spec {lo : Nat} {bs : List Nat} (h : rising lo bs = true) : (∀ (j b : Nat), bs[j]? = some b → lo ≤ b) ∧ ∀ (i j b : Nat), bs[i]? = some b → bs[j]? = some b → i = j := by
  induction bs generalizing lo with
  | nil => exact ⟨fun j b h => by simp at h, fun i j b h => by simp at h⟩
  | cons c bs ih =>
    have h' : (Nat.ble lo c && rising (c + 1) bs) = true := h
    simp only [Bool.and_eq_true] at h'
    obtain ⟨h1, h2⟩ := h'
    have h1 := Nat.le_of_ble_eq_true h1
    obtain ⟨i1, i2⟩ := ih h2
    refine ⟨fun j b hj => ?_, fun i j b hi hj => ?_⟩
    · cases j with
      | zero => simp at hj; omega
      | succ j => have := i1 j b (by simpa using hj); omega
    · cases i with
      | zero => cases j with
        | zero => rfl
        | succ j => simp at hi; have := i1 j b (by simpa using hj); omega
      | succ i => cases j with
        | zero => simp at hj; have := i1 i b (by simpa using hi); omega
        | succ j => rw [i2 i j b (by simpa using hi) (by simpa using hj)]
theorem posOf_spec {b : Nat} {bs : List Nat} {n j : Nat} (h : posOf b bs n = some j) : n ≤ j ∧ bs[j - n]? = some b := by
  induction bs generalizing n with
  | nil => cases h
  | cons c bs ih =>
    change (match Nat.beq b c with | true => some n | false => posOf b bs (n + 1)) = some j at h
    cases hc : Nat.beq b c with
    | true =>
      rw [hc] at h
      obtain rfl : n = j := by simpa using h
      have := Nat.eq_of_beq_eq_true hc
      subst this
      simp
    | false =>
      rw [hc] at h
      obtain ⟨h1, h2⟩ := ih h
      refine ⟨by omega, ?_⟩
      rw [show j - n = (j - (n + 1)) + 1 by omega]
      simpa using h2
theorem allOver_spec {lp : List Lp} (h : allOver lp = true) : ∀ s ∈ lp, s = .over := by
  induction lp with
  | nil => intro s hs; cases hs
  | cons x lp ih =>
    have h' : (isOver x && allOver lp) = true := h
    simp only [Bool.and_eq_true] at h'
    intro s hs
    rcases List.mem_cons.1 hs with rfl | hs
    · cases s <;> simp [isOver] at h' ⊢
    · exact ih h'.2 s hs
theorem pickK_elim {bs : List Nat} {k : List Blk → Prop} (h : pickK hp bs k) : k (bs.map fun b => ver0 (hp.getD b .hole)) ∧ ∀ b ∈ bs, hp.getD b .hole ≠ .hole := by
  induction bs generalizing k with
  | nil => exact ⟨h, by simp⟩
  | cons b bs ih =>
    change forceB (ver0 (hp.getD b .hole)) (fun x => match x with | .hole => False | x => pickK hp bs fun xs => k (x :: xs)) at h
    cases hb : hp.getD b .hole <;> rw [hb] at h <;> try exact h.elim
    · obtain ⟨h1, h2⟩ := ih (k := fun xs => k (_ :: xs)) h
      refine ⟨by simp only [List.map_cons, hb]; exact h1, fun x hx => ?_⟩
      rcases List.mem_cons.1 hx with rfl | hx
      · rw [hb]; exact Blk.noConfusion
      · exact h2 x hx
    · obtain ⟨h1, h2⟩ := ih (k := fun xs => k (_ :: xs)) h
      refine ⟨by simp only [List.map_cons, hb]; exact h1, fun x hx => ?_⟩
      rcases List.mem_cons.1 hx with rfl | hx
      · rw [hb]; exact Blk.noConfusion
      · exact h2 x hx
theorem ver0_fz (b : Blk) : (ver0 b).fz = b.fz := by cases b <;> rfl
theorem ver0_es (b : Blk) : (ver0 b).es = b.es := by cases b <;> rfl
theorem ver0_ver (b : Blk) : (ver0 b).ver = 0 := by cases b <;> rfl
theorem ver0_hole (b : Blk) : ver0 b = .hole ↔ b = .hole := by cases b <;> simp [ver0]
theorem BR.ver0 {g : Gh} {w : World} {h : Hp} {b : Nat} {k : Blk} (r : BR g w h b k) : BR g w h b (ver0 k) := by cases k <;> exact r

theorem gc_sound {r : Option Nat} {β : Bs} (hβ : BOk β r) {q : Option GC} {lp : List Lp} {k : List A → List Blk → List Lp → Prop} (hk : gcK β.nb β.lp.length q ts hp lp k) :
    ∃ ts2 hp2 lp2, k ts2 hp2 lp2 ∧ ∀ (Γ : Gam) (g : Gh) (w : World) (act : Act), Fr B0 w0 r β Γ g w hp lp ts act → ∃ g2, Fr B0 w0 r β Γ g2 w hp2 lp2 ts2 act := by
  cases q with
  | none => exact ⟨ts, hp, lp, hk, fun Γ g w act f => ⟨g, f⟩⟩
  | some q =>
    obtain ⟨h1, h2⟩ := chk_elim hk
    rw [dropK_eq] at h2
    obtain ⟨h3, h4⟩ := chk_elim h2
    obtain ⟨h5, h6⟩ := takeK_elim h4
    rw [renTs_eq] at h6
    obtain ⟨h7, h8⟩ := takeK_elim h6
    rw [renBs_eq] at h8
    obtain ⟨h9, h10⟩ := pickK_elim h8
    rw [renBs_eq, snocK_eq] at h9
    simp only [Bool.and_eq_true] at h1
    obtain ⟨r1, r2⟩ := rising_spec h1.1
    have hnl := Nat.le_of_ble_eq_true h1.2
    refine ⟨_, _, _, h9, fun Γ g w act f => ?_⟩
    generalize hrn : gcN β.nb q.bs hp = rn
    generalize hyn : (fun i => Nat.blt i q.nl) = yn
    have hlen1 : ((hp.take β.nb).map (renB' rn yn)).length = β.nb := by simp; omega
    generalize hhp2 : (hp.take β.nb).map (renB' rn yn) ++ (q.bs.map fun b => ver0 (hp.getD b .hole)).map (renB' rn yn) = hp2
    have hlow : ∀ b, b < β.nb → hf hp2 b = renB' rn yn (hf hp b) := fun b hb => by
      rw [← hhp2, hf_append_lt _ _ (by rw [hlen1]; exact hb), hf_map _ rfl]
      congr 1
      simp [hf, List.getD_eq_getElem?_getD, List.getElem?_take, hb]
    have hhigh : ∀ (j b : Nat), q.bs[j]? = some b → hf hp2 (β.nb + j) = renB' rn yn (ver0 (hf hp b)) := fun j b hj => by
      have : hf hp2 (((hp.take β.nb).map (renB' rn yn)).length + j) = hf ((q.bs.map fun b => ver0 (hp.getD b .hole)).map (renB' rn yn)) j := by rw [← hhp2, hf_append_ge]
      rw [hlen1] at this
      rw [this, hf_map _ rfl]
      congr 1
      have hjl := (List.getElem?_eq_some_iff.1 hj)
      simp [hf, List.getD_eq_getElem?_getD, hj]
    obtain ⟨g2, hg2⟩ : ∃ g2 : Gh, g2 = ⟨fun x => if x < β.nb then g.m x else g.m (q.bs.getD (x - β.nb) 0), fun x => if x < β.nb then g.cp x else g.cp (q.bs.getD (x - β.nb) 0), g.I, g.ls.take q.nl⟩ := ⟨_, rfl⟩
    have mlow : ∀ b, b < β.nb → g2.m b = g.m b ∧ g2.cp b = g.cp b := fun b hb => by rw [hg2]; simp [hb]
    have mhigh : ∀ (j b : Nat), q.bs[j]? = some b → g2.m (β.nb + j) = g.m b ∧ g2.cp (β.nb + j) = g.cp b := fun j b hj => by
      have e : q.bs.getD (β.nb + j - β.nb) 0 = b := by rw [Nat.add_sub_cancel_left, List.getD_eq_getElem?_getD, hj]; rfl
      rw [hg2]
      dsimp only
      rw [if_neg (by omega), if_neg (by omega), e]
      exact ⟨rfl, rfl⟩
    have hI2 : g2.I = g.I := by rw [hg2]
    have hls2 : g2.ls = g.ls.take q.nl := by rw [hg2]
    have hlive : ∀ b, b ∈ q.bs → Live (hf hp) b := fun b hb => h10 b hb
    have hcase : ∀ x, Live (hf hp2) x → (x < β.nb ∧ Live (hf hp) x) ∨ ∃ (j b : Nat), x = β.nb + j ∧ q.bs[j]? = some b ∧ Live (hf hp) b := fun x hx => by
      by_cases hb : x < β.nb
      · refine .inl ⟨hb, fun h => hx ?_⟩
        rw [hlow x hb, h]; rfl
      · right
        have hxl : x < hp2.length := live_lt hx
        have hj : x - β.nb < q.bs.length := by rw [← hhp2] at hxl; simp at hxl; omega
        refine ⟨x - β.nb, q.bs[x - β.nb], by omega, List.getElem?_eq_getElem hj, hlive _ (List.getElem_mem _)⟩
    have hR : Ren rn yn g (hf hp) g2 (hf hp2) := by
      refine ⟨fun b ver b' v' hr hl hv => ?_, fun x hx => by rw [hI2]; exact hx, fun i l hy hl => ?_⟩
      · rw [← hrn] at hr
        unfold gcN at hr
        cases hb : Nat.blt b β.nb with
        | true =>
          rw [hb] at hr
          simp only [Option.some.injEq, Prod.mk.injEq] at hr
          obtain ⟨rfl, rfl⟩ := hr
          have hbl : b < β.nb := Nat.le_of_ble_eq_true hb
          obtain ⟨m1, m2⟩ := mlow b hbl
          unfold Live at hl ⊢
          rw [hlow b hbl, renB_ver, renB_es]
          exact ⟨fun h => hl ((renB_hole _).1 h), hv, rfl, fun h => ⟨h, m1, m2⟩⟩
        | false =>
          rw [hb] at hr
          dsimp only at hr
          cases hp' : posOf b q.bs 0 with
          | none => rw [hp'] at hr; cases hr
          | some j =>
            rw [hp'] at hr
            dsimp only at hr
            cases hve : Nat.beq ver (hp.getD b .hole).ver with
            | false => rw [hve] at hr; cases hr
            | true =>
              rw [hve] at hr
              simp only [Option.some.injEq, Prod.mk.injEq] at hr
              obtain ⟨rfl, rfl⟩ := hr
              have hj := (posOf_spec hp').2
              rw [Nat.sub_zero] at hj
              obtain ⟨m1, m2⟩ := mhigh j b hj
              unfold Live at hl ⊢
              rw [hhigh j b hj, renB_ver, renB_es, ver0_ver, ver0_es]
              exact ⟨fun h => hl ((ver0_hole _).1 ((renB_hole _).1 h)), Nat.le_refl _, rfl, fun _ => ⟨Nat.eq_of_beq_eq_true hve, m1, m2⟩⟩
      · rw [← hyn] at hy
        have hil : i < q.nl := Nat.le_of_ble_eq_true hy
        rw [hls2, List.getElem?_take_of_lt hil]; exact hl
    have hmx : ∀ x, Live (hf hp2) x → ∃ b, Live (hf hp) b ∧ g2.m x = g.m b ∧ g2.cp x = g.cp b ∧ ((x < β.nb ∧ b = x ∧ hf hp2 x = renB' rn yn (hf hp b)) ∨ (∃ (j : Nat), x = β.nb + j ∧ q.bs[j]? = some b ∧ hf hp2 x = renB' rn yn (ver0 (hf hp b)))) := fun x hx => by
      rcases hcase x hx with ⟨hb, hl⟩ | ⟨j, b, rfl, hj, hl⟩
      · exact ⟨x, hl, (mlow x hb).1, (mlow x hb).2, .inl ⟨hb, rfl, hlow x hb⟩⟩
      · exact ⟨b, hl, (mhigh j b hj).1, (mhigh j b hj).2, .inr ⟨j, rfl, hj, hhigh j b hj⟩⟩
    have hsame : ∀ (x b : Nat), ((x < β.nb ∧ b = x ∧ hf hp2 x = renB' rn yn (hf hp b)) ∨ (∃ (j : Nat), x = β.nb + j ∧ q.bs[j]? = some b ∧ hf hp2 x = renB' rn yn (ver0 (hf hp b)))) → (hf hp2 x).fz = (hf hp b).fz := fun x b h => by
      rcases h with ⟨_, _, h⟩ | ⟨_, _, _, h⟩
      · rw [h, renB_fz]
      · rw [h, renB_fz, ver0_fz]
    refine ⟨g2, ⟨⟨⟨?_, ?_, ?_, ?_, ?_, ?_⟩, f.sw.be, f.sw.b0, fun x hx => f.sw.ib x (by rw [hI2] at hx; exact hx)⟩, ⟨⟨fun b hb => ?_, fun x hx => ?_, fun i l hl => ?_, f.ev.size⟩, fun l hl => ?_, f.ev.oth⟩, ?_, ⟨fun l hl => ?_, ?_, ?_, fun i l s hi hs => ?_⟩, ⟨?_, fun i rd h => ?_⟩, f.gam, f.dm⟩⟩
    · intro x y hx hy hm
      obtain ⟨b, l1, m1, _, c1⟩ := hmx x hx
      obtain ⟨b', l2, m2, _, c2⟩ := hmx y hy
      rw [m1, m2] at hm
      have hbb := f.sw.sh.inj b b' l1 l2 hm
      subst hbb
      rcases c1 with ⟨h1, rfl, _⟩ | ⟨j, rfl, h1, _⟩ <;> rcases c2 with ⟨h2, h3, _⟩ | ⟨j', rfl, h2, _⟩
      · exact h3
      · have := r1 j' _ h2; omega
      · have := r1 j _ h1; omega
      · rw [r2 j j' b h1 h2]
    · intro x hx
      obtain ⟨b, l1, m1, _⟩ := hmx x hx
      rw [m1]; exact f.sw.sh.lo b l1
    · intro x hx; rw [hI2] at hx; exact f.sw.sh.imm x hx
    · intro x hx hf'
      obtain ⟨b, l1, m1, _, c1⟩ := hmx x hx
      rw [hsame x b c1] at hf'
      rw [m1, hI2]; exact f.sw.sh.sep b l1 hf'
    · intro x hx hf'
      obtain ⟨b, l1, m1, _, c1⟩ := hmx x hx
      rw [hsame x b c1] at hf'
      rw [m1, hI2]; exact f.sw.sh.fro b l1 hf'
    · intro x
      by_cases hx : Live (hf hp2) x
      · obtain ⟨b, l1, m1, c1, d1⟩ := hmx x hx
        rcases d1 with ⟨_, _, h⟩ | ⟨_, _, _, h⟩
        · rw [h]; exact BR.rnm hR m1 c1 (f.sw.sh.blk b)
        · rw [h]; exact BR.rnm hR m1 c1 (f.sw.sh.blk b).ver0
      · have : hf hp2 x = .hole := Classical.byContradiction hx
        rw [this]; trivial
    · have hbn := hβ.live b hb
      obtain ⟨e1, e2, e3, e4⟩ := f.ev.live b hb
      unfold Live at e1 ⊢
      rw [hlow b hbn, renB_ver, renB_es, (mlow b hbn).1, (mlow b hbn).2]
      exact ⟨fun h => e1 ((renB_hole _).1 h), e2, e3, e4⟩
    · rw [hI2]; exact f.ev.imm x hx
    · have h1 := f.ev.ls i l hl
      have h2 := (List.getElem?_eq_some_iff.1 hl).1
      rw [hβ.len] at h2
      rw [hls2, List.getElem?_take_of_lt (by omega)]; exact h1
    · rw [hls2] at hl; exact f.ev.lsn l (List.mem_of_mem_take hl)
    · refine ⟨by rw [renTs_length]; exact f.ts.1, fun i => ?_⟩
      rcases renTs_get (rn := rn) (yn := yn) ts q.tm i with h | h
      · rw [h]; exact .un _
      · rw [h]; exact (f.ts.2 i).rn2 hR
    · rw [hls2] at hl; exact f.ld.lo l (List.mem_of_mem_take hl)
    · rw [hls2]; simp [f.ld.len]
    · rw [hls2]; exact f.ld.nd.sublist (List.take_sublist _ _)
    · rw [hls2] at hi
      obtain ⟨hlt, hi2⟩ := List.getElem?_eq_some_iff.1 hi
      have hiq : i < q.nl := by simp at hlt; omega
      rw [List.getElem?_take_of_lt hiq] at hi hs
      exact f.ld.st i l s hi hs
    · rw [List.length_take]; have := f.ao.1; omega
    · refine f.ao.2 i rd ?_
      unfold Act1 at h ⊢
      simp only [List.getElem?_take] at h
      split at h
      · exact h
      · simp at h

theorem maskT_length (ts : List A) (tm : List Bool) : (maskT ts tm).length = ts.length := by
  induction ts generalizing tm with
  | nil => rfl
  | cons x xs ih => cases tm with
    | nil => show (A.un :: maskT xs []).length = _; simp [ih]
    | cons b tm => cases b
                   · show (A.un :: maskT xs tm).length = _; simp [ih]
                   · show (x :: maskT xs tm).length = _; simp [ih]
theorem maskT_get (ts : List A) (tm : List Bool) (i : Nat) : (maskT ts tm).getD i .un = .un ∨ (maskT ts tm).getD i .un = ts.getD i .un := by
  induction ts generalizing tm i with
  | nil => left; show ([] : List A).getD i .un = _; simp
  | cons x xs ih => cases i with
    | zero => cases tm with
      | nil => left; rfl
      | cons b tm => cases b
                     · left; rfl
                     · right; rfl
    | succ i => cases tm with
      | nil => exact ih [] i
      | cons b tm => cases b
                     · exact ih tm i
                     · exact ih tm i
/-- A row's references become what is only read. -/
theorem SW.cv {g : Gh} {w : World} {h : Hp} (s : SW B0 w0 g w h) {b : Nat} {fz nx : Bool} {ver es : Nat} {els els2 : List (List A)} (hh : h b = .rw fz nx ver es els) (hl : els2.length = els.length)
    (hc : ∀ i, i < els.length → (els2.getD i []).length = (els.getD i []).length ∧ ∀ j, j < (els.getD i []).length → plainA ((els2.getD i []).getD j .un) = true ∧
      ∀ arr E, w.heap[g.m b]? = some (.cells arr E (0, 0)) → ∀ h2, VR g w h2 ((els2.getD i []).getD j .un) (arr.getD (i * es + j) undef)) :
    EB g w h g w (setH h b (.rw fz false ver es els2)) ∧ SW B0 w0 g w (setH h b (.rw fz false ver es els2)) := by
  have hlb : Live h b := by unfold Live; rw [hh]; exact Blk.noConfusion
  have hlive : ∀ x, Live (setH h b (.rw fz false ver es els2)) x ↔ Live h x := fun x => by
    unfold Live setH
    by_cases hx : x = b
    · subst hx; simp [hh]
    · simp [hx]
  have hfz : ∀ x, (setH h b (.rw fz false ver es els2) x).fz = (h x).fz := fun x => by
    by_cases hx : x = b
    · subst hx; rw [setH_same, hh]; rfl
    · rw [setH_ne _ _ _ hx]
  have e : Ev g w h g w (setH h b (.rw fz false ver es els2)) := by
    refine ⟨fun x hx => ⟨(hlive x).2 hx, ?_⟩, fun x hx => ⟨hx, .of rfl⟩, fun _ _ h => h, Nat.le_refl _⟩
    by_cases hxb : x = b
    · subst hxb
      rw [setH_same, hh]
      exact ⟨Nat.le_refl _, rfl, fun _ => ⟨rfl, rfl⟩⟩
    · rw [setH_ne _ _ _ hxb]; exact ⟨Nat.le_refl _, rfl, fun _ => ⟨rfl, rfl⟩⟩
  refine ⟨⟨e, rfl, fun x o hx _ => hx⟩, ⟨⟨fun x y hx hy => s.sh.inj x y ((hlive x).1 hx) ((hlive y).1 hy), fun x hx => s.sh.lo x ((hlive x).1 hx), s.sh.imm, fun x hx hf => s.sh.sep x ((hlive x).1 hx) (by rwa [hfz] at hf), fun x hx hf => s.sh.fro x ((hlive x).1 hx) (by rwa [hfz] at hf), fun x => ?_⟩, s.be, s.b0, s.ib⟩⟩
  by_cases hxb : x = b
  · subst hxb
    rw [setH_same]
    obtain ⟨arr, E, h1, h2', h3, h4, h5, h6, h7⟩ := rw_facts s hh
    have row : ∀ i, i < els.length → (els2.getD i []).length = es := fun i hi => by rw [(hc i hi).1]; exact (h6 _ (getD_mem _ _ _ hi)).1
    have gd : ∀ i (hi : i < els2.length), els2.getD i [] = els2[i] := fun i hi => by rw [List.getD_eq_getElem?_getD, List.getElem?_eq_getElem hi]; rfl
    refine ⟨arr, E, h1, h2', h3, by rw [hl]; exact h4, h5, fun c hcm => ?_, fun i j hi hj => ?_⟩
    · obtain ⟨i, hi, rfl⟩ := List.getElem_of_mem hcm
      have hi2 : i < els.length := by omega
      refine ⟨by rw [← gd i hi]; exact row i hi2, fun _ y hy => ?_⟩
      obtain ⟨j, hj, rfl⟩ := List.getElem_of_mem hy
      have := ((hc i hi2).2 j (by rw [← (hc i hi2).1, gd i hi]; exact hj)).1
      rw [gd i hi] at this
      rwa [List.getD_eq_getElem?_getD, List.getElem?_eq_getElem hj] at this
    · have hi2 : i < els.length := by omega
      have hj2 : j < (els.getD i []).length := by rw [(h6 _ (getD_mem els i [] hi2)).1]; exact hj
      exact ((hc i hi2).2 j hj2).2 arr E h1 _
  · rw [setH_ne _ _ _ hxb]
    by_cases hlx : Live h x
    · exact BR.mono e rfl rfl rfl (s.sh.blk x)
    · have : h x = .hole := Classical.byContradiction hlx
      rw [this]; trivial
theorem wk_sound {r : Option Nat} {β : Bs} (hβ : BOk β r) {lp lp2 : List Lp} {ts2 : List A} {hp2 : List Blk} (hk : Wk β.nb β.lp.length ts hp lp ts2 hp2 lp2) :
    ∀ (Γ : Gam) (g : Gh) (w : World) (act : Act), Fr B0 w0 r β Γ g w hp lp ts act → ∃ g2, Fr B0 w0 r β Γ g2 w hp2 lp2 ts2 act := by
  induction hk with
  | refl ts hp lp => exact fun Γ g w act f => ⟨g, f⟩
  | gc q h =>
    obtain ⟨_, _, _, ⟨rfl, rfl, rfl⟩, h2⟩ := gc_sound (B0 := B0) (w0 := w0) hβ h
    exact h2
  | mask tm =>
    intro Γ g w act f
    refine ⟨g, ⟨f.sw, f.ev, ⟨by rw [maskT_length]; exact f.ts.1, fun i => ?_⟩, f.ld, f.ao, f.gam, f.dm⟩⟩
    rcases maskT_get _ tm i with h | h
    · rw [h]; exact .un _
    · rw [h]; exact f.ts.2 i
  | cv b d bs hb hc hbs hfz hb1 =>
    intro Γ g w act f
    obtain ⟨hp', h1, hlen, _, h3⟩ := freezeK_sound (B0 := B0) (w0 := w0) hfz
    subst h1
    obtain ⟨g', e1, s1, m1, i1, j1⟩ := h3 g w f.sw
    have hlt := lt_of_getD (show _ ≠ Blk.hole by rw [hb1]; exact Blk.noConfusion)
    obtain ⟨e2, s2⟩ := s1.cv (h := hf hp') (b := b) hb1 hc.len (fun i hi => ⟨(hc.row i hi).1, fun j hj => by
      have hok := rowsF_sound (fun a k h => convD_sound (B0 := B0) (w0 := w0) h) hc i hi j hj
      refine ⟨hok.1, fun arr E ha h2 => ?_⟩
      obtain ⟨arr0, E0, q1, _, _, _, _, q6, q7⟩ := rw_facts f.sw (show hf _ b = _ from hb)
      rw [m1, q1] at ha
      cases ha
      exact hok.2 g w _ _ f.sw (fun _ _ _ => rfl) (q7 i j hi (by rw [← (q6 _ (getD_mem _ i [] hi)).1]; exact hj)) g' h2 (fun x hx => (e1.imm x hx).1) (fun x hx _ => i1 x (hbs x hx))⟩)
    rw [setH_hf hp' b _ hlt] at e2 s2
    exact ⟨g', f.move (Mv.eb f.ld (e1.trans e2) s2)⟩
  | trans _ _ ih1 ih2 =>
    intro Γ g w act f
    obtain ⟨g1, f1⟩ := ih1 Γ g w act f
    exact ih2 Γ g1 w act f1

end Go.YtoeophdffhmpmaaE
end

section
set_option linter.unusedVariables false
set_option linter.unusedSimpArgs false
namespace Go.YtoeophdffhmpmaaE
open Go Go.RowKit

variable {P : Program} {B0 : Nat} {w0 : Wz} {c : Hp} {p : Nat} {o : Oper} {ts : List A} {hp : List Blk}

def resF (tmps : Array Value) : ResultVar → Sem Value
  | .tmp t => pure (tmps.getD t undef)
  | .cell a t => do loadVar t (← asAddr (tmps.getD a undef))
theorem results_eq (fn : Func) (tmps : Array Value) : results fn tmps = (do let vs ← fn.results.mapM (resF tmps); pure (if h : vs.size = 1 then vs[0] else .tuple vs)) := by
  unfold results
  congr 1
theorem resVals_sound {rs : List ResultVar} {k : List A → Prop} (hk : resVals P hp ts rs k) :
    ∃ as, k as ∧ as.length = rs.length ∧ ∀ (g : Gh) (w : World) (tmps : Array Value), SW B0 w0 g w (hf hp) → TS g w (hf hp) ts tmps →
      ∃ vs : List Value, (rs.mapM (resF tmps)).run P w = .ok vs w ∧ vs.length = rs.length ∧
        ∀ i, i < as.length → VR g w (hf hp) (as.getD i .un) (vs.getD i undef) := by
  induction rs generalizing k with
  | nil => exact ⟨[], hk, rfl, fun g w tmps _ _ => ⟨[], by simp, rfl, fun i hi => by simp at hi⟩⟩
  | cons r rs ih =>
    cases r with
    | tmp t =>
      change force (ts.getD t .un) (fun a => resVals P hp ts rs fun as => k (a :: as)) at hk
      rw [force_eq] at hk
      obtain ⟨as, h1, h2, h3⟩ := ih hk
      refine ⟨_, h1, by simp [h2], fun g w tmps hs ht => ?_⟩
      obtain ⟨vs, q1, q2, q3⟩ := h3 g w tmps hs ht
      refine ⟨tmps.getD t undef :: vs, by rw [List.mapM_cons, Sem.run_bind, show resF tmps (.tmp t) = pure (tmps.getD t undef) from rfl, Sem.run_pure, Result.andThen_ok, Sem.run_bind, q1, Result.andThen_ok, Sem.run_pure], by simp [q2], fun i hi => ?_⟩
      cases i with
      | zero => exact ht.2 t
      | succ i => exact q3 i (by simpa using hi)
    | cell c t =>
      change tyK P t (fun d size => match ts.getD c .un with
        | .pt b _ _ 0 fo => match hp.getD b .hole with
          | .bx _ cells => loadB (isAggD d) size cells fo fun a => resVals P hp ts rs fun as => k (a :: as)
          | _ => False
        | _ => False) at hk
      obtain ⟨d, i, hu, hi, h1⟩ := tyK_elim hk
      cases hc : ts.getD c .un <;> rw [hc] at h1 <;> try exact h1.elim
      rename_i b ver es ii fo
      cases ii <;> try exact h1.elim
      change (match hp.getD b .hole with | .bx _ cells => loadB (isAggD d) i.size cells fo fun a => resVals P hp ts rs fun as => k (a :: as) | _ => False) at h1
      cases hb : hp.getD b .hole <;> rw [hb] at h1 <;> try exact h1.elim
      rename_i fz cells
      obtain ⟨a, h2, h3⟩ := loadB_sound hu hi h1
      obtain ⟨as, h4, h5, h6⟩ := ih h2
      refine ⟨_, h4, by simp [h5], fun g w tmps hs ht => ?_⟩
      obtain ⟨vs, q1, q2, q3⟩ := h6 g w tmps hs ht
      have hr := ht.2 c
      rw [hc] at hr
      have hh : hf hp b = .bx fz cells := hb
      obtain ⟨_, hlive, hvr, hes, hxx⟩ := hr.pt_inv
      rw [hh] at hvr hes hxx
      have hv0 : ver = 0 := by simpa [Blk.ver] using hvr
      have hx1 := hxx hv0
      simp only [Nat.zero_mul] at hx1
      have hbr := hs.sh.blk b
      rw [hh] at hbr
      obtain ⟨arr, E, r1, r2, r3⟩ := hbr
      obtain ⟨v, l1, l2⟩ := h3 g w (hf hp) (g.m b) 0 (fun j => arr.getD j undef) (fun j hj => by
        have : j < arr.size := by omega
        simp [World.cell?, r1, Array.getD, this]) r3
      refine ⟨v :: vs, by rw [List.mapM_cons, Sem.run_bind, show resF tmps (.cell c t) = (do loadVar t (← asAddr (tmps.getD c undef))) from rfl, Sem.run_bind, hx1, show asAddr (.pointer (some ⟨g.m b, 0 + fo, none⟩)) = pure ⟨g.m b, 0 + fo, none⟩ from rfl, Sem.run_pure, Result.andThen_ok, l1, Result.andThen_ok, Sem.run_bind, q1, Result.andThen_ok, Sem.run_pure], by simp [q2], fun i hi => ?_⟩
      cases i with
      | zero => exact l2
      | succ i => exact q3 i (by simpa using hi)
theorem resK_sound {fn : Func} {k : A → Prop} (hk : resK P fn ts hp k) :
    ∃ a, k a ∧ ∀ (g : Gh) (w : World) (tmps : Array Value), SW B0 w0 g w (hf hp) → TS g w (hf hp) ts tmps → ∃ v, (results fn tmps).run P w = .ok v w ∧ VR g w (hf hp) a v := by
  obtain ⟨as, h1, h2, h3⟩ := resVals_sound (B0 := B0) (w0 := w0) (show resVals P hp ts fn.results.toList _ from hk)
  have hrun : ∀ (g : Gh) (w : World) (tmps : Array Value), SW B0 w0 g w (hf hp) → TS g w (hf hp) ts tmps → ∃ vs : Array Value, vs.size = as.length ∧ (∀ i, i < as.length → VR g w (hf hp) (as.getD i .un) (vs.getD i undef)) ∧
      (results fn tmps).run P w = .ok (if h : vs.size = 1 then vs[0] else .tuple vs) w := fun g w tmps hs ht => by
    obtain ⟨vs, q1, q2, q3⟩ := h3 g w tmps hs ht
    refine ⟨vs.toArray, by simp [h2, q2], fun i hi => ?_, ?_⟩
    · have := q3 i hi
      have e : vs.toArray.getD i undef = vs.getD i undef := by rw [← toList_getD]
      rw [e]; exact this
    · rw [results_eq, Array.mapM_eq_mapM_toList, Sem.run_bind]
      simp only [Sem.run_map, q1, Result.andThen_ok, Sem.run_pure]
  cases as with
  | nil =>
    refine ⟨.tup [], h1, fun g w tmps hs ht => ?_⟩
    obtain ⟨vs, e1, e2, e3⟩ := hrun g w tmps hs ht
    rw [dif_neg (by rw [e1]; simp)] at e3
    exact ⟨_, e3, .tup [] vs e1.symm e2⟩
  | cons a as => cases as with
    | nil =>
      refine ⟨a, h1, fun g w tmps hs ht => ?_⟩
      obtain ⟨vs, e1, e2, e3⟩ := hrun g w tmps hs ht
      rw [dif_pos (show vs.size = 1 from e1)] at e3
      refine ⟨_, e3, ?_⟩
      have := e2 0 (by simp)
      have e : vs.getD 0 undef = vs[0]'(by rw [e1]; simp) := by simp [Array.getD, e1]
      rw [e] at this
      exact this
    | cons b as =>
      refine ⟨.tup (a :: b :: as), h1, fun g w tmps hs ht => ?_⟩
      obtain ⟨vs, e1, e2, e3⟩ := hrun g w tmps hs ht
      rw [dif_neg (by rw [e1]; simp)] at e3
      exact ⟨_, e3, .tup _ vs e1.symm e2⟩

theorem paramsK_eq (ps : List Nat) (vs ts : List A) (k : List A → Prop) : paramsK ps vs ts k = k ((ps.zip vs).foldl (fun t (q : Nat × A) => t.set q.1 q.2) ts) := by
  induction ps generalizing vs ts with
  | nil => rfl
  | cons p ps ih => cases vs with
    | nil => rfl
    | cons v vs => show setK ts p v (fun ts => paramsK ps vs ts k) = _; rw [setK_eq]; exact ih vs (ts.set p v)
theorem TS.params {g : Gh} {w : World} {h : Hp} (ps : List Nat) : ∀ (as ts : List A) (vs : List Value) (tmps : Array Value), TS g w h ts tmps → as.length = vs.length → (∀ i, i < as.length → VR g w h (as.getD i .un) (vs.getD i undef)) →
    TS g w h ((ps.zip as).foldl (fun t (q : Nat × A) => t.set q.1 q.2) ts) ((ps.zip vs).foldl (fun t (q : Nat × Value) => t.setIfInBounds q.1 q.2) tmps) := by
  induction ps with
  | nil => exact fun as ts vs tmps t _ _ => t
  | cons p ps ih =>
    intro as ts vs tmps t hl hv
    cases as with
    | nil => cases vs with
      | nil => exact t
      | cons v vs => simp at hl
    | cons a as => cases vs with
      | nil => simp at hl
      | cons v vs =>
        exact ih as (ts.set p a) vs (tmps.setIfInBounds p v) (t.put (hv 0 (by simp)) p) (by simpa using hl) (fun i hi => hv (i + 1) (by simpa using hi))
theorem foldl_zip (ps : Array Nat) (args tmps : Array Value) : (ps.zip args).foldl (fun t (q : Nat × Value) => t.setIfInBounds q.1 q.2) tmps = (ps.toList.zip args.toList).foldl (fun t (q : Nat × Value) => t.setIfInBounds q.1 q.2) tmps := by
  rw [← Array.foldl_toList, Array.toList_zip]
/-- A new frame's temporaries. -/
theorem TS.frame {g : Gh} {w : World} {h : Hp} {as : List A} {args : Array Value} (hl : as.length = args.size) (hv : ∀ i, i < as.length → VR g w h (as.getD i .un) (args.getD i undef)) (n : Nat) :
    TS g w h (as ++ List.replicate (n - as.length) .un) (args ++ Array.replicate (n - args.size) undef) := by
  refine ⟨by simp [hl], fun t => ?_⟩
  by_cases ht : t < as.length
  · have := hv t ht
    rw [List.getD_eq_getElem?_getD, List.getElem?_append_left ht, ← List.getD_eq_getElem?_getD]
    have e : (args ++ Array.replicate (n - args.size) undef).getD t undef = args.getD t undef := by
      have h2 : t < args.size := by omega
      rw [Array.getD_eq_getD_getElem?, Array.getElem?_append_left h2, ← Array.getD_eq_getD_getElem?]
    rw [e]; exact this
  · have e : (as ++ List.replicate (n - as.length) A.un).getD t .un = .un := by
      rw [List.getD_eq_getElem?_getD, List.getElem?_append_right (by omega), List.getElem?_replicate]
      split <;> rfl
    rw [e]; exact .un _
theorem frameK_eq (fn : Func) (as : List A) (k : List A → Prop) : frameK fn as k = k (as ++ List.replicate (fn.ntmps - as.length) .un) := by
  unfold frameK; rw [snocK_eq]

/-! ### Records that turn -/
theorem nodup_inj {l : List Nat} (h : l.Nodup) {i j a : Nat} (hi : l[i]? = some a) (hj : l[j]? = some a) : i = j := by
  obtain ⟨q1, q2⟩ := List.getElem?_eq_some_iff.1 hi
  obtain ⟨q3, q4⟩ := List.getElem?_eq_some_iff.1 hj
  have hp := List.pairwise_iff_getElem.1 h
  rcases Nat.lt_trichotomy i j with hlt | he | hgt
  · exact absurd (q2.trans q4.symm) (hp i j q1 q3 hlt)
  · exact he
  · exact absurd (q4.trans q2.symm) (hp j i q3 q1 hgt)
section
variable {g : Gh} {w : World} {h : Hp} {Γ : Gam} {lp : List Lp}
theorem put_csame {l : Nat} {o1 o2 : Obj} (h1 : w.heap[l]? = some o1) (hc : o1.isCells = false) (x : Nat) : CSame w (w.putObj l o2) x := by
  intro arr E z hx
  have hne : x ≠ l := fun e => by subst e; rw [h1] at hx; cases hx; cases hc
  rw [World.putObj_heap_other hne]; exact hx
/-- What is no cells may turn, from B0 on. -/
theorem SW.put (s : SW B0 w0 g w h) {l : Nat} {o1 o2 : Obj} (h1 : w.heap[l]? = some o1) (hc : o1.isCells = false) (hl : B0 ≤ l) : Ev g w h g (w.putObj l o2) h ∧ SW B0 w0 g (w.putObj l o2) h := by
  have e : Ev g w h g (w.putObj l o2) h := ⟨fun b hb => ⟨hb, Nat.le_refl _, rfl, fun _ => ⟨rfl, rfl⟩⟩, fun x hx => ⟨hx, put_csame h1 hc x⟩, fun _ _ h => h, by simp⟩
  refine ⟨e, ⟨⟨s.sh.inj, s.sh.lo, fun x hx => by simpa using s.sh.imm x hx, s.sh.sep, s.sh.fro, fun b => ?_⟩, s.be.trans ⟨rfl, rfl, rfl, by simp, fun k hk => World.putObj_heap_other (by omega)⟩, by simpa using s.b0, s.ib⟩⟩
  by_cases hlb : Live h b
  · refine BR.mono e rfl rfl (World.putObj_heap_other (fun e => ?_)) (s.sh.blk b)
    have := s.sh.blk b
    unfold Live at hlb
    generalize h b = k at this hlb
    cases k with
    | hole => exact hlb rfl
    | bx f cells => obtain ⟨arr, E, r1, _⟩ := this; rw [e, h1] at r1; cases r1; cases hc
    | rw f nx v es els => obtain ⟨arr, E, r1, _⟩ := this; rw [e, h1] at r1; cases r1; cases hc
  · have : h b = .hole := Classical.byContradiction hlb
    rw [this]; trivial
theorem EW.put {l : Nat} {o2 : Obj} (e : Ev g w h g (w.putObj l o2) h) (hl : l ∈ g.ls) : EW g w h g (w.putObj l o2) h :=
  ⟨e, fun x hx => .inl hx, fun x o hx hc hn => by rw [World.putObj_heap_other (fun (ee : x = l) => hn (by rw [ee]; exact hl))]; exact hx⟩
theorem LD.put (ld : LD B0 Γ lp g w) {i l : Nat} (hi : g.ls[i]? = some l) {r1 r2 : Loop} (h1 : w.heap[l]? = some (.loop r1)) {s : Lp} (hs : LSt (Γ i) s (some (.loop r2))) : LD B0 Γ (lp.set i s) g (w.putObj l (.loop r2)) := by
  have hlt : l < w.heap.size := (Array.getElem?_eq_some_iff.1 h1).1
  have hil : i < g.ls.length := (List.getElem?_eq_some_iff.1 hi).1
  refine ⟨ld.lo, by simpa using ld.len, ld.nd, fun j l' s' hj hs' => ?_⟩
  by_cases hji : j = i
  · subst hji
    rw [hi] at hj
    cases hj
    rw [List.getElem?_set_self (by rw [← ld.len]; exact hil)] at hs'
    cases hs'
    rw [World.putObj_heap_same hlt]; exact hs
  · have hne : l' ≠ l := fun e => by
      subst e
      exact hji (nodup_inj ld.nd hj hi)
    rw [List.getElem?_set_ne (fun e => hji e.symm)] at hs'
    rw [World.putObj_heap_other hne]
    exact ld.st j l' s' hj hs'
end
end Go.YtoeophdffhmpmaaE
end

section
set_option linter.unusedVariables false
set_option linter.unusedSimpArgs false
namespace Go.YtoeophdffhmpmaaE
open Go Go.RowKit

variable {P : Program} {B0 : Nat} {w0 : Wz} {c : Hp} {p : Nat} {o : Oper} {ts : List A} {hp : List Blk}

def Post (B0 : Nat) (w0 : Wz) (r : Option Nat) (β : Bs) (k : K) : Exit → Act → World → Prop := fun e act w =>
  ∃ x ts hp lp Γ g, e = exE x ∧ k x ts hp lp ∧ Fr B0 w0 r β Γ g w hp lp ts act
def RunOk (P : Program) (B0 : Nat) (w0 : Wz) (rec : RunT) : Prop :=
  ∀ (r : Option Nat) (β : Bs) (N : Nat) (c : Code) (ts : List A) (hp : List Blk) (lp : List Lp) (k : K) (Γ : Gam) (g : Gh) (w : World) (act : Act),
    BOk β r → rec β.nb β.lp.length c ts hp lp k → Fr B0 w0 r β Γ g w hp lp ts act → c.wpIn (FW r) N P (Post B0 w0 r β k) act w

/-- A frame's base: where it begins. -/
def Bs.here (g : Gh) (w : World) (hp : List Blk) (lp : List Lp) (Γ : Gam) : Bs := ⟨g, w, hf hp, lp, Γ, hp.length⟩
theorem Fit.mono {q : Rd × Loop} {g g' : Gh} {w w' : World} {h h' : Hp} (f : Fit q g w h) (e : Ev g w h g' w' h') : Fit q g' w' h' := ⟨f.1, f.2.1, f.2.2.1, f.2.2.2.mono e⟩
theorem BOk.here {r r' : Option Nat} {β : Bs} (hβ : BOk β r) {Γ : Gam} {g : Gh} {w : World} {lp : List Lp} {act : Act} (f : Fr B0 w0 r β Γ g w hp lp ts act) (hr : ∀ l, r' = some l → l ∈ g.ls) : BOk (Bs.here g w hp lp Γ) r' := by
  refine ⟨fun i rd h => ?_, fun b hb => live_lt hb, f.ld.len, fun l hl => ?_, hr⟩
  · have h1 := f.ao.2 i rd h
    have h2 : i < β.lp.length := by
      rcases h1 with h | h <;> exact (List.getElem?_eq_some_iff.1 h).1
    show Fit (Γ i) g w (hf hp)
    rw [f.gam i h2]
    exact (hβ.fit i rd h1).mono f.ev.toEv
  · obtain ⟨r, hr⟩ := f.ld.loop hl
    exact (Array.getElem?_eq_some_iff.1 hr).1
/-- A new frame begins. -/
theorem Fr.begin {r' : Option Nat} {Γ : Gam} {g : Gh} {w : World} {lp : List Lp} {act2 : Act} (s : SW B0 w0 g w (hf hp)) (ld : LD B0 Γ lp g w) {ts2 : List A} (ht : TS g w (hf hp) ts2 act2.tmps) (hd : r' = none → act2.defers = []) :
    Fr B0 w0 r' (Bs.here g w hp lp Γ) Γ g w hp lp ts2 act2 :=
  ⟨s, EW.refl _ _ _, ht, ld, AO.refl _, fun _ _ => rfl, fun h => ⟨[], hd h, List.nodup_nil, by simp⟩⟩
/-- From where a frame began to where it is: told to the one around it. -/
theorem Fr.mv {r' : Option Nat} {Γ Γ' : Gam} {g g' : Gh} {w w' : World} {hp' : List Blk} {lp lp' : List Lp} {ts2 : List A} {act2 : Act} (f : Fr B0 w0 r' (Bs.here g w hp lp Γ) Γ' g' w' hp' lp' ts2 act2) : Mv B0 w0 g w hp lp Γ g' w' hp' lp' Γ' :=
  ⟨f.ev, f.sw, f.ld, f.ao, f.gam⟩

/-- A function that holds loops over functions leaves: its marks are taken, one by one. -/
theorem leaves {fn : Func} {k : A → Prop} (hk : resK P fn ts hp k) {βg : Gh} {βw : World} {βh : Hp} {Γ : Gam} {lp : List Lp} {g : Gh} {tmps : Array Value} {N : Nat} {R : Ending → World → Prop} (hB : B0 ≤ βw.heap.size)
    (hR : ∀ a w v, k a → EW βg βw βh g w (hf hp) → SW B0 w0 g w (hf hp) → LD B0 Γ lp g w → VR g w (hf hp) a v → R (.returned v) w) :
    ∀ (Ds : List Nat) (w : World), Ds.Nodup → (∀ D ∈ Ds, βw.heap.size ≤ D ∧ w.heap[D]? = some (.deferred (some []))) → EW βg βw βh g w (hf hp) → SW B0 w0 g w (hf hp) → LD B0 Γ lp g w → TS g w (hf hp) ts tmps →
      LeavesInM (FW none) N P fn tmps R (Ds.map markOf) .returning w := by
  intro Ds
  induction Ds with
  | nil =>
    intro w _ _ e s ld t
    obtain ⟨a, h1, h2⟩ := resK_sound (B0 := B0) (w0 := w0) hk
    obtain ⟨v, h3, h4⟩ := h2 g w tmps s t
    exact ⟨v, h3, hR a w v h1 e s ld h4⟩
  | cons D Ds ih =>
    intro w hnd hD e s ld t
    obtain ⟨h1, h2⟩ := hD D (by simp)
    refine ⟨by simp, .inl ⟨D, _, rfl, run_takeDeferred h2, ?_⟩⟩
    obtain ⟨e1, s1⟩ := s.put (o2 := .deferred none) h2 rfl (Nat.le_trans hB h1)
    have hnl : D ∉ g.ls := fun hm => by
      obtain ⟨r, hr⟩ := ld.loop hm
      rw [h2] at hr; cases hr
    simp only [List.nodup_cons] at hnd
    refine ih _ hnd.2 (fun D' hD' => ⟨(hD D' (List.mem_cons_of_mem _ hD')).1, ?_⟩) ?_ s1 ?_ (t.mono e1)
    · rw [World.putObj_heap_other (fun e => hnd.1 (by rw [← e]; exact hD'))]; exact (hD D' (List.mem_cons_of_mem _ hD')).2
    · refine ⟨e.toEv.trans e1, e.lsn, fun x o hx hc hn => ?_⟩
      have hxl := (Array.getElem?_eq_some_iff.1 hx).1
      rw [World.putObj_heap_other (by omega)]; exact e.oth x o hx hc hn
    · refine ⟨ld.lo, ld.len, ld.nd, fun i l s' hi hs' => ?_⟩
      rw [World.putObj_heap_other (fun (ee : l = D) => hnl (by rw [← ee]; exact List.mem_of_getElem? hi))]
      exact ld.st i l s' hi hs'

theorem callsIn_any {r r' : Option Nat} {n : Nat} {f : FuncId} {args : Array Value} {w : World} {R : Ending → World → Prop} (h : CallsIn (FW r) n P f args w R) : CallsIn (FW r') n P f args w R := h

/-- A FUNCTION, WALKED IN PLACE. -/
theorem call_inline (pf : PF P) {rec : RunT} (hrec : RunOk P B0 w0 rec) {Γ : Gam} {g : Gh} {w : World} {lp : List Lp} (hs : SW B0 w0 g w (hf hp)) (ld : LD B0 Γ lp g w) (hβ : BOk (Bs.here g w hp lp Γ) none) {f : Nat} {fn : Func} {cd : Code} (hf : P.funcs[f]? = some fn) (hb : fn.body = some cd)
    {as : List A} {args : Array Value} (hl : as.length = args.size) (hv : ∀ i, i < as.length → VR g w (Go.YtoeophdffhmpmaaE.hf hp) (as.getD i .un) (args.getD i undef)) {kk : K3}
    (hk : rec hp.length lp.length cd (as ++ List.replicate (fn.ntmps - as.length) .un) hp lp fun e ts hp lp => match e with | .exit _ => False | _ => resK P fn ts hp fun a => kk a hp lp) (r' : Option Nat) (N : Nat) :
    CallsIn (FW r') N P f args w fun e w' => ∃ v a hp' lp' Γ' g', e = .returned v ∧ kk a hp' lp' ∧ Mv B0 w0 g w hp lp Γ g' w' hp' lp' Γ' ∧ VR g' w' (Go.YtoeophdffhmpmaaE.hf hp') a v := by
  refine callsIn_any (r := none) ?_
  refine callsIn_of_wp_marks hf hb trivial ?_ rfl
  have h1 := hrec none (Bs.here g w hp lp Γ) N cd _ hp lp _ Γ g w { tmps := args ++ Array.replicate (fn.ntmps - args.size) undef, defers := [] } hβ hk (Fr.begin hs ld (TS.frame hl hv fn.ntmps) (fun _ => rfl))
  refine wpIn_mono h1 ?_
  rintro e act' w' ⟨x, ts', hp', lp', Γ', g', rfl, hk', fr⟩
  have fin : resK P fn ts' hp' (fun a => kk a hp' lp') → LeavesInM (FW none) N P fn act'.tmps (fun e w' => ∃ v a hp' lp' Γ' g', e = .returned v ∧ kk a hp' lp' ∧ Mv B0 w0 g w hp lp Γ g' w' hp' lp' Γ' ∧ VR g' w' (Go.YtoeophdffhmpmaaE.hf hp') a v) act'.defers .returning w' := fun hres => by
    obtain ⟨Ds, hDs, hnd, hD⟩ := fr.dm rfl
    rw [hDs]
    exact leaves hres hs.b0 (fun a w' v hka e s ld hvr => ⟨v, a, hp', lp', Γ', g', rfl, hka, ⟨e, s, ld, fr.ao, fr.gam⟩, hvr⟩) Ds w' hnd hD fr.ev fr.sw fr.ld fr.ts
  cases x with
  | normal => exact fin hk'
  | ret => exact fin hk'
  | exit i => exact hk'.elim

theorem Mv.put {g : Gh} {w : World} {Γ : Gam} {lp : List Lp} (s : SW B0 w0 g w (hf hp)) (ld : LD B0 Γ lp g w) {i l : Nat} (hi : g.ls[i]? = some l) {r1 r2 : Loop} (h1 : w.heap[l]? = some (.loop r1)) {s' : Lp} (hs : LSt (Γ i) s' (some (.loop r2)))
    (ha : ∀ rd, s' = .ready rd ∨ s' = .busy rd → Act1 lp i rd) : Mv B0 w0 g w hp lp Γ g (w.putObj l (.loop r2)) hp (lp.set i s') Γ := by
  have hm := List.mem_of_getElem? hi
  obtain ⟨e, s1⟩ := s.put (o2 := .loop r2) h1 rfl (ld.lo l hm)
  refine ⟨EW.put e hm, s1, ld.put hi h1 hs, ⟨by simp, fun j rd h => ?_⟩, fun _ _ => rfl⟩
  by_cases hj : j = i
  · subst hj
    have hlt : j < lp.length := by rw [← ld.len]; exact (List.getElem?_eq_some_iff.1 hi).1
    unfold Act1 at h
    rw [List.getElem?_set_self hlt] at h
    exact ha rd (h.imp (fun h => by injection h) (fun h => by injection h))
  · unfold Act1 at h ⊢
    rwa [List.getElem?_set_ne (fun e => hj e.symm)] at h

/-- A ROUND, WALKED IN PLACE. -/
theorem round_inline {rec : RunT} (hrec : RunOk P B0 w0 rec) {Γ : Gam} {g : Gh} {w : World} {lp : List Lp} (hs : SW B0 w0 g w (hf hp)) (ld : LD B0 Γ lp g w) (hβ : BOk (Bs.here g w hp lp Γ) none)
    {i l : Nat} {rd : Rd} (hi : g.ls[i]? = some l) (hlp : lp[i]? = some (.ready rd)) {as : List A} {args : Array Value} (hl : as.length = args.size) (hv : ∀ i, i < as.length → VR g w (hf hp) (as.getD i .un) (args.getD i undef)) {kk : K3}
    (hlen : as.length = rd.params.length)
    (hk : rec hp.length lp.length rd.assign ((rd.params.zip as).foldl (fun t (q : Nat × A) => t.set q.1 q.2) rd.ts) hp lp fun e ts hp lp =>
        match e with
        | .normal => optK lp[i]? fun st => match st with
          | .ready rd => setK lp i (.busy rd) fun lp => lenK hp 0 fun nb => lenK lp 0 fun nl => rec nb nl rd.body ts hp lp fun e _ hp lp =>
            match e with
            | .normal => optK lp[i]? fun st => match st with
              | .busy rd => setK lp i (.ready rd) fun lp => kk (.v (.bool true)) hp lp
              | _ => False
            | e => optK lp[i]? fun st => match st with
              | .busy rd => setK lp i (.done e) fun lp => kk (.v (.bool false)) hp lp
              | _ => False
          | _ => False
        | _ => False) (r' : Option Nat) (N : Nat) :
    ∃ fn tmps assign body, (Instr.yield l args).run P w = .ok (.round l fn tmps assign body) w ∧
      RoundIn (FW r') N P l fn tmps assign body w fun e w' => ∃ v a hp' lp' Γ' g', e = .returned v ∧ kk a hp' lp' ∧ Mv B0 w0 g w hp lp Γ g' w' hp' lp' Γ' ∧ VR g' w' (hf hp') a v := by
  have h0 := ld.st i l _ hi hlp
  obtain ⟨hrd, hob⟩ := h0
  obtain ⟨f1, f2, f3, f4⟩ := hβ.fit i rd (.inl hlp)
  change (Γ i).2.params.toList = (Γ i).1.params at f1
  change (Γ i).2.assign = (Γ i).1.assign at f2
  change (Γ i).2.body = (Γ i).1.body at f3
  change TS g w (hf hp) (Γ i).1.ts (Γ i).2.tmps at f4
  have hmem := List.mem_of_getElem? hi
  refine ⟨_, _, _, _, run_yield hob (by rw [← hl, hlen, hrd, ← f1]; simp), ?_⟩
  refine roundIn_of_wpIn trivial ?_
  dsimp only
  rw [f2, ← hrd]
  have hβ2 : BOk (Bs.here g w hp lp Γ) (some l) := ⟨hβ.fit, hβ.live, hβ.len, hβ.lt, fun l' h => by cases h; exact hmem⟩
  have hts : TS g w (hf hp) ((rd.params.zip as).foldl (fun t (q : Nat × A) => t.set q.1 q.2) rd.ts) (((Γ i).2.params.zip args).foldl (fun t (q : Nat × Value) => t.setIfInBounds q.1 q.2) (Γ i).2.tmps) := by
    rw [foldl_zip, f1, ← hrd]
    rw [← hrd] at f4
    exact TS.params rd.params as rd.ts args.toList _ f4 (by simpa using hl) (fun j hj => by rw [toList_getD]; exact hv j hj)
  have h1 := hrec (some l) (Bs.here g w hp lp Γ) N rd.assign _ hp lp _ Γ g w { tmps := ((Γ i).2.params.zip args).foldl (fun t (q : Nat × Value) => t.setIfInBounds q.1 q.2) (Γ i).2.tmps, defers := [] } hβ2 hk (Fr.begin hs ld hts (fun h => by cases h))
  refine wpIn_mono h1 ?_
  rintro e act1 w1 ⟨x, ts1, hp1, lp1, Γ1, g1, rfl, hk1, fr1⟩
  cases x <;> try exact hk1.elim
  obtain ⟨st1, hst1, hk2⟩ := optK_elim hk1
  cases st1 <;> try exact hk2.elim
  rename_i rd1
  simp only [setK_eq, lenK_eq, Nat.zero_add] at hk2
  have hi1 : g1.ls[i]? = some l := fr1.ev.ls i l hi
  have hil : i < lp.length := (List.getElem?_eq_some_iff.1 hlp).1
  obtain ⟨hrd1, hob1⟩ := fr1.ld.st i l _ hi1 hst1
  have hG1 : Γ1 i = Γ i := fr1.gam i hil
  have m1 := fr1.mv
  have mp1 := Mv.put (s' := .busy rd1) fr1.sw fr1.ld hi1 hob1 (r2 := { (Γ1 i).2 with state := .busy, pending := none }) ⟨hrd1, rfl⟩ (fun rd' h => by rcases h with h | h <;> cases h; exact .inl hst1)
  refine ⟨_, run_beginRound hob1 rfl, ?_⟩
  have fr1' := fr1.move mp1
  have hβ3 : BOk (Bs.here g1 (w1.putObj l (.loop { (Γ1 i).2 with state := .busy, pending := none })) hp1 (lp1.set i (.busy rd1)) Γ1) (some l) := hβ2.here fr1' (fun l' h => by cases h; exact List.mem_of_getElem? hi1)
  have hbody : (Γ i).2.body = rd1.body := by rw [f3, hrd1, hG1]
  rw [hbody]
  have h2 := hrec (some l) (Bs.here g1 (w1.putObj l (.loop { (Γ1 i).2 with state := .busy, pending := none })) hp1 (lp1.set i (.busy rd1)) Γ1) N rd1.body ts1 hp1 (lp1.set i (.busy rd1)) _ Γ1 g1 _ act1 hβ3 hk2
    (Fr.begin fr1'.sw fr1'.ld fr1'.ts (fun h => by cases h))
  refine wpIn_mono h2 ?_
  rintro e act2 w2 ⟨x, ts2, hp2, lp2, Γ2, g2, rfl, hk3, fr2⟩
  have hi2 : g2.ls[i]? = some l := fr2.ev.ls i l hi1
  have m2 := fr2.mv
  cases x with
  | normal =>
    obtain ⟨st2, hst2, hk4⟩ := optK_elim hk3
    cases st2 <;> try exact hk4.elim
    rename_i rd2
    simp only [setK_eq] at hk4
    obtain ⟨hrd2, hob2⟩ := fr2.ld.st i l _ hi2 hst2
    have mp2 := Mv.put (s' := .ready rd2) fr2.sw fr2.ld hi2 hob2 (r2 := { (Γ2 i).2 with state := .ready, pending := none }) ⟨hrd2, rfl⟩ (fun rd' h => by rcases h with h | h <;> cases h; exact .inr hst2)
    exact ⟨_, _, run_endRound none hob2, _, _, _, _, _, _, rfl, hk4, ((m1.trans mp1).trans m2).trans mp2, .v _ rfl⟩
  | ret =>
    obtain ⟨st2, hst2, hk4⟩ := optK_elim hk3
    cases st2 <;> try exact hk4.elim
    rename_i rd2
    simp only [setK_eq] at hk4
    obtain ⟨hrd2, hob2⟩ := fr2.ld.st i l _ hi2 hst2
    have mp2 := Mv.put (s' := .done .ret) fr2.sw fr2.ld hi2 hob2 (r2 := { (Γ2 i).2 with state := .done, pending := some .ret }) ⟨by simp, rfl⟩ (fun rd' h => by rcases h with h | h <;> cases h)
    exact ⟨_, _, run_endRound (some .ret) hob2, _, _, _, _, _, _, rfl, hk4, ((m1.trans mp1).trans m2).trans mp2, .v _ rfl⟩
  | exit id =>
    obtain ⟨st2, hst2, hk4⟩ := optK_elim hk3
    cases st2 <;> try exact hk4.elim
    rename_i rd2
    simp only [setK_eq] at hk4
    obtain ⟨hrd2, hob2⟩ := fr2.ld.st i l _ hi2 hst2
    have mp2 := Mv.put (s' := .done (.exit id)) fr2.sw fr2.ld hi2 hob2 (r2 := { (Γ2 i).2 with state := .done, pending := some (.exit id) }) ⟨by simp, rfl⟩ (fun rd' h => by rcases h with h | h <;> cases h)
    exact ⟨_, _, run_endRound (some (.exit id)) hob2, _, _, _, _, _, _, rfl, hk4, ((m1.trans mp1).trans m2).trans mp2, .v _ rfl⟩

end Go.YtoeophdffhmpmaaE
end

section
set_option linter.unusedVariables false
set_option linter.unusedSimpArgs false
namespace Go.YtoeophdffhmpmaaE
open Go Go.RowKit

variable {P : Program} {B0 : Nat} {w0 : Wz} {c : Hp} {p : Nat} {o : Oper} {ts : List A} {hp : List Blk}

theorem inlF_ok (pf : PF P) {rec : RunT} (hrec : RunOk P B0 w0 rec) : InlOk P B0 w0 (inlF P rec) := by
  intro r β Γ g w hp lp ts act fv as kk o cl x N next Q hβ fr hk ho hcl hfv has hnext
  have hx := ev_sound fr.ts x
  rw [← hfv] at hx
  obtain ⟨q1, q2⟩ := VRs_map (ts := ts) (g := g) (w := w) (h := hf hp) (ρ := act.eval) cl.args (fun x _ => ev_sound fr.ts x)
  rw [← has] at q1 q2
  cases fv <;> try exact hk.elim
  · rename_i f fst cap
    obtain ⟨fn, hf, hk1⟩ := optK_elim hk
    obtain ⟨cd, hb, hk2⟩ := optK_elim hk1
    rw [snocK_eq, snocK_eq, frameK_eq, lenK_eq, lenK_eq, Nat.zero_add, Nat.zero_add] at hk2
    obtain ⟨fs, vs, hfe, hl0, hv0, hl, hv⟩ : ∃ fs vs, act.eval x = .func (.func f) fs vs ∧ fst.length = fs.size ∧ (∀ i, i < fst.length → VR g w (Go.YtoeophdffhmpmaaE.hf hp) (fst.getD i .un) (fs.getD i undef)) ∧ cap.length = vs.size ∧ ∀ i, i < cap.length → VR g w (Go.YtoeophdffhmpmaaE.hf hp) (cap.getD i .un) (vs.getD i undef) := by
      generalize act.eval x = y at hx
      cases hx with
      | fn _ _ _ fs vs hl0 hl hv0 hv => exact ⟨fs, vs, rfl, hl0, hv0, hl, hv⟩
    refine ⟨fun _ _ => trivial, ?_⟩
    rw [Oper.semAt_eq _ _ _ (by simp [ho]), execOp_call ho hcl hfe (enters_pf pf hf hb)]
    obtain ⟨a1, a2⟩ := call_args (cl := cl) (ρ := act.eval) (fun x _ => ev_sound fr.ts x) hl0 hv0 hl hv
    rw [← has] at a1 a2
    refine ⟨fun h => by simp [FW] at h, (call_inline pf hrec fr.sw fr.ld (hβ.here fr (fun l h => by cases h)) hf hb a1 a2 hk2 r (N - 1)).mono ?_⟩
    rintro e w' ⟨v, a, hp', lp', Γ', g', rfl, hka, m, hvr⟩
    exact hnext a hp' lp' Γ' g' w' v hka m hvr
  · rename_i i
    obtain ⟨st, hst, hk1⟩ := optK_elim hk
    cases st <;> try exact hk1.elim
    rename_i rd
    obtain ⟨hlen, hk2⟩ := chk_elim hk1
    simp only [beq_iff_eq] at hlen
    rw [paramsK_eq, lenK_eq, lenK_eq, Nat.zero_add, Nat.zero_add] at hk2
    obtain ⟨l, hfe, hl⟩ : ∃ l, act.eval x = .func (.yield l) #[] #[] ∧ g.ls[i]? = some l := by
      generalize act.eval x = y at hx
      cases hx with
      | yl _ l hl => exact ⟨l, rfl, hl⟩
    obtain ⟨fn, tmps, assign, body, hy, hround⟩ := round_inline hrec fr.sw fr.ld (hβ.here fr (fun l h => by cases h)) hl hst q1 q2 hlen hk2 r (N - 1)
    refine ⟨fun _ _ => trivial, ?_⟩
    have hex : (execOp act.eval o).run P w = .ok (.round l fn tmps assign body) w := by
      simp [execOp, ho, resolve, hcl, hfe, Deferred.ofValue, invoke, hy]
    rw [Oper.semAt_eq _ _ _ (by simp [ho]), hex]
    refine ⟨fun h => by simp [FW] at h, hround.mono ?_⟩
    rintro e w' ⟨v, a, hp', lp', Γ', g', rfl, hka, m, hvr⟩
    exact hnext a hp' lp' Γ' g' w' v hka m hvr

/-- Regions that draw: told elsewhere. -/
def DrawsOk (P : Program) (E : EqT) (env : Env) : Prop :=
  ∀ (B0 : Nat) (w0 : Wz) (inl : Inl) (r : Option Nat) (β : Bs) (os : Array Oper) (id N : Nat) (k : List A → List Blk → List Lp → Prop) (ts : List A) (hp : List Blk) (lp : List Lp) (Γ : Gam) (g : Gh) (w : World) (act : Act) (Q : Exit → Act → World → Prop),
    InlOk P B0 w0 inl → BOk β r → drawK P E env inl os.toList ts hp lp k → Fr B0 w0 r β Γ g w hp lp ts act →
    (∀ ts hp lp Γ g w act, k ts hp lp → Fr B0 w0 r β Γ g w hp lp ts act → Q .normal act w) → (∀ c a w, ¬ Q (.panic c) a w) → (Code.region id os true).wpIn (FW r) N P Q act w

/-- A new loop is laid. -/
theorem enter_loop {r : Option Nat} {β : Bs} (hβ : BOk β r) {Γ : Gam} {g : Gh} {w : World} {lp : List Lp} {act : Act} (fr : Fr B0 w0 r β Γ g w hp lp ts act) (fn : FuncId) (ps : Array Tmp) (assign body : Code) :
    ∃ (l : Nat) (mark : List Deferred) (w1 : World) (rc : Loop), (Instr.enterLoop fn act.tmps ps assign body r).run P w = .ok (l, mark) w1 ∧ w.heap.size ≤ l ∧ w1.heap[l]? = some (.loop { rc with state := .ready, pending := none }) ∧
      rc.params = ps ∧ rc.assign = assign ∧ rc.body = body ∧ rc.tmps = act.tmps ∧ Below w.heap.size w w1 ∧ (r ≠ none → mark = []) ∧ (r = none → ∃ D, mark = [markOf D] ∧ w.heap.size ≤ D ∧ D ≠ l ∧ w1.heap[D]? = some (.deferred (some []))) := by
  cases r with
  | none =>
    refine ⟨_, _, _, { state := .ready, pending := none, fn, tmps := act.tmps, params := ps, assign, body, defers := w.heap.size }, run_enterLoop_outer fn act.tmps ps assign body, by omega, ?_, rfl, rfl, rfl, rfl, ?_, fun h => absurd rfl h, fun _ => ⟨w.heap.size, rfl, Nat.le_refl _, by omega, ?_⟩⟩
    · have := World.alloc_heap_new (w.alloc (.deferred (some []))) (.loop { state := .ready, pending := none, fn, tmps := act.tmps, params := ps, assign, body, defers := w.heap.size })
      rwa [World.size_alloc] at this
    · exact ((Below.refl _ _).alloc (Nat.le_refl _) _).alloc (by simp) _
    · exact (Below.heap_alloc _ _ _ (by simp)).trans (World.alloc_heap_new w _)
  | some l0 =>
    obtain ⟨r0, hr0⟩ := fr.ld.loop (l := l0) (by
      have := hβ.rnd l0 rfl
      obtain ⟨j, hj, he⟩ := List.getElem_of_mem this
      exact List.mem_of_getElem? (fr.ev.ls j l0 (by rw [List.getElem?_eq_getElem hj, he])))
    exact ⟨_, _, _, { state := .ready, pending := none, fn, tmps := act.tmps, params := ps, assign, body, defers := r0.defers }, run_enterLoop_inner hr0 fn act.tmps ps assign body, Nat.le_refl _, World.alloc_heap_new w _, rfl, rfl, rfl, rfl, (Below.refl _ _).alloc (Nat.le_refl _) _, fun _ => rfl, fun h => by cases h⟩

def Gh.push (g : Gh) (l : Nat) : Gh := { g with ls := g.ls ++ [l] }
theorem Ev.push {g : Gh} {w w' : World} {h : Hp} (s : SH B0 g w h) (hb : Below w.heap.size w w') (l : Nat) : Ev g w h (g.push l) w' h :=
  ⟨fun b hb => ⟨hb, Nat.le_refl _, rfl, fun _ => ⟨rfl, rfl⟩⟩, fun x hx => ⟨hx, .of (hb.block x (s.imm x hx))⟩, fun i l' h => by
    have := (List.getElem?_eq_some_iff.1 h).1
    show (g.ls ++ [l])[i]? = some l'
    rw [List.getElem?_append_left this]; exact h, hb.size⟩
theorem SW.push {g : Gh} {w w' : World} {h : Hp} (s : SW B0 w0 g w h) (hb : Below w.heap.size w w') (l : Nat) : SW B0 w0 (g.push l) w' h := by
  have s2 := s.same hb
  have e : Ev g w' h (g.push l) w' h := Ev.push s2.sh (Below.refl _ _) l
  refine ⟨⟨s2.sh.inj, s2.sh.lo, s2.sh.imm, s2.sh.sep, s2.sh.fro, fun b => ?_⟩, s2.be, s2.b0, s2.ib⟩
  exact BR.mono e rfl rfl rfl (s2.sh.blk b)

theorem range_sound (pf : PF P) {rec : RunT} (hrec : RunOk P B0 w0 rec) {r : Option Nat} {β : Bs} (hβ : BOk β r) {Γ : Gam} {g : Gh} {w : World} {lp : List Lp} {act : Act} (fr : Fr B0 w0 r β Γ g w hp lp ts act) {x : Operand} {ps : Array Tmp} {assign body : Code} {k : K} {gf : Nat} {cap : List A}
    (hx : ev ts x = .fn gf [] cap) {fn : Func} {cd : Code} (hf : P.funcs[gf]? = some fn) (hb : fn.body = some cd)
    (hk : rec hp.length (lp.length + 1) cd (.yl lp.length :: cap ++ List.replicate (fn.ntmps - (A.yl lp.length :: cap).length) .un) hp (lp ++ [.ready ⟨ps.toList, assign, body, ts⟩]) fun e ts3 hp lp3 =>
          match e with
          | .exit _ => False
          | _ => resK P fn ts3 hp fun _ => optK lp3[lp.length]? fun st => match st with
            | .ready _ => setK lp3 lp.length .over fun lp => k .normal ts hp lp
            | .done e => setK lp3 lp.length .over fun lp => k e ts hp lp
            | _ => False) (N : Nat) :
    (Code.rangeFunc x ps assign body).wpIn (FW r) N P (Post B0 w0 r β k) act w := by
  have hxx := ev_sound fr.ts x
  rw [hx] at hxx
  obtain ⟨vs, hfe, hl, hv⟩ : ∃ vs, act.eval x = .func (.func gf) #[] vs ∧ cap.length = vs.size ∧ ∀ i, i < cap.length → VR g w (Go.YtoeophdffhmpmaaE.hf hp) (cap.getD i .un) (vs.getD i undef) := by
    generalize act.eval x = y at hxx
    cases hxx with
    | fn _ _ _ fs vs hl0 hl hv0 hv =>
      have : fs = #[] := Array.eq_empty_of_size_eq_zero hl0.symm
      subst this
      exact ⟨vs, rfl, hl, hv⟩
  refine wpIn_rangeFunc fun fnid _ => ?_
  obtain ⟨l, mark, w1, rc, hen, hlge, hw1, rp, ra, rb, rt, hbel, hm1, hm2⟩ := enter_loop (P := P) hβ fr fnid ps assign body
  have s1 : SW B0 w0 (g.push l) w1 (Go.YtoeophdffhmpmaaE.hf hp) := fr.sw.push hbel l
  have e1 : Ev g w (Go.YtoeophdffhmpmaaE.hf hp) (g.push l) w1 (Go.YtoeophdffhmpmaaE.hf hp) := Ev.push fr.sw.sh hbel l
  have hlold : ∀ l' ∈ g.ls, l' < w.heap.size := fun l' h => by
    obtain ⟨r', hr'⟩ := fr.ld.loop h
    exact (Array.getElem?_eq_some_iff.1 hr').1
  have ew1 : EW g w (Go.YtoeophdffhmpmaaE.hf hp) (g.push l) w1 (Go.YtoeophdffhmpmaaE.hf hp) := ⟨e1, fun l' h => by
      rcases List.mem_append.1 (show l' ∈ g.ls ++ [l] from h) with h | h
      · exact .inl h
      · simp at h; exact .inr (by omega), fun y o hy _ _ => (hbel.block y (Array.getElem?_eq_some_iff.1 hy).1).trans hy⟩
  obtain ⟨Γ1, hΓ1⟩ : ∃ Γ1 : Gam, Γ1 = fun j => if j = lp.length then (⟨ps.toList, assign, body, ts⟩, rc) else Γ j := ⟨_, rfl⟩
  have hGi : Γ1 lp.length = (⟨ps.toList, assign, body, ts⟩, rc) := by rw [hΓ1]; simp
  have hGo : ∀ j, j ≠ lp.length → Γ1 j = Γ j := fun j hj => by rw [hΓ1]; simp [hj]
  have hgl : (g.push l).ls[lp.length]? = some l := by
    show (g.ls ++ [l])[lp.length]? = some l
    rw [← fr.ld.len]; simp
  have ld1 : LD B0 Γ1 (lp ++ [.ready ⟨ps.toList, assign, body, ts⟩]) (g.push l) w1 := by
    refine ⟨fun l' h => ?_, by show (g.ls ++ [l]).length = _; simp [fr.ld.len], ?_, fun j l' s hj hs => ?_⟩
    · rcases List.mem_append.1 (show l' ∈ g.ls ++ [l] from h) with h | h
      · exact fr.ld.lo l' h
      · simp at h; have := fr.sw.b0; omega
    · show (g.ls ++ [l]).Nodup
      rw [List.nodup_append]
      refine ⟨fr.ld.nd, by simp, fun a ha b hb => ?_⟩
      simp at hb
      have := hlold a ha
      omega
    · by_cases hjl : j = lp.length
      · subst hjl
        rw [hgl] at hj
        cases hj
        simp at hs
        subst hs
        rw [hGi]
        exact ⟨rfl, hw1⟩
      · have hj' : (g.ls ++ [l])[j]? = some l' := hj
        have hjlt : j < g.ls.length := by
          have := (List.getElem?_eq_some_iff.1 hj').1
          simp at this
          rw [fr.ld.len] at this ⊢
          omega
        rw [List.getElem?_append_left hjlt] at hj'
        rw [List.getElem?_append_left (by rw [← fr.ld.len]; exact hjlt)] at hs
        rw [hGo j hjl, hbel.block l' (hlold l' (List.mem_of_getElem? hj'))]
        exact fr.ld.st j l' s hj' hs
  have hβ1 : BOk (Bs.here (g.push l) w1 hp (lp ++ [.ready ⟨ps.toList, assign, body, ts⟩]) Γ1) none := by
    refine ⟨fun i rd h => ?_, fun b hb => live_lt hb, ld1.len, fun l' hl' => ?_, fun l h => by cases h⟩
    · show Fit (Γ1 i) (g.push l) w1 (Go.YtoeophdffhmpmaaE.hf hp)
      have hlt : i < (lp ++ [Lp.ready ⟨ps.toList, assign, body, ts⟩]).length := by
        rcases h with h | h <;> exact (List.getElem?_eq_some_iff.1 h).1
      by_cases hi : i = lp.length
      · subst hi
        rw [hGi]
        exact ⟨by rw [rp], ra, rb, by rw [rt]; exact fr.ts.mono e1⟩
      · have hil : i < lp.length := by simp at hlt; omega
        rw [hGo i hi]
        have h1 : Act1 lp i rd := by
          unfold Act1 at h ⊢
          change (lp ++ [Lp.ready ⟨ps.toList, assign, body, ts⟩])[i]? = _ ∨ (lp ++ [Lp.ready ⟨ps.toList, assign, body, ts⟩])[i]? = _ at h
          rwa [List.getElem?_append_left hil] at h
        have h2 := fr.ao.2 i rd h1
        have h3 : i < β.lp.length := by
          rcases h2 with h | h <;> exact (List.getElem?_eq_some_iff.1 h).1
        rw [fr.gam i h3]
        exact ((hβ.fit i rd h2).mono fr.ev.toEv).mono e1
    · obtain ⟨r', hr'⟩ := ld1.loop hl'
      exact (Array.getElem?_eq_some_iff.1 hr').1
  have hargs : (A.yl lp.length :: cap).length = (#[Value.func (.yield l) #[] #[]] ++ vs).size ∧ ∀ i, i < (A.yl lp.length :: cap).length → VR (g.push l) w1 (Go.YtoeophdffhmpmaaE.hf hp) ((A.yl lp.length :: cap).getD i .un) ((#[Value.func (.yield l) #[] #[]] ++ vs).getD i undef) := by
    refine ⟨by simp [hl]; omega, fun i hi => ?_⟩
    cases i with
    | zero =>
      have : (#[Value.func (.yield l) #[] #[]] ++ vs).getD 0 undef = Value.func (.yield l) #[] #[] := by rw [← toList_getD]; simp
      rw [this]
      exact .yl _ l hgl
    | succ i =>
      have : (#[Value.func (.yield l) #[] #[]] ++ vs).getD (i + 1) undef = vs.getD i undef := by rw [← toList_getD, ← toList_getD]; simp
      rw [this]
      exact (hv i (by simpa using hi)).mono e1
  refine ⟨l, mark, w1, { target := .fn (.func gf) vs, args := #[.func (.yield l) #[] #[]] }, w1, gf, #[.func (.yield l) #[] #[]] ++ vs, w1, hen, ?_, fun _ _ => trivial, ?_, fun h => by simp [FW] at h, ?_⟩
  · simp only [resolve, hfe]
    simp [go_sem]
  · have := enters_pf pf hf hb (#[.func (.yield l) #[] #[]] ++ vs) w1
    simp [invoke, go_sem, this]
  refine (call_inline pf hrec s1 ld1 hβ1 hf hb hargs.1 hargs.2 (kk := fun _ hp lp3 => optK lp3[lp.length]? fun st => match st with
            | .ready _ => setK lp3 lp.length .over fun lp => k .normal ts hp lp
            | .done e => setK lp3 lp.length .over fun lp => k e ts hp lp
            | _ => False) (by rw [List.length_append]; exact hk) r (N - 1)).mono ?_
  rintro e w3 ⟨v, a, hp3, lp3, Γ3, g3, rfl, hka, m, hvr⟩
  obtain ⟨st, hst, hka2⟩ := optK_elim hka
  have hi3 : g3.ls[lp.length]? = some l := m.ev.ls _ _ hgl
  -- behind the loop
  have fin : ∀ (r1 : Loop), w3.heap[l]? = some (.loop r1) → Fr B0 w0 r β Γ3 g3 (w3.putObj l (.loop { r1 with state := .exhausted })) hp3 (lp3.set lp.length .over) ts { act with defers := mark ++ act.defers } := by
    intro r1 hr1
    have mp := Mv.put (s' := .over) m.sw m.ld hi3 hr1 (r2 := { r1 with state := .exhausted }) ⟨_, rfl⟩ (fun rd' h => by rcases h with h | h <;> cases h)
    have evall : EW g w (Go.YtoeophdffhmpmaaE.hf hp) g3 (w3.putObj l (.loop { r1 with state := .exhausted })) (Go.YtoeophdffhmpmaaE.hf hp3) := (ew1.trans m.ev).trans mp.ev
    refine ⟨mp.sw, fr.ev.trans evall, fr.ts.mono evall.toEv, mp.ld, fr.ao.trans ⟨?_, fun j rd h => ?_⟩, fun i hi => ?_, fun hr => ?_⟩
    · have := m.ao.1; simp at this ⊢; omega
    · have hj : j ≠ lp.length := fun e => by
        subst e
        have hlt : lp.length < lp3.length := by rw [← m.ld.len]; exact (List.getElem?_eq_some_iff.1 hi3).1
        unfold Act1 at h
        rw [List.getElem?_set_self hlt] at h
        rcases h with h | h <;> cases h
      have h1 : Act1 lp3 j rd := by
        unfold Act1 at h ⊢
        rwa [List.getElem?_set_ne (fun e => hj e.symm)] at h
      have h2 := m.ao.2 j rd h1
      have hlt : j < (lp ++ [Lp.ready ⟨ps.toList, assign, body, ts⟩]).length := by
        rcases h2 with h | h <;> exact (List.getElem?_eq_some_iff.1 h).1
      unfold Act1 at h2 ⊢
      rwa [List.getElem?_append_left (by simp at hlt; omega)] at h2
    · have h1 : i < lp.length := Nat.lt_of_lt_of_le hi fr.ao.1
      rw [m.gam i (by simp; omega), hGo i (by omega)]
      exact fr.gam i hi
    · obtain ⟨D, hD1, hD2, hD3, hD4⟩ := hm2 hr
      obtain ⟨Ds, hDs, hnd, hDD⟩ := fr.dm hr
      have keep : ∀ D', D' ≠ l → w1.heap[D']? = some (.deferred (some [])) → (w3.putObj l (.loop { r1 with state := .exhausted })).heap[D']? = some (.deferred (some [])) := fun D' hne h => by
        rw [World.putObj_heap_other hne]
        refine m.ev.oth D' _ h rfl (fun hm => ?_)
        obtain ⟨r', hr'⟩ := ld1.loop hm
        rw [h] at hr'; cases hr'
      refine ⟨D :: Ds, by rw [hD1, hDs]; rfl, List.nodup_cons.2 ⟨fun hm => ?_, hnd⟩, fun D' hD' => ?_⟩
      · have := (Array.getElem?_eq_some_iff.1 (hDD D hm).2).1; omega
      · rcases List.mem_cons.1 hD' with rfl | hD'
        · exact ⟨Nat.le_trans fr.ev.size hD2, keep _ hD3 hD4⟩
        · have hlt := (Array.getElem?_eq_some_iff.1 (hDD D' hD').2).1
          exact ⟨(hDD D' hD').1, keep _ (by omega) ((hbel.block D' hlt).trans (hDD D' hD').2)⟩
  cases st <;> try exact hka2.elim
  · simp only [setK_eq] at hka2
    obtain ⟨_, hob⟩ := m.ld.st _ l _ hi3 hst
    exact ⟨none, _, run_endLoop hob (by simp), .normal, _, _, _, _, _, rfl, hka2, fin _ hob⟩
  · rename_i e
    simp only [setK_eq] at hka2
    obtain ⟨hne, hob⟩ := m.ld.st _ l _ hi3 hst
    refine ⟨some (exC e), _, run_endLoop hob (by simp), ?_⟩
    cases e with
    | normal => exact absurd rfl hne
    | ret => exact wpIn_ret ⟨.ret, _, _, _, _, _, rfl, hka2, fin _ hob⟩
    | exit i => exact wpIn_exit ⟨.exit i, _, _, _, _, _, rfl, hka2, fin _ hob⟩

end Go.YtoeophdffhmpmaaE
end

section
set_option linter.unusedVariables false
set_option linter.unusedSimpArgs false
namespace Go.YtoeophdffhmpmaaE
open Go Go.RowKit

variable {P : Program} {B0 : Nat} {w0 : Wz} {c : Hp} {p : Nat} {o : Oper} {ts : List A} {hp : List Blk}

theorem exE_inj {a b : Ex} (h : exE a = exE b) : a = b := by cases a <;> cases b <;> simp [exE] at h ⊢; exact h
theorem Post.mono {r : Option Nat} {β : Bs} {k k' : K} (h : ∀ x ts hp lp, k x ts hp lp → k' x ts hp lp) {e : Exit} {a : Act} {w : World} (p : Post B0 w0 r β k e a w) : Post B0 w0 r β k' e a w := by
  obtain ⟨x, ts, hp, lp, Γ, g, h1, h2, h3⟩ := p
  exact ⟨x, ts, hp, lp, Γ, g, h1, h _ _ _ _ h2, h3⟩

/-- A loop that is run by fuel. -/
theorem loop_sound {F : Fence} {N : Nat} {b : Code} {Q : Exit → Act → World → Prop} (S : Nat → Act → World → Prop)
    (round : ∀ n a w, S n a w → b.wpIn F N P (Exit.then (fun a' w' => ∃ m, m < n ∧ S m a' w') Q) a w) {n : Nat} {a : Act} {w : World} (h : S n a w) : (Code.loop b).wpIn F N P Q a w := by
  have least : ∀ n a w, S n a w → ∃ m, S m a w ∧ ∀ j, S j a w → m ≤ j := by
    intro n
    induction n using Nat.strongRecOn with
    | _ n ih =>
      intro a w h
      by_cases hm : ∃ m, m < n ∧ S m a w
      · obtain ⟨m, h1, h2⟩ := hm
        exact ih m h1 a w h2
      · exact ⟨n, h, fun j hj => Nat.le_of_not_lt fun hlt => hm ⟨j, hlt, hj⟩⟩
  refine wpIn_loop (fun a w => ∃ n, S n a w) (fun a w => @dite Nat (∃ m, S m a w ∧ ∀ j, S j a w → m ≤ j) (Classical.propDecidable _) (fun h => Classical.choose h) (fun _ => 0)) ⟨n, h⟩ fun a w ⟨n, hn⟩ => ?_
  have hl := least n a w hn
  obtain ⟨c1, c2⟩ := Classical.choose_spec hl
  refine wpIn_mono (round _ a w c1) ?_
  rintro e a' w' q
  cases e <;> try exact q
  obtain ⟨m, hm, hS⟩ := q
  refine ⟨⟨m, hS⟩, ?_⟩
  have hl' := least m a' w' hS
  rw [dif_pos hl', dif_pos hl]
  exact Nat.lt_of_le_of_lt ((Classical.choose_spec hl').2 m hS) hm

theorem run_sound (pf : PF P) {E : EqT} {env : Env} (hE : EqOk P E) (henv : EnvOk P env) (hD : DrawsOk P E env) : ∀ n, RunOk P B0 w0 (run P E env n) := by
  intro n
  induction n using Nat.strongRecOn with
  | _ n IH =>
  intro r β N c ts hp lp k Γ g w act hβ hk fr
  cases n with
  | zero => exact hk.elim
  | succ n =>
  have ih := IH n (Nat.lt_succ_self n)
  rw [run_succ] at hk
  have hinl := inlF_ok (B0 := B0) (w0 := w0) pf ih
  cases c <;> try exact hk.elim
  case skip => exact wpIn_skip ⟨.normal, ts, hp, lp, Γ, g, rfl, hk, fr⟩
  case region id os dr =>
    have hQ : ∀ ts hp lp Γ g w act, k .normal ts hp lp → Fr B0 w0 r β Γ g w hp lp ts act → Post B0 w0 r β k .normal act w := fun ts hp lp Γ g w act h f => ⟨.normal, ts, hp, lp, Γ, g, rfl, h, f⟩
    cases dr with
    | false => exact wpIn_region_list (ops_sound hE henv hinl hβ (all := os.toList) hQ os.toList ts hp lp Γ g w act hk fr)
    | true =>
      exact hD B0 w0 _ r β os id N _ ts hp lp Γ g w act _ hinl hβ hk fr hQ (fun c a w h => by obtain ⟨x, _, _, _, _, _, he, _⟩ := h; cases x <;> cases he)
  case seq a b =>
    refine wpIn_seq (wpIn_mono (ih r β N a ts hp lp _ Γ g w act hβ hk fr) ?_)
    rintro e a' w' ⟨x, ts', hp', lp', Γ', g', rfl, hk', fr'⟩
    cases x with
    | normal => exact ih r β N b ts' hp' lp' k Γ' g' w' a' hβ hk' fr'
    | ret => exact ⟨.ret, ts', hp', lp', Γ', g', rfl, hk', fr'⟩
    | exit i => exact ⟨.exit i, ts', hp', lp', Γ', g', rfl, hk', fr'⟩
  case cond x a b =>
    change (match ev ts x with | .v (.bool t) => cndK t (run P E env n β.nb β.lp.length a ts hp lp k) (run P E env n β.nb β.lp.length b ts hp lp k) | _ => False) at hk
    have hx := ev_sound fr.ts x
    cases hc : ev ts x <;> rw [hc] at hk hx <;> try exact hk.elim
    rename_i v
    cases v <;> try exact hk.elim
    rename_i t
    cases t with
    | true => exact wpIn_cond_true hx.bool_inv (ih r β N a ts hp lp k Γ g w act hβ hk fr)
    | false => exact wpIn_cond_false hx.bool_inv (ih r β N b ts hp lp k Γ g w act hβ hk fr)
  case block id b =>
    refine wpIn_block (wpIn_mono (ih r β N b ts hp lp _ Γ g w act hβ hk fr) ?_)
    rintro e a' w' ⟨x, ts', hp', lp', Γ', g', rfl, hk', fr'⟩
    cases x with
    | normal => exact ⟨.normal, ts', hp', lp', Γ', g', rfl, hk', fr'⟩
    | ret => exact ⟨.ret, ts', hp', lp', Γ', g', rfl, hk', fr'⟩
    | exit i =>
      simp only [exE, Exit.inBlock]
      change (match i == id with | true => k .normal ts' hp' lp' | false => k (.exit i) ts' hp' lp') at hk'
      by_cases hid : i = id
      · subst hid
        simp only [beq_self_eq_true] at hk'
        rw [if_pos rfl]
        exact ⟨.normal, ts', hp', lp', Γ', g', rfl, hk', fr'⟩
      · have : (i == id) = false := by simpa using hid
        rw [this] at hk'
        rw [if_neg hid]
        exact ⟨.exit i, ts', hp', lp', Γ', g', rfl, hk', fr'⟩
  case loop b =>
    refine loop_sound (fun m a w => m ≤ n + 1 ∧ ∃ ts hp lp Γ g, run P E env m β.nb β.lp.length (.loop b) ts hp lp k ∧ Fr B0 w0 r β Γ g w hp lp ts a) ?_ (n := n + 1) ⟨Nat.le_refl _, ts, hp, lp, Γ, g, hk, fr⟩
    rintro m a w ⟨hm, ts, hp, lp, Γ, g, hk, fr⟩
    cases m with
    | zero => exact hk.elim
    | succ m =>
      rw [run_succ] at hk
      obtain ⟨ts2, hp2, lp2, hwk, hk2⟩ : WkK β.nb β.lp.length ts hp lp fun ts hp lp => run P E env m β.nb β.lp.length b ts hp lp fun e ts hp lp => match e with
        | .normal => run P E env m β.nb β.lp.length (.loop b) ts hp lp k
        | e => k e ts hp lp := hk
      obtain ⟨g2, fr2⟩ := wk_sound (B0 := B0) (w0 := w0) hβ hwk Γ g w a fr
      refine wpIn_mono (IH m (by omega) r β N b ts2 hp2 lp2 _ Γ g2 w a hβ hk2 fr2) ?_
      rintro e a' w' ⟨x, ts', hp', lp', Γ', g', rfl, hk', fr'⟩
      cases x with
      | normal => exact ⟨m, Nat.lt_succ_self m, by omega, ts', hp', lp', Γ', g', hk', fr'⟩
      | ret => exact ⟨.ret, ts', hp', lp', Γ', g', rfl, hk', fr'⟩
      | exit i => exact ⟨.exit i, ts', hp', lp', Γ', g', rfl, hk', fr'⟩
  case rangeFunc x ps assign body =>
    change (match ev ts x with
      | .fn g [] cap => optK P.funcs[g]? fun fn => optK fn.body fun c => lenK lp 0 fun i => frameK fn (.yl i :: cap) fun ts2 => snocK lp [.ready ⟨ps.toList, assign, body, ts⟩] fun lp2 =>
        lenK hp 0 fun nb2 => run P E env n nb2 (i + 1) c ts2 hp lp2 fun e ts3 hp lp3 =>
          match e with
          | .exit _ => False
          | _ => resK P fn ts3 hp fun _ => optK lp3[i]? fun st => match st with
            | .ready _ => setK lp3 i .over fun lp => k .normal ts hp lp
            | .done e => setK lp3 i .over fun lp => k e ts hp lp
            | _ => False
      | _ => False) at hk
    cases hx : ev ts x <;> rw [hx] at hk <;> try exact hk.elim
    rename_i gf fst cap
    cases fst with
    | cons _ _ => exact hk.elim
    | nil =>
    obtain ⟨fn, hf, hk1⟩ := optK_elim hk
    obtain ⟨cd, hb, hk2⟩ := optK_elim hk1
    simp only [lenK_eq, frameK_eq, snocK_eq, Nat.zero_add] at hk2
    exact range_sound pf ih hβ fr hx hf hb hk2 N
  case exit i => exact wpIn_exit ⟨.exit i, ts, hp, lp, Γ, g, rfl, hk, fr⟩
  case ret => exact wpIn_ret ⟨.ret, ts, hp, lp, Γ, g, rfl, hk, fr⟩

end Go.YtoeophdffhmpmaaE
end

section
set_option linter.unusedVariables false
set_option linter.unusedSimpArgs false
namespace Go.YtoeophdffhmpmaaE
open Go Go.RowKit

variable {P : Program} {B0 : Nat} {w0 : Wz} {c : Hp} {p : Nat} {o : Oper} {ts : List A} {hp : List Blk}

theorem convR_sound {a : A} {k : A → Prop} (hk : convR hp a k) :
    ∃ a', k a' ∧ ∀ (g : Gh) (w : World) (h : Hp) (v : Value), SW B0 w0 g w h → (∀ b, Live h b → Live (hf hp) b → h b = hf hp b) → VR g w h a v →
      ∀ (g2 : Gh) (h2 : Hp), (∀ x, g.I x → g2.I x) → (∀ b ∈ blocksR hp a, Live h b → g2.I (g.m b)) → VR g2 w h2 a' v := by
  cases a with
  | tup xs =>
    obtain ⟨ys, k1, k2, k5⟩ := convs_sound (B0 := B0) (w0 := w0) hk
    refine ⟨_, k1, fun g w h v hs hc r g2 h2 hI hb => ?_⟩
    cases r with
    | tup _ vs hl hv => exact .tup _ _ (by omega) (k5 g w h (fun i => vs.getD i undef) hs hc hv g2 h2 hI hb)
  | fn f fst cap =>
    cases fst with
    | cons _ _ => exact convA_sound (B0 := B0) (w0 := w0) hk
    | nil =>
    obtain ⟨ys, k1, k2, k5⟩ := convs_sound (B0 := B0) (w0 := w0) (show convs hp cap _ from hk)
    refine ⟨_, k1, fun g w h v hs hc r g2 h2 hI hb => ?_⟩
    cases r with
    | fn _ _ _ fs vs hl0 hl hv0 hv => exact .fn f _ _ _ _ hl0 (by omega) (fun i hi => by simp at hi) (k5 g w h (fun i => vs.getD i undef) hs hc hv g2 h2 hI hb)
  | _ => exact convA_sound (B0 := B0) (w0 := w0) hk

/-- Blocks picked out, under new names. -/
theorem pick_ren {bs : List Nat} {g : Gh} {w : World} (s : SW B0 w0 g w (hf hp)) (h1 : rising 0 bs = true) (h10 : ∀ b ∈ bs, hp.getD b .hole ≠ .hole) :
    ∃ g2, SW B0 w0 g2 w (hf ((bs.map fun b => ver0 (hp.getD b .hole)).map (renB' (gcN 0 bs hp) noY))) ∧ g2.I = g.I ∧ Ren (gcN 0 bs hp) noY g (hf hp) g2 (hf ((bs.map fun b => ver0 (hp.getD b .hole)).map (renB' (gcN 0 bs hp) noY))) := by
  obtain ⟨r1, r2⟩ := rising_spec h1
  generalize hrn : gcN 0 bs hp = rn
  generalize hhp2 : (bs.map fun b => ver0 (hp.getD b .hole)).map (renB' rn noY) = hp2
  have hhigh : ∀ (j b : Nat), bs[j]? = some b → hf hp2 j = renB' rn noY (ver0 (hf hp b)) := fun j b hj => by
    rw [← hhp2, hf_map _ rfl]
    congr 1
    simp [hf, List.getD_eq_getElem?_getD, hj]
  obtain ⟨g2, hg2⟩ : ∃ g2 : Gh, g2 = ⟨fun x => g.m (bs.getD x 0), fun x => g.cp (bs.getD x 0), g.I, []⟩ := ⟨_, rfl⟩
  have mhigh : ∀ (j b : Nat), bs[j]? = some b → g2.m j = g.m b ∧ g2.cp j = g.cp b := fun j b hj => by
    have e : bs.getD j 0 = b := by rw [List.getD_eq_getElem?_getD, hj]; rfl
    rw [hg2]
    dsimp only
    rw [e]
    exact ⟨rfl, rfl⟩
  have hI2 : g2.I = g.I := by rw [hg2]
  have hcase : ∀ x, Live (hf hp2) x → ∃ b : Nat, bs[x]? = some b ∧ Live (hf hp) b := fun x hx => by
    have hxl : x < hp2.length := live_lt hx
    have hj : x < bs.length := by rw [← hhp2] at hxl; simpa using hxl
    exact ⟨bs[x], List.getElem?_eq_getElem hj, h10 _ (List.getElem_mem _)⟩
  have hR : Ren rn noY g (hf hp) g2 (hf hp2) := by
    refine ⟨fun b ver b' v' hr hl hv => ?_, fun x hx => by rw [hI2]; exact hx, fun i l hy hl => by cases hy⟩
    rw [← hrn] at hr
    unfold gcN at hr
    have hb : Nat.blt b 0 = false := rfl
    rw [hb] at hr
    dsimp only at hr
    cases hp' : posOf b bs 0 with
    | none => rw [hp'] at hr; cases hr
    | some j =>
      rw [hp'] at hr
      dsimp only at hr
      cases hve : Nat.beq ver (hp.getD b .hole).ver with
      | false => rw [hve] at hr; cases hr
      | true =>
        rw [hve] at hr
        simp only [Option.some.injEq, Prod.mk.injEq, Nat.zero_add] at hr
        obtain ⟨rfl, rfl⟩ := hr
        have hj := (posOf_spec hp').2
        rw [Nat.sub_zero] at hj
        obtain ⟨m1, m2⟩ := mhigh j b hj
        unfold Live at hl ⊢
        rw [hhigh j b hj, renB_ver, renB_es, ver0_ver, ver0_es]
        exact ⟨fun h => hl ((ver0_hole _).1 ((renB_hole _).1 h)), Nat.le_refl _, rfl, fun _ => ⟨Nat.eq_of_beq_eq_true hve, m1, m2⟩⟩
  refine ⟨g2, ⟨⟨?_, ?_, ?_, ?_, ?_, ?_⟩, s.be, s.b0, fun x hx => s.ib x (by rw [hI2] at hx; exact hx)⟩, hI2, hR⟩
  · intro x y hx hy hm
    obtain ⟨b, c1, l1⟩ := hcase x hx
    obtain ⟨b', c2, l2⟩ := hcase y hy
    rw [(mhigh x b c1).1, (mhigh y b' c2).1] at hm
    have := s.sh.inj b b' l1 l2 hm
    subst this
    exact r2 x y b c1 c2
  · intro x hx
    obtain ⟨b, c1, l1⟩ := hcase x hx
    rw [(mhigh x b c1).1]; exact s.sh.lo b l1
  · intro x hx; rw [hI2] at hx; exact s.sh.imm x hx
  · intro x hx hf'
    obtain ⟨b, c1, l1⟩ := hcase x hx
    rw [hhigh x b c1, renB_fz, ver0_fz] at hf'
    rw [(mhigh x b c1).1, hI2]; exact s.sh.sep b l1 hf'
  · intro x hx hf'
    obtain ⟨b, c1, l1⟩ := hcase x hx
    rw [hhigh x b c1, renB_fz, ver0_fz] at hf'
    rw [(mhigh x b c1).1, hI2]; exact s.sh.fro b l1 hf'
  · intro x
    by_cases hx : Live (hf hp2) x
    · obtain ⟨b, c1, l1⟩ := hcase x hx
      rw [hhigh x b c1]
      exact BR.rnm hR (mhigh x b c1).1 (mhigh x b c1).2 (s.sh.blk b).ver0
    · have : hf hp2 x = .hole := Classical.byContradiction hx
      rw [this]; trivial

theorem exp_sound {a : A} {r : Res} (hk : expK hp a r) {w1 : World} {I : Nat → Prop} {g : Gh} {w : World} {v : Value} (hI0 : ∀ x, I x → g.I x) (s : SW w1.heap.size ⟨w1, I⟩ g w (hf hp)) (hv : VR g w (hf hp) a v) :
    ∃ g', SW w1.heap.size ⟨w1, I⟩ g' w (hf r.hs) ∧ (∀ x, I x → g'.I x) ∧ VR g' w (hf r.hs) r.v v := by
  rcases hk with hk | ⟨bs, hk⟩
  · obtain ⟨a', h3, h4⟩ := convR_sound (B0 := w1.heap.size) (w0 := ⟨w1, I⟩) hk
    obtain ⟨hp1, h1, hlen, hfz, h2⟩ := freezeK_sound (B0 := w1.heap.size) (w0 := ⟨w1, I⟩) h3
    subst h1
    obtain ⟨g1, e1, s1, m1, i1, j1⟩ := h2 g w s
    refine ⟨g1, ⟨⟨fun b b' hb => ?_, fun b hb => ?_, s1.sh.imm, fun b hb => ?_, fun b hb => ?_, fun b => ?_⟩, s1.be, s1.b0, s1.ib⟩, fun x hx => (e1.imm x (hI0 x hx)).1, h4 g w (hf hp) v s (fun _ _ _ => rfl) hv g1 _ (fun x h => (e1.imm x h).1) (fun b hb hl => i1 b hb)⟩
    all_goals first
      | exact absurd (hf_none [] b (Nat.zero_le _)) (fun h => h hb)
      | (have : hf ([] : List Blk) b = .hole := by simp [hf]
         rw [this]; trivial)
  · obtain ⟨h1, h2⟩ := chk_elim hk
    obtain ⟨h3, h4⟩ := pickK_elim h2
    rw [renBs_eq, ren2_eq] at h3
    subst h3
    obtain ⟨g2, s2, hI2, R⟩ := pick_ren s h1 h4
    exact ⟨g2, s2, fun x hx => by rw [hI2]; exact hI0 x hx, hv.rn2 R⟩

/-- THE CONTRACT OF A FUNCTION, OUT OF ITS RUN. -/
theorem pure_of_run (pf : PF P) {E : EqT} {env : Env} (hE : EqOk P E) (henv : EnvOk P env) (hD : DrawsOk P E env) {f n : Nat} {as : List A} {r : Res} (hk : fnK P E env f n as fun a hp => expK hp a r) : Pure P f as r := by
  obtain ⟨fn, hf, hk1⟩ := optK_elim hk
  obtain ⟨cd, hb, hk2⟩ := optK_elim hk1
  rw [frameK_eq] at hk2
  intro w I vs hI harel
  have hs : SW w.heap.size ⟨w, I⟩ (gI I) w (Go.YtoeophdffhmpmaaE.hf []) := by
    refine ⟨⟨fun b b' hb => ?_, fun b hb => ?_, hI, fun b hb => ?_, fun b hb => ?_, fun b => ?_⟩, Below.refl _ _, Nat.le_refl _, fun x hx => .inl hx⟩
    all_goals first
      | exact absurd (hf_none [] b (Nat.zero_le _)) (fun h => h hb)
      | (have : Go.YtoeophdffhmpmaaE.hf ([] : List Blk) b = .hole := by simp [Go.YtoeophdffhmpmaaE.hf]
         rw [this]; trivial)
  have hf0 : Go.YtoeophdffhmpmaaE.hf [] = fun _ => Blk.hole := by funext b; simp [Go.YtoeophdffhmpmaaE.hf]
  have ld : LD w.heap.size (fun _ => (⟨[], .skip, .skip, []⟩, ⟨.ready, none, 0, #[], #[], .skip, .skip, 0⟩)) [] (gI I) w := ⟨fun l h => by simp [gI] at h, rfl, by simp [gI], fun i l s h => by simp [gI] at h⟩
  have hβ : BOk (Bs.here (gI I) w [] [] (fun _ => (⟨[], .skip, .skip, []⟩, ⟨.ready, none, 0, #[], #[], .skip, .skip, 0⟩))) none := by
    refine ⟨fun i rd h => ?_, fun b hb => ?_, rfl, fun l h => by simp [Bs.here, gI] at h, fun l h => by cases h⟩
    · rcases h with h | h <;> simp [Bs.here] at h
    · exact absurd (hf_none [] b (Nat.zero_le _)) (fun h => h hb)
  have h1 := call_inline pf (run_sound (B0 := w.heap.size) (w0 := ⟨w, I⟩) pf hE henv hD n) hs ld hβ hf hb harel.1 (fun i hi => by rw [hf0]; exact harel.2 i hi) (kk := fun a hp _ => expK hp a r) (as := as) (args := vs) hk2 none 0
  have h2 : CallsIn Fence.wide 0 P f vs w _ := h1
  refine Calls.mono (callsIn_wide.1 h2) ?_
  rintro e w' ⟨v, a, hp', lp', Γ', g', rfl, hka, m, hvr⟩
  obtain ⟨g2, s2, hI2, hv2⟩ := exp_sound hka (fun x hx => (m.ev.imm x hx).1) m.sw hvr
  exact ⟨v, g2, rfl, s2, s2.ib, hI2, hv2⟩

end Go.YtoeophdffhmpmaaE
end

section
set_option linter.unusedVariables false
set_option linter.unusedSimpArgs false
namespace Go.YtoeophdffhmpmaaE
open Go Go.RowKit

variable {P : Program} {B0 : Nat} {w0 : Wz} {c : Hp} {p : Nat} {o : Oper} {ts : List A} {hp : List Blk}

def stp (d : Option Nat) (a : A) (ts : List A) : List A := match d with | none => ts | some d => ts.set d a
def tsC (dF : Nat → Option Nat) (aF : Nat → A) (S : Nat → Bool) (ts : List A) : Nat → List A
  | 0 => ts
  | k + 1 => if S k = true then stp (dF k) (aF k) (tsC dF aF S ts k) else tsC dF aF S ts k
def hpC (nF : Nat → List Blk) (hp : List Blk) : Nat → List Blk
  | 0 => hp
  | k + 1 => hpC nF hp k ++ nF k
theorem tsC_shift (dF : Nat → Option Nat) (aF : Nat → A) (S : Nat → Bool) (ts : List A) (k : Nat) :
    tsC dF aF S ts (k + 1) = tsC (fun j => dF (j + 1)) (fun j => aF (j + 1)) (fun j => S (j + 1)) (if S 0 = true then stp (dF 0) (aF 0) ts else ts) k := by
  induction k with
  | zero => rfl
  | succ k ih => rw [tsC, ih]; rfl
theorem hpC_shift (nF : Nat → List Blk) (hp : List Blk) (k : Nat) : hpC nF hp (k + 1) = hpC (fun j => nF (j + 1)) (hp ++ nF 0) k := by
  induction k with
  | zero => rfl
  | succ k ih => rw [hpC, ih]; rfl
theorem stp_length (d : Option Nat) (a : A) (ts : List A) : (stp d a ts).length = ts.length := by cases d <;> simp [stp]
theorem tsC_length (dF : Nat → Option Nat) (aF : Nat → A) (S : Nat → Bool) (ts : List A) (k : Nat) : (tsC dF aF S ts k).length = ts.length := by
  induction k with
  | zero => rfl
  | succ k ih => rw [tsC]; split <;> simp [stp_length, ih]
theorem stp_ne {d : Option Nat} {a : A} {ts : List A} {t : Nat} (h : d ≠ some t) : (stp d a ts).getD t .un = ts.getD t .un := by
  cases d with
  | none => rfl
  | some d => simp only [stp, List.getD_eq_getElem?_getD]; rw [List.getElem?_set_ne (fun e => h (by rw [e]))]
theorem stp_eq {a : A} {ts ts' : List A} {t : Nat} (h : ts.length = ts'.length) : (stp (some t) a ts).getD t .un = (stp (some t) a ts').getD t .un := by
  simp only [stp, List.getD_eq_getElem?_getD]
  by_cases hl : t < ts.length
  · rw [List.getElem?_set_self hl, List.getElem?_set_self (by omega)]
  · rw [List.getElem?_eq_none (by simpa using hl), List.getElem?_eq_none (by simp; omega)]
theorem tsC_agree {dF : Nat → Option Nat} {aF : Nat → A} {S S' : Nat → Bool} {ts : List A} {t : Nat} : ∀ k, (∀ i, i < k → dF i = some t → S i = S' i) → (tsC dF aF S ts k).getD t .un = (tsC dF aF S' ts k).getD t .un := by
  intro k
  induction k with
  | zero => exact fun _ => rfl
  | succ k ih =>
    intro h
    have ih := ih (fun i hi => h i (by omega))
    rw [tsC, tsC]
    by_cases hd : dF k = some t
    · rw [h k (by omega) hd]
      split
      · rw [hd]; exact stp_eq (by rw [tsC_length, tsC_length])
      · exact ih
    · split <;> split <;> first | exact ih | (rw [stp_ne hd, stp_ne hd]; exact ih) | (rw [stp_ne hd]; exact ih)
theorem tsC_cut {dF : Nat → Option Nat} {aF : Nat → A} {ts : List A} {j : Nat} : ∀ k, j ≤ k → tsC dF aF (fun i => decide (i < j)) ts k = tsC dF aF (fun _ => true) ts j := by
  intro k
  induction k with
  | zero => intro h; cases Nat.le_zero.1 h; rfl
  | succ k ih =>
    intro h
    by_cases hj : j = k + 1
    · subst hj
      have : ∀ k', k' ≤ k + 1 → tsC dF aF (fun i => decide (i < k + 1)) ts k' = tsC dF aF (fun _ => true) ts k' := by
        intro k'
        induction k' with
        | zero => exact fun _ => rfl
        | succ k' ih' =>
          intro hk'
          rw [tsC, tsC, ih' (by omega), if_pos (by simp; omega), if_pos rfl]
      exact this (k + 1) (Nat.le_refl _)
    · rw [tsC, if_neg (by simp; omega)]
      exact ih (by omega)
/-- An operation taken. -/
theorem tsC_put {dF : Nat → Option Nat} {aF : Nat → A} {S S' : Nat → Bool} {ts : List A} {j m : Nat} (hj : j < m) (hS' : S' j = true) (hne : ∀ i, i ≠ j → S' i = S i) (hlater : ∀ i, j < i → i < m → ∀ t, dF j = some t → dF i = some t → S i = false) (t : Nat) :
    (tsC dF aF S' ts m).getD t .un = (stp (dF j) (aF j) (tsC dF aF S ts m)).getD t .un := by
  by_cases hd : dF j = some t
  · have key : ∀ k, j < k → k ≤ m → (tsC dF aF S' ts k).getD t .un = (stp (some t) (aF j) ts).getD t .un := by
      intro k
      induction k with
      | zero => intro h; omega
      | succ k ih =>
        intro h1 h2
        rw [tsC]
        by_cases hk : k = j
        · subst hk
          rw [if_pos hS', hd]
          exact stp_eq (tsC_length ..)
        · have ih := ih (by omega) (by omega)
          by_cases hdk : dF k = some t
          · rw [if_neg (by rw [hne k hk, hlater k (by omega) (by omega) t hd hdk]; simp)]; exact ih
          · split
            · rw [stp_ne hdk]; exact ih
            · exact ih
    rw [key m hj (Nat.le_refl _), hd]
    exact stp_eq (tsC_length ..).symm
  · rw [stp_ne hd]
    exact tsC_agree m (fun i hi hdi => hne i (fun e => hd (by rw [← e]; exact hdi)))
theorem hpC_le (nF : Nat → List Blk) (hp : List Blk) {i j : Nat} (h : i ≤ j) : (hpC nF hp i).length ≤ (hpC nF hp j).length := by
  induction j with
  | zero => cases Nat.le_zero.1 h; exact Nat.le_refl _
  | succ j ih =>
    by_cases hi : i = j + 1
    · subst hi; exact Nat.le_refl _
    · have := ih (by omega); rw [hpC, List.length_append]; omega
theorem hpC_pre (nF : Nat → List Blk) (hp : List Blk) {i j : Nat} (h : i ≤ j) {b : Nat} (hb : b < (hpC nF hp i).length) : hf (hpC nF hp j) b = hf (hpC nF hp i) b := by
  induction j with
  | zero => cases Nat.le_zero.1 h; rfl
  | succ j ih =>
    by_cases hi : i = j + 1
    · subst hi; rfl
    · have := ih (by omega)
      have := hpC_le nF hp (show i ≤ j by omega)
      rw [hpC, hf_append_lt _ _ (by omega)]; assumption

/-- WHAT A QUIET OPERATION OF A REGION COMES TO, WHEREVER IT STANDS, its guard taken in. -/
def SP (P : Program) (B0 : Nat) (w0 : Wz) (all : Array Oper) (c : List Blk) (o : Oper) (tsj : List A) (a : A) (news : List Blk) : Prop :=
  ∀ (r : Option Nat) (g : Gh) (w : World) (h : Hp) (act : Act) (N : Nat) (next : Act → World → Prop) (Q : Exit → Act → World → Prop),
    SW B0 w0 g w h → (∀ b, Live h b → Live (hf c) b → h b = hf c b) → (∀ b, c.length ≤ b → b < c.length + news.length → ¬ Live h b) →
    (∀ t ∈ o.looksAt all, VR g w h (tsj.getD t .un) (act.tmps.getD t undef)) →
    (∀ v w' g', EB g w h g' w' (addH h c.length news) → SW B0 w0 g' w' (addH h c.length news) → VR g' w' (addH h c.length news) a v → next (act.put o.dst v) w') →
    if Region.wanted o (yielded all act.tmps) then o.wpIn (FW r) N P act w next Q else (∀ f, o.about P w act.eval = some f → (FW r).fn f) ∧ next (act.put o.dst undef) w

theorem ops_rel {g : Gh} {w : World} {h : Hp} {act : Act} {all : Array Oper} {tsj : List A} (ht : ∀ t ∈ o.looksAt all, VR g w h (tsj.getD t .un) (act.tmps.getD t undef)) : ∀ x ∈ o.op.operands, VR g w h (ev tsj x) (act.eval x) := by
  intro x hx
  cases x with
  | tmp n =>
    exact ht n (List.mem_append_left _ (List.mem_filterMap.2 ⟨.tmp n, by simpa using hx, rfl⟩))
  | const v => exact VR.ofVal ..
  | global n => exact .un _
  | func f => exact .fn f [] [] #[] #[] rfl rfl (fun i hi => by simp at hi) (fun i hi => by simp at hi)
def dstF (os : List Oper) (j : Nat) : Option Nat := (os[j]?).bind (·.dst)

theorem opsQ_elim {E : EqT} {env : Env} (hE : EqOk P E) (henv : EnvOk P env) {all : List Oper} : ∀ (os : List Oper) (ts : List A) (hp : List Blk) (k : List A → List Blk → Prop), opsQ P E env all os ts hp k →
    ∃ (aF : Nat → A) (nF : Nat → List Blk), k (tsC (dstF os) aF (fun _ => true) ts os.length) (hpC nF hp os.length) ∧
      ∀ j o, os[j]? = some o → SP P B0 w0 all.toArray (hpC nF hp j) o (tsC (dstF os) aF (fun _ => true) ts j) (aF j) (nF j) := by
  intro os
  induction os with
  | nil => exact fun ts hp k hk => ⟨fun _ => .un, fun _ => [], hk, fun j o h => by simp at h⟩
  | cons o os ih =>
    intro ts hp k hk
    have head : ∃ a news, opsQ P E env all os (stp o.dst a ts) (hp ++ news) k ∧ SP P B0 w0 all.toArray hp o ts a news := by
      have one : opQ P E env hp ts o.op (fun a news => snocK hp news fun hp => putK ts o.dst a fun ts => opsQ P E env all os ts hp k) →
          ∃ a news, opsQ P E env all os (stp o.dst a ts) (hp ++ news) k ∧ QS P B0 w0 (hf hp) hp.length o (ev ts) a news := fun h => by
        obtain ⟨a, news, h1, h2⟩ := opQ_sound (B0 := B0) (w0 := w0) hE henv h
        rw [snocK_eq, putK_eq] at h1
        exact ⟨a, news, h1, h2⟩
      have skip : putK ts o.dst (.tup []) (fun ts => opsQ P E env all os ts hp k) → opsQ P E env all os (stp o.dst (.tup []) ts) (hp ++ []) k := fun h => by
        rw [putK_eq] at h
        rw [List.append_nil]; exact h
      have spskip : (∀ (g : Gh) (w : World) (h : Hp) (act : Act), (∀ t ∈ o.looksAt all.toArray, VR g w h (ts.getD t .un) (act.tmps.getD t undef)) → Region.wanted o (yielded all.toArray act.tmps) = false) → SP P B0 w0 all.toArray hp o ts (.tup []) [] := by
        intro hw r g w h act N next Q hs hc hf' ht hn
        rw [if_neg (by rw [hw g w h act ht]; simp)]
        rw [addH_nil] at hn
        exact ⟨fun _ _ => trivial, hn undef w g (EB.refl _ _ _) hs (.tup [] #[] rfl (fun i hi => by simp at hi))⟩
      have spone : ∀ a news, QS P B0 w0 (hf hp) hp.length o (ev ts) a news → (∀ (g : Gh) (w : World) (h : Hp) (act : Act), (∀ t ∈ o.looksAt all.toArray, VR g w h (ts.getD t .un) (act.tmps.getD t undef)) → Region.wanted o (yielded all.toArray act.tmps) = true) → SP P B0 w0 all.toArray hp o ts a news := by
        intro a news hq hw r g w h act N next Q hs hc hf' ht hn
        rw [if_pos (hw g w h act ht)]
        exact hq r g w h act N next Q hs hc hf' (ops_rel ht) hn
      change (match o.guard with
        | none => opQ P E env hp ts o.op fun a news => snocK hp news fun hp => putK ts o.dst a fun ts => opsQ P E env all os ts hp k
        | some g => optK ((all[g.1]?).bind (·.dst)) fun d => match ts.getD d .un with
          | .v (.bool b) => match g.2 with
            | true => cndK b (opQ P E env hp ts o.op fun a news => snocK hp news fun hp => putK ts o.dst a fun ts => opsQ P E env all os ts hp k) (putK ts o.dst (.tup []) fun ts => opsQ P E env all os ts hp k)
            | false => cndK b (putK ts o.dst (.tup []) fun ts => opsQ P E env all os ts hp k) (opQ P E env hp ts o.op fun a news => snocK hp news fun hp => putK ts o.dst a fun ts => opsQ P E env all os ts hp k)
          | .tup _ => putK ts o.dst (.tup []) fun ts => opsQ P E env all os ts hp k
          | _ => False) at hk
      cases hg : o.guard with
      | none =>
        rw [hg] at hk
        obtain ⟨a, news, h1, h2⟩ := one hk
        exact ⟨a, news, h1, spone a news h2 (fun g w h act _ => by simp [Region.wanted, hg])⟩
      | some q =>
        obtain ⟨j, want⟩ := q
        rw [hg] at hk
        obtain ⟨d, hd, hk2⟩ := optK_elim hk
        have hdl : d ∈ o.looksAt all.toArray := by
          unfold Oper.looksAt
          rw [hg]
          refine List.mem_append_right _ ?_
          have hd' : (all.toArray[j]?).bind (·.dst) = some d := by simpa using hd
          simp only [hd']; simp
        have hy : ∀ act : Act, yielded all.toArray act.tmps j = match act.tmps[d]? with | some (.bool b) => some b | _ => none := fun act => by
          have hd' : (all.toArray[j]?).bind (·.dst) = some d := by simpa using hd
          simp only [yielded, hd', Option.bind_some]
          rfl
        cases ht : ts.getD d .un <;> rw [ht] at hk2 <;> try exact hk2.elim
        · rename_i x
          cases x <;> try exact hk2.elim
          rename_i b
          have hb : ∀ (g : Gh) (w : World) (h : Hp) (act : Act), (∀ t ∈ o.looksAt all.toArray, VR g w h (ts.getD t .un) (act.tmps.getD t undef)) → act.tmps[d]? = some (.bool b) := fun g w h act hv => by
            have hv := hv d hdl
            rw [ht, Array.getD_eq_getD_getElem?] at hv
            have hb := hv.bool_inv
            cases h : act.tmps[d]? with
            | none => rw [h] at hb; simp [undef] at hb
            | some y => rw [h] at hb; simpa using hb
          cases want <;> cases b <;> first
            | (obtain ⟨a, news, h1, h2⟩ := one hk2
               exact ⟨a, news, h1, spone a news h2 (fun g w h act hv => by simp only [Region.wanted, hg, hy, hb g w h act hv]; rfl)⟩)
            | exact ⟨_, _, skip hk2, spskip (fun g w h act hv => by simp only [Region.wanted, hg, hy, hb g w h act hv]; rfl)⟩
        · refine ⟨_, _, skip hk2, spskip (fun g w h act hv => ?_)⟩
          have hv := hv d hdl
          rw [ht, Array.getD_eq_getD_getElem?] at hv
          have hn : (match act.tmps[d]? with | some (.bool b) => some b | _ => none) = none := by
            cases h : act.tmps[d]? with
            | none => rfl
            | some y =>
              rw [h] at hv
              simp only [Option.getD_some] at hv
              cases hv
              rfl
          simp only [Region.wanted, hg, hy, hn]
          rfl
    obtain ⟨a, news, h1, h2⟩ := head
    obtain ⟨aF, nF, h3, h4⟩ := ih _ _ _ h1
    refine ⟨fun j => match j with | 0 => a | j + 1 => aF j, fun j => match j with | 0 => news | j + 1 => nF j, ?_, fun j o' hj => ?_⟩
    · rw [List.length_cons, tsC_shift, hpC_shift, if_pos rfl]; exact h3
    · cases j with
      | zero =>
        simp only [List.getElem?_cons_zero, Option.some.injEq] at hj
        subst hj
        exact h2
      | succ j =>
        rw [tsC_shift, hpC_shift, if_pos rfl]
        exact h4 j o' (by simpa using hj)

end Go.YtoeophdffhmpmaaE
end

section
set_option linter.unusedVariables false
set_option linter.unusedSimpArgs false
namespace Go.YtoeophdffhmpmaaE
open Go Go.RowKit

variable {P : Program} {B0 : Nat} {w0 : Wz} {c : Hp} {p : Nat} {o : Oper} {ts : List A} {hp : List Blk}

theorem upto_spec {n : Nat} {p : Nat → Bool} (h : upto n p = true) {i : Nat} (hi : i < n) : p i = true := by
  unfold upto at h
  rw [List.all_eq_true] at h
  exact h i (List.mem_range.2 hi)
/-- A set of operations that has what binds its members. -/
def Closed (all : List Oper) (L : Nat → Prop) : Prop := ∀ (j : Nat) (o : Oper), all[j]? = some o → L j → ∀ e ∈ o.after, Region.binds .any e = true → L e.on
theorem maskOf_spec {acc : List Nat} {es : List Edge} {i : Nat} (h : (maskOf acc es).testBit i = true) : ∃ e ∈ es, Region.binds .any e = true ∧ (e.on = i ∨ (acc.getD e.on 0).testBit i = true) := by
  induction es with
  | nil => simp [maskOf] at h
  | cons e es ih =>
    simp only [maskOf] at h
    cases hb : Region.binds .any e with
    | false =>
      rw [hb] at h
      obtain ⟨e', h1, h2⟩ := ih h
      exact ⟨e', List.mem_cons_of_mem _ h1, h2⟩
    | true =>
      rw [hb] at h
      simp only [Nat.testBit_or, Bool.or_eq_true] at h
      rcases h with (h | h) | h
      · refine ⟨e, by simp, hb, .inl ?_⟩
        rw [Nat.testBit_two_pow] at h
        simpa using h
      · exact ⟨e, by simp, hb, .inr h⟩
      · obtain ⟨e', h1, h2⟩ := ih h
        exact ⟨e', List.mem_cons_of_mem _ h1, h2⟩
/-- What the bits say. -/
def MSpec (all : List Oper) (ms : List Nat) : Prop :=
  ∀ (j i : Nat) (o : Oper), all[j]? = some o → (ms.getD j 0).testBit i = true → ∀ L : Nat → Prop, Closed all L → (∀ e ∈ o.after, Region.binds .any e = true → L e.on) → L i
theorem masks_spec (all : List Oper) : ∀ (os pre : List Oper) (acc : List Nat), all = pre ++ os → pre.length = acc.length → MSpec all acc → MSpec all (masks os acc) := by
  intro os
  induction os with
  | nil => exact fun pre acc _ _ h => h
  | cons o os ih =>
    intro pre acc ha hl hm
    refine ih (pre ++ [o]) _ (by rw [ha]; simp) (by simp [hl]) ?_
    intro j i o' ho' ht L hL hd
    by_cases hj : j < acc.length
    · rw [List.getD_eq_getElem?_getD, List.getElem?_append_left hj, ← List.getD_eq_getElem?_getD] at ht
      exact hm j i o' ho' ht L hL hd
    · by_cases hj2 : j = acc.length
      · subst hj2
        have ho : o' = o := by
          rw [ha, ← hl, List.getElem?_append_right (Nat.le_refl _)] at ho'
          simpa using ho'.symm
        subst ho
        rw [List.getD_eq_getElem?_getD, List.getElem?_append_right (Nat.le_refl _)] at ht
        simp only [Nat.sub_self, List.getElem?_cons_zero, Option.getD_some] at ht
        obtain ⟨e, h1, h2, h3⟩ := maskOf_spec ht
        have hLe := hd e (by simpa using h1) h2
        rcases h3 with h3 | h3
        · rw [← h3]; exact hLe
        · obtain ⟨oe, hoe⟩ : ∃ oe, all[e.on]? = some oe := by
            have : e.on < acc.length := by
              rcases Nat.lt_or_ge e.on acc.length with h | h
              · exact h
              · rw [List.getD_eq_getElem?_getD, List.getElem?_eq_none h] at h3; simp at h3
            have h5 : e.on < all.length := by rw [ha]; simp; omega
            exact ⟨all[e.on], List.getElem?_eq_getElem h5⟩
          exact hm e.on i oe hoe h3 L hL (hL e.on oe hoe hLe)
      · rw [List.getD_eq_getElem?_getD, List.getElem?_eq_none (by simp; omega)] at ht
        simp at ht
theorem masks_ok (all : List Oper) : MSpec all (masks all []) :=
  masks_spec all all [] [] rfl rfl (fun j i o _ h => by simp at h)

/-! ### How many are listed -/
def cnt (p : Nat → Bool) : Nat → Nat
  | 0 => 0
  | k + 1 => cnt p k + (if p k = true then 1 else 0)
theorem cnt_le (p : Nat → Bool) (k : Nat) : cnt p k ≤ k := by
  induction k with
  | zero => exact Nat.le_refl _
  | succ k ih => rw [cnt]; split <;> omega
theorem cnt_full {p : Nat → Bool} : ∀ {k : Nat}, cnt p k = k → ∀ j, j < k → p j = true := by
  intro k
  induction k with
  | zero => intro _ j hj; omega
  | succ k ih =>
    intro h j hj
    rw [cnt] at h
    have := cnt_le p k
    split at h
    · by_cases hjk : j = k
      · subst hjk; assumption
      · exact ih (by omega) j (by omega)
    · omega
theorem cnt_congr {p q : Nat → Bool} : ∀ {k : Nat}, (∀ j, j < k → p j = q j) → cnt p k = cnt q k := by
  intro k
  induction k with
  | zero => intro _; rfl
  | succ k ih => intro h; rw [cnt, cnt, ih (fun j hj => h j (by omega)), h k (by omega)]
theorem cnt_set {p q : Nat → Bool} {i : Nat} (hp : p i = false) (hq : q i = true) (hne : ∀ j, j ≠ i → q j = p j) : ∀ {k : Nat}, i < k → cnt q k = cnt p k + 1 := by
  intro k
  induction k with
  | zero => intro h; omega
  | succ k ih =>
    intro h
    rw [cnt, cnt]
    by_cases hik : i = k
    · subst hik
      rw [cnt_congr (fun j hj => hne j (by omega)), if_pos hq, if_neg (by rw [hp]; simp)]
    · rw [ih (by omega), hne k (fun e => hik e.symm)]
      omega

section
variable {F : Fence} {N : Nat} {ops : Array Oper} {Q : Exit → Act → World → Prop}
theorem getD_set (listed : Array Bool) (i j : Nat) (d : Bool) (hi : i < listed.size) : (listed.setIfInBounds i true).getD j d = if j = i then true else listed.getD j d := by
  simp only [Array.getD_eq_getD_getElem?]
  by_cases h : j = i
  · subst h; rw [if_pos rfl, Array.getElem?_setIfInBounds_self_of_lt hi]; rfl
  · rw [if_neg h, Array.getElem?_setIfInBounds_ne (fun e => h e.symm)]
theorem getD_any (listed : Array Bool) (j : Nat) (d d' : Bool) (hj : j < listed.size) : listed.getD j d = listed.getD j d' := by
  simp [Array.getD, hj]
theorem closed_listed (listed : Array Bool) (hcl : ∀ (j : Nat) (o : Oper), ops[j]? = some o → listed.getD j false = true → ∀ e ∈ o.after, Region.binds .any e = true → listed.getD e.on false = true) : Closed ops.toList (fun j => listed.getD j false = true) :=
  fun j o ho hj e he hb => hcl j o (by simpa using ho) hj e he hb
theorem take_of_step {r : Option Nat} {i : Nat} {o : Oper} (hi : ops[i]? = some o) (hw : worldless o = true) {K : Act → World → Prop} {a : Act} {w : World} (h : wpOpIn (FW r) N P ops Q i K a w) : ∃ v, Yields P ops o v a ∧ K (a.put o.dst v) w := by
  unfold wpOpIn at h
  rw [hi] at h
  dsimp only at h
  by_cases hwt : Region.wanted o (yielded ops a.tmps) = true
  · rw [if_pos hwt] at h
    have h := h.2
    rw [Oper.semAt_eq _ _ _ (by intro d hd; rw [worldless, hd] at hw; cases hw)] at h
    unfold worldless at hw
    cases ho : o.op <;> rw [ho] at hw <;> try cases hw
    · rename_i x
      have hr : ∀ w, (execOp a.eval o).run P w = .ok (.value (a.eval x)) w := fun w => by simp [execOp, ho]
      rw [hr w] at h
      exact ⟨_, .inl ⟨hwt, hr⟩, h⟩
    · rename_i x j
      have hr : ∀ w, (execOp a.eval o).run P w = ((Instr.extract (a.eval x) j).run P w).andThen fun v w => .ok (.value v) w := fun w => by simp [execOp, ho]
      have hc : (∃ v, ∀ w, (Instr.extract (a.eval x) j).run P w = .ok v w) ∨ ∃ s, (∀ v, s ≠ .panic v) ∧ ∀ w, (Instr.extract (a.eval x) j).run P w = .halt s w := by
        unfold Instr.extract
        split
        · split
          · exact .inl ⟨_, fun w => rfl⟩
          · exact .inr ⟨_, fun _ h => (by cases h), fun w => rfl⟩
        · exact .inr ⟨_, fun _ h => (by cases h), fun w => rfl⟩
      rcases hc with ⟨v, hv⟩ | ⟨s, hsp, hs⟩
      · have hr2 : ∀ w, (execOp a.eval o).run P w = .ok (.value v) w := fun w => by rw [hr, hv]; rfl
        rw [hr2 w] at h
        exact ⟨_, .inl ⟨hwt, hr2⟩, h⟩
      · rw [hr, hs] at h
        cases s <;> first
          | exact h.elim
          | exact absurd rfl (hsp _)
  · rw [if_neg hwt] at h
    exact ⟨undef, .inr ⟨by simpa using hwt, rfl⟩, h.2⟩
theorem wpOpIn_putW {r : Option Nat} {j : Nat} {oi oj : Oper} {v : Value} (hj : ops[j]? = some oj) (hap : oi.apart ops oj = true) (hci : calmOp oi = true) (hcj : calmOp oj = true)
    (hQ : ∀ c a w, ¬ Q (.panic c) a w) {K : Act → World → Prop} {a : Act} {w : World}
    (hy : Yields P ops oi v a) (h : wpOpIn (FW r) N P ops Q j K (a.put oi.dst v) w) :
    wpOpIn (FW r) N P ops Q j (fun a' w' => Yields P ops oi v a' ∧ K (a'.put oi.dst v) w') a w := by
  obtain ⟨h1, h2, h3⟩ := Oper.apart_spec hap
  have hsi : ∀ cs b, oi.op ≠ .select cs b := fun cs b e => by rw [calmOp, e] at hci; cases hci
  have hsj : ∀ cs b, oj.op ≠ .select cs b := fun cs b e => by rw [calmOp, e] at hcj; cases hcj
  have hdj : ∀ d, oj.op ≠ .defer d := fun d e => by rw [calmOp, e] at hcj; cases hcj
  have keep : ∀ (a : Act), Yields P ops oi v a → ∀ u, Yields P ops oi v (a.put oj.dst u) := fun a hy u =>
    hy.of_same (execOp_put oi hsi a oj.dst u h3) (wanted_put oi a oj.dst u h3)
  have keepD : ∀ d, Yields P ops oi v { a with defers := d :: a.defers } := fun d => hy.of_same rfl rfl
  unfold wpOpIn at *
  simp only [hj] at *
  rw [wanted_put oj a oi.dst v h1] at h
  split
  · rename_i hw
    simp only [hw, if_true] at h
    refine ⟨fun _ _ => trivial, ?_⟩
    have h := h.2
    rw [Oper.semAt_eq _ _ _ hdj, execOp_put oj hsj a oi.dst v h1] at h
    rw [Oper.semAt_eq _ _ _ hdj]
    generalize (execOp a.eval oj).run P w = r at *
    cases r with
    | ok x w' =>
      cases x <;> simp only [Oper.uponIn] at h ⊢
      case value u => exact ⟨keep a hy u, by rw [← Act.put_comm a v u h2]; exact h⟩
      case skip => exact ⟨keep a hy _, by rw [← Act.put_comm a v undef h2]; exact h⟩
      case defer d =>
        refine ⟨keep _ (keepD d) _, ?_⟩
        rw [← Act.put_comm _ v undef h2, ← Act.put_defers]
        exact h
      case enter f args =>
        refine ⟨h.1, CallsIn.mono h.2 fun e w'' he => ?_⟩
        cases e with
        | returned u => exact ⟨keep a hy u, by rw [← Act.put_comm a v u h2]; exact he⟩
        | panicked c => exact absurd he (hQ _ _ _)
        | outgrown => exact he
      case row row args => exact ⟨h.1, RowsIn.mono h.2 fun u w'' he => ⟨keep a hy u, by rw [← Act.put_comm a v u h2]; exact he⟩⟩
      case round l f tmps assign body =>
        refine ⟨h.1, RoundIn.mono h.2 fun e w'' he => ?_⟩
        cases e with
        | returned u => exact ⟨keep a hy u, by rw [← Act.put_comm a v u h2]; exact he⟩
        | panicked c => exact absurd he (hQ _ _ _)
        | outgrown => exact he
    | halt x w' =>
      cases x <;> simp only [Oper.uponIn] at h ⊢
      case panic u => exact absurd h (hQ _ _ _)
  · rename_i hw
    simp only [hw] at h
    exact ⟨fun _ _ => trivial, keep a hy _, by rw [← Act.put_comm a v undef h2]; exact h.2⟩
theorem YieldsW.wpOpIn {r : Option Nat} {i : Nat} {o : Oper} {v : Value} {a : Act} (hc : calmOp o = true) (hi : ops[i]? = some o) (hy : Yields P ops o v a)
    {K : Act → World → Prop} {w : World} (h : K (a.put o.dst v) w) : wpOpIn (FW r) N P ops Q i K a w := by
  have hd : ∀ d, o.op ≠ .defer d := fun d e => by rw [calmOp, e] at hc; cases hc
  unfold Go.wpOpIn
  simp only [hi]
  rcases hy with ⟨hw, hv⟩ | ⟨hw, rfl⟩
  · rw [if_pos hw]
    refine ⟨fun _ _ => trivial, ?_⟩
    rw [Oper.semAt_eq _ _ _ hd, hv w]
    exact h
  · rw [if_neg (by rw [hw]; simp)]
    exact ⟨fun _ _ => trivial, h⟩
/-- WHAT IS READY, LOOKS AT NO WORLD AND IS APART FROM ALL THAT IS NOT BEHIND IT, MAY BE TAKEN FIRST. -/
theorem wpAnyIn_firstW {r : Option Nat} {i : Nat} {oi : Oper} {v : Value} (hi : ops[i]? = some oi) (hcalm : ∀ (j : Nat) (o : Oper), ops[j]? = some o → calmOp o = true)
    (hQ : ∀ c a w, ¬ Q (.panic c) a w) :
    ∀ (fuel : Nat) (listed : Array Bool) (a : Act) (w : World),
      (∀ j oj, ops[j]? = some oj → j ≠ i → listed.getD j true = false → (∀ e ∈ oj.after, Region.binds .any e = true → e.on ≠ i) → oi.apart ops oj = true) →
      i ∈ Region.ready .any ops listed → Yields P ops oi v a →
      wpAnyIn (FW r) N P .any ops Q fuel (listed.setIfInBounds i true) (a.put oi.dst v) w → wpAnyIn (FW r) N P .any ops Q (fuel + 1) listed a w := by
  intro fuel
  induction fuel with
  | zero =>
    intro listed a w _ hr hy H
    refine ⟨fun h => (by rw [h] at hr; cases hr), fun j hj => ?_⟩
    by_cases hji : j = i
    · subst hji; exact YieldsW.wpOpIn (hcalm _ _ hi) hi hy H
    · have := ready_mono hj hji
      rw [H.1] at this
      cases this
  | succ fuel ih =>
    intro listed a w hfree hr hy H
    refine ⟨fun h => (by rw [h] at hr; cases hr), fun j hj => ?_⟩
    by_cases hji : j = i
    · subst hji; exact YieldsW.wpOpIn (hcalm _ _ hi) hi hy H
    · have h1 := H.2 j (ready_mono hj hji)
      obtain ⟨hjun, oj, hoj, hall⟩ := mem_ready.1 hj
      have hnot : ∀ e ∈ oj.after, Region.binds .any e = true → e.on ≠ i := fun e he hb heq => by
        have h1 := hall e he hb
        have h0 := (mem_ready.1 hr).1
        rw [heq] at h1
        rcases Nat.lt_or_ge i listed.size with h' | h'
        · simp [h'] at h0 h1; rw [h0] at h1; cases h1
        · simp [Array.getElem?_eq_none h'] at h1
      have h2 := wpOpIn_putW hoj (hfree j oj hoj hji hjun hnot) (hcalm _ _ hi) (hcalm _ _ hoj) hQ hy h1
      have hfree' : ∀ k ok, ops[k]? = some ok → k ≠ i → (listed.setIfInBounds j true).getD k true = false →
          (∀ e ∈ ok.after, Region.binds .any e = true → e.on ≠ i) → oi.apart ops ok = true := fun k ok hk hki hun hno => by
        refine hfree k ok hk hki ?_ hno
        by_cases hjk : j = k
        · subst hjk; exact hjun
        · rw [getD_set_ne true hjk] at hun; exact hun
      refine wpOpIn_mono (fun a' w' h3 => ih (listed.setIfInBounds j true) a' w' hfree' (ready_mono hr (Ne.symm hji)) h3.1 ?_) h2
      rw [Array.setIfInBounds_comm _ _ hji]
      exact h3.2
/-- WHERE THE ORDER IS FORCED: the text's. -/
theorem forced (m : Nat) (hd : okD ops.toList m = true) : ∀ (fuel q : Nat) (listed : Array Bool) (a : Act) (w : World), m ≤ q → q ≤ ops.size → listed.size = ops.size → (∀ j, j < ops.size → (listed.getD j false = true ↔ j < q)) → ops.size ≤ fuel + q →
    wpListIn F N P ops Q (ops.toList.drop q) a w → wpAnyIn F N P .any ops Q fuel listed a w := by
  have hms := masks_ok ops.toList
  unfold okD at hd
  simp only [Bool.and_eq_true] at hd
  obtain ⟨⟨⟨d1, d2⟩, d3⟩, d4, d5⟩ := hd
  intro fuel
  induction fuel with
  | zero =>
    intro q listed a w hmq hq hsz hl hf h
    have hqe : q = ops.size := by omega
    subst hqe
    refine ⟨?_, ?_⟩
    · rw [List.eq_nil_iff_forall_not_mem]
      intro j hj
      obtain ⟨h1, o, h2, _⟩ := mem_ready.1 hj
      have hjl := (Array.getElem?_eq_some_iff.1 h2).1
      have := (hl j hjl).2 hjl
      rw [getD_any listed j true false (by omega), this] at h1
      cases h1
    · rw [List.drop_eq_nil_of_le (by simp)] at h; exact h
  | succ fuel ih =>
    intro q listed a w hmq hq hsz hl hf h
    have hready : ∀ j ∈ Region.ready .any ops listed, j = q := by
      intro j hj
      obtain ⟨h1, o, h2, h3⟩ := mem_ready.1 hj
      have hjl := (Array.getElem?_eq_some_iff.1 h2).1
      have hjq : ¬ j < q := fun hlt => by
        have := (hl j hjl).2 hlt
        rw [getD_any listed j true false (by omega), this] at h1
        cases h1
      rcases Nat.lt_trichotomy j q with hlt | he | hgt
      · exact absurd hlt hjq
      · exact he
      · exfalso
        have hb := upto_spec d3 (show j < ops.toList.length by simpa using hjl)
        simp only [Bool.or_eq_true] at hb
        rcases hb with hb | hb
        · have : j < m := Nat.le_of_ble_eq_true hb
          omega
        · have hb2 := upto_spec hb hgt
          simp only [Bool.or_eq_true, Bool.and_eq_true] at hb2
          replace hb2 := hb2.resolve_right (fun h => absurd (Nat.le_of_ble_eq_true h.1) (by omega))
          have hcl : Closed ops.toList (fun j => listed.getD j false = true) := by
            refine closed_listed listed (fun j' o' ho' hj' e he hbd => ?_)
            have hj'l := (Array.getElem?_eq_some_iff.1 ho').1
            have hj'q := (hl j' hj'l).1 hj'
            have hon := upto_spec d1 (show j' < ops.toList.length by simpa using hj'l)
            rw [Array.getElem?_toList, ho'] at hon
            simp only [Option.all_some, List.all_eq_true] at hon
            have hon := hon e (by simpa using he)
            rw [hbd] at hon
            have hlt : e.on < j' := by simpa using hon
            exact (hl e.on (by omega)).2 (by omega)
          have := hms j q o (by simpa using h2) hb2 _ hcl h3
          exact absurd ((hl q (by omega)).1 this) (Nat.lt_irrefl _)
    refine ⟨fun hnil => ?_, fun j hj => ?_⟩
    · by_cases hqe : q = ops.size
      · subst hqe
        rw [List.drop_eq_nil_of_le (by simp)] at h; exact h
      · exfalso
        have hq2 : q < ops.size := by omega
        have : q ∈ Region.ready .any ops listed := by
          refine mem_ready.2 ⟨?_, ops[q], Array.getElem?_eq_getElem hq2, fun e he hbd => ?_⟩
          · rw [getD_any listed q true false (by omega)]
            cases hv : listed.getD q false with
            | false => rfl
            | true => exact absurd ((hl q hq2).1 hv) (Nat.lt_irrefl _)
          · have hon := upto_spec d1 (show q < ops.toList.length by simpa using hq2)
            rw [Array.getElem?_toList, Array.getElem?_eq_getElem hq2] at hon
            simp only [Option.all_some, List.all_eq_true] at hon
            have hon := hon e (by simpa using he)
            rw [hbd] at hon
            have hlt : e.on < q := by simpa using hon
            exact (hl e.on (by omega)).2 hlt
        rw [hnil] at this; cases this
    · have := hready j hj
      subst this
      obtain ⟨h1, o, h2, h3⟩ := mem_ready.1 hj
      have hjl := (Array.getElem?_eq_some_iff.1 h2).1
      have hdrop : ops.toList.drop j = o :: ops.toList.drop (j + 1) := by
        have e1 : ops.toList[j]? = some o := by simpa using h2
        rw [List.drop_eq_getElem_cons (by simpa using hjl)]
        congr 1
        obtain ⟨_, e2⟩ := List.getElem?_eq_some_iff.1 e1
        exact e2
      rw [hdrop] at h
      unfold wpOpIn
      rw [h2]
      unfold wpListIn at h
      have nextok : ∀ a w, wpListIn F N P ops Q (ops.toList.drop (j + 1)) a w → wpAnyIn F N P .any ops Q fuel (listed.setIfInBounds j true) a w := fun a w hh => by
        refine ih (j + 1) _ a w (by omega) (by omega) (by simpa using hsz) (fun i hi => ?_) (by omega) hh
        rw [getD_set listed j i false (by omega)]
        by_cases hij : i = j
        · subst hij; simp
        · rw [if_neg hij, hl i hi]; omega
      dsimp only
      split
      · rename_i hw; rw [if_pos hw] at h; exact Oper.wpIn_mono nextok h
      · rename_i hw; rw [if_neg hw] at h; exact ⟨h.1, nextok _ _ h.2⟩
end
end Go.YtoeophdffhmpmaaE
end

section
set_option linter.unusedVariables false
set_option linter.unusedSimpArgs false
namespace Go.YtoeophdffhmpmaaE
open Go Go.RowKit

variable {P : Program} {B0 : Nat} {w0 : Wz} {c : Hp} {p : Nat} {o : Oper} {ts : List A} {hp : List Blk}

/-- The own heap where some of the quiet operations have been taken. -/
noncomputable def hS (nF : Nat → List Blk) (hp : List Blk) (m : Nat) (S : Nat → Bool) : Hp := fun b =>
  @ite _ (b < hp.length ∨ ∃ i, i < m ∧ S i = true ∧ (hpC nF hp i).length ≤ b ∧ b < (hpC nF hp (i + 1)).length) (Classical.propDecidable _) (hf (hpC nF hp m) b) .hole
section
variable {nF : Nat → List Blk} {m : Nat} {S S' : Nat → Bool}
theorem hS_in {b : Nat} (h : b < hp.length ∨ ∃ i, i < m ∧ S i = true ∧ (hpC nF hp i).length ≤ b ∧ b < (hpC nF hp (i + 1)).length) : hS nF hp m S b = hf (hpC nF hp m) b := by unfold hS; rw [if_pos h]
theorem hS_out {b : Nat} (h : ¬ (b < hp.length ∨ ∃ i, i < m ∧ S i = true ∧ (hpC nF hp i).length ≤ b ∧ b < (hpC nF hp (i + 1)).length)) : hS nF hp m S b = .hole := by unfold hS; rw [if_neg h]
theorem hS_none : hS nF hp m (fun _ => false) = hf hp := by
  funext b
  by_cases hb : b < hp.length
  · rw [hS_in (.inl hb)]; exact hpC_pre nF hp (Nat.zero_le m) hb
  · rw [hS_out (by rintro (h | ⟨i, _, h, _⟩); exact hb h; cases h)]
    exact (Classical.byContradiction (hf_none hp b (by omega))).symm
theorem hpC_where : ∀ m b, hp.length ≤ b → b < (hpC nF hp m).length → ∃ i, i < m ∧ (hpC nF hp i).length ≤ b ∧ b < (hpC nF hp (i + 1)).length := by
  intro m
  induction m with
  | zero => intro b h1 h2; simp only [hpC] at h2; omega
  | succ m ih =>
    intro b h1 h2
    by_cases hb : b < (hpC nF hp m).length
    · obtain ⟨i, hi, h3⟩ := ih b h1 hb
      exact ⟨i, by omega, h3⟩
    · exact ⟨m, Nat.lt_succ_self m, by omega, h2⟩
theorem hS_all (h : ∀ i, i < m → S i = true) : hS nF hp m S = hf (hpC nF hp m) := by
  funext b
  by_cases hb : b < (hpC nF hp m).length
  · by_cases hb0 : b < hp.length
    · exact hS_in (.inl hb0)
    · obtain ⟨i, hi, h3⟩ := hpC_where m b (by omega) hb
      exact hS_in (.inr ⟨i, hi, h i hi, h3⟩)
  · have e : hf (hpC nF hp m) b = .hole := Classical.byContradiction (hf_none _ b (by omega))
    unfold hS
    rw [e]; split <;> rfl
theorem hS_agree {j : Nat} (hj : j ≤ m) (b : Nat) (h1 : Live (hS nF hp m S) b) (h2 : Live (hf (hpC nF hp j)) b) : hS nF hp m S b = hf (hpC nF hp j) b := by
  have hb := live_lt h2
  rw [← hpC_pre nF hp hj hb]
  unfold Live hS at h1
  unfold hS
  split
  · rfl
  · rename_i h; rw [if_neg h] at h1; exact absurd rfl h1
theorem hS_free {j : Nat} (hj : j < m) (hSj : S j = false) (b : Nat) (h1 : (hpC nF hp j).length ≤ b) (h2 : b < (hpC nF hp j).length + (nF j).length) : ¬ Live (hS nF hp m S) b := by
  refine fun hl => hl (hS_out ?_)
  have h0 := hpC_le nF hp (Nat.zero_le j)
  simp only [hpC] at h0
  rintro (h | ⟨i, hi, hSi, h3, h4⟩)
  · omega
  · have hs : (hpC nF hp (j + 1)).length = (hpC nF hp j).length + (nF j).length := by rw [hpC, List.length_append]
    rcases Nat.lt_trichotomy i j with hlt | he | hgt
    · have := hpC_le nF hp (show i + 1 ≤ j by omega); omega
    · subst he; rw [hSi] at hSj; cases hSj
    · have := hpC_le nF hp (show j + 1 ≤ i by omega); omega
theorem hS_add {j : Nat} (hj : j < m) (hS' : S' j = true) (hne : ∀ i, i ≠ j → S' i = S i) : addH (hS nF hp m S) (hpC nF hp j).length (nF j) = hS nF hp m S' := by
  have hs : (hpC nF hp (j + 1)).length = (hpC nF hp j).length + (nF j).length := by rw [hpC, List.length_append]
  funext b
  unfold addH
  by_cases hb : (hpC nF hp j).length ≤ b ∧ b < (hpC nF hp j).length + (nF j).length
  · rw [if_pos hb, hS_in (.inr ⟨j, hj, hS', hb.1, by omega⟩), hpC_pre nF hp (show j + 1 ≤ m by omega) (by omega)]
    have : b = (hpC nF hp j).length + (b - (hpC nF hp j).length) := by omega
    rw [hpC]
    conv => rhs; rw [this]
    rw [hf_append_ge]; rfl
  · rw [if_neg hb]
    by_cases h : b < hp.length ∨ ∃ i, i < m ∧ S i = true ∧ (hpC nF hp i).length ≤ b ∧ b < (hpC nF hp (i + 1)).length
    · rw [hS_in h, hS_in ?_]
      rcases h with h | ⟨i, hi, h3, h4⟩
      · exact .inl h
      · refine .inr ⟨i, hi, ?_, h4⟩
        by_cases hij : i = j
        · subst hij; exact hS'
        · rw [hne i hij]; exact h3
    · rw [hS_out h, hS_out ?_]
      rintro (h' | ⟨i, hi, h3, h4⟩)
      · exact h (.inl h')
      · by_cases hij : i = j
        · subst hij; exact hb ⟨h4.1, by omega⟩
        · exact h (.inr ⟨i, hi, by rw [← hne i hij]; exact h3, h4⟩)
end

theorem name_tmp {all : Array Oper} {x y : Oper} {d : Nat} (hx : x.dst = some d) (hy : d ∈ y.looksAt all ∨ y.dst = some d) : nameB all x y = true := by
  unfold nameB
  rw [hx]
  simp only [Option.any_some, Bool.or_eq_true, List.contains_iff_mem, beq_iff_eq]
  exact hy

theorem any_sound (pf : PF P) {E : EqT} {env : Env} (hE : EqOk P E) (henv : EnvOk P env) {inl : Inl} (hinl : InlOk P B0 w0 inl) {r : Option Nat} {β : Bs} (hβ : BOk β r) {ops : Array Oper} {id N : Nat} {k : List A → List Blk → List Lp → Prop}
    {lp : List Lp} {Γ : Gam} {g : Gh} {w : World} {act : Act} {Q : Exit → Act → World → Prop} (hk : anyK P E env inl ops.toList ops.toList.length (List.replicate ops.toList.length false) ts hp lp k) (fr : Fr B0 w0 r β Γ g w hp lp ts act)
    (hQ : ∀ ts hp lp Γ g w act, k ts hp lp → Fr B0 w0 r β Γ g w hp lp ts act → Q .normal act w) : (Code.region id ops true).wpIn (FW r) N P Q act w := by
  refine wpIn_region_any pf.mix ?_
  have main : ∀ (fuel : Nat) (listed : List Bool) (ts : List A) (hp : List Blk) (lp : List Lp) (Γ : Gam) (g : Gh) (w : World) (act : Act), anyK P E env inl ops.toList fuel listed ts hp lp k → Fr B0 w0 r β Γ g w hp lp ts act → wpAnyIn (FW r) N P .any ops Q fuel listed.toArray act w := by
    intro fuel
    induction fuel with
    | zero =>
      intro listed ts hp lp Γ g w act hk f
      obtain ⟨h1, h2⟩ := hk
      exact ⟨by simpa using h1, hQ ts hp lp Γ g w act h2 f⟩
    | succ fuel ih =>
      intro listed ts hp lp Γ g w act hk f
      obtain ⟨rs, h1, h2⟩ := hk
      have h1 : Region.ready .any ops listed.toArray = rs := by simpa using h1
      cases rs with
      | nil => exact wpAnyIn_done h1 (hQ ts hp lp Γ g w act h2 f) _
      | cons i is =>
        refine wpAnyIn_all h1 (by simp) ?_
        have all : ∀ (is : List Nat), allK is (fun i => optK ops.toList[i]? fun o => opsS P E env inl ops.toList [o] ts hp lp fun ts hp lp => setK listed i true fun listed => anyK P E env inl ops.toList fuel listed ts hp lp k) →
            ∀ i ∈ is, wpOpIn (FW r) N P ops Q i (wpAnyIn (FW r) N P .any ops Q fuel (listed.toArray.setIfInBounds i true)) act w := by
          intro is
          induction is with
          | nil => intro _ i hi; cases hi
          | cons j is ih2 =>
            intro h i hi
            obtain ⟨q1, q2⟩ := (show _ ∧ _ from h)
            rcases List.mem_cons.1 hi with rfl | hi
            · obtain ⟨o, ho, hk3⟩ := optK_elim q1
              refine wpOpIn_step (o := o) (by simpa using ho) fun K' hK' => ?_
              have := op1_sound hE henv hinl hβ (all := ops.toList) (N := N) (Q := Q) (next := K') (fun ts hp lp Γ g w act hk f => hK' _ _ (by
                rw [setK_eq] at hk
                have := ih _ ts hp lp Γ g w act hk f
                simpa using this)) o ts hp lp Γ g w act hk3 f
              simpa using this
            · exact ih2 q2 i hi
        exact all _ h2
  have hbd : Below w.heap.size w { w with drawn := w.drawn + 1 } := ⟨rfl, rfl, rfl, Nat.le_refl _, fun _ _ => rfl⟩
  have eb0 : EB g w (hf hp) g { w with drawn := w.drawn + 1 } (hf hp) := ⟨Ev.below fr.sw hbd, rfl, fun x o h _ => h⟩
  have fr2 : Fr B0 w0 r β Γ g { w with drawn := w.drawn + 1 } hp lp ts act := fr.move (Mv.eb fr.ld eb0 (fr.sw.same hbd))
  have := main _ _ ts hp lp Γ g _ act hk fr2
  simpa using this
theorem draws_ok (pf : PF P) {E : EqT} {env : Env} (hE : EqOk P E) (henv : EnvOk P env) : DrawsOk P E env := by
  intro B0 w0 inl r β ops id N k ts hp lp Γ g w act Q hinl hβ hk fr hQ hpan
  rcases hk with ⟨m, hd, hk1⟩ | hk
  rotate_left
  · exact any_sound pf hE henv hinl hβ hk fr hQ
  obtain ⟨hml, hk2⟩ := takeK_elim hk1
  rw [dropK_eq] at hk2
  have hd0 := hd
  unfold okD at hd
  simp only [Bool.and_eq_true] at hd
  obtain ⟨⟨⟨d1, d2⟩, d3⟩, d4, d5⟩ := hd
  have hmn : m ≤ ops.size := by simpa using hml
  obtain ⟨aF, nF, hk3, hsp⟩ := opsQ_elim (B0 := B0) (w0 := w0) hE henv _ _ _ _ hk2
  have hlen : (ops.toList.take m).length = m := by simp; omega
  rw [hlen] at hk3
  have hms := masks_ok ops.toList
  have hop : ∀ j o, j < m → ops[j]? = some o → (ops.toList.take m)[j]? = some o := fun j o hj ho => by
    rw [List.getElem?_take_of_lt hj]; simpa using ho
  have hdst : ∀ j o, j < m → ops[j]? = some o → dstF (ops.toList.take m) j = o.dst := fun j o hj ho => by
    unfold dstF; rw [hop j o hj ho]; rfl
  -- the world where the order has been drawn
  have hbd : Below w.heap.size w { w with drawn := w.drawn + 1 } := ⟨rfl, rfl, rfl, Nat.le_refl _, fun _ _ => rfl⟩
  have eb0 : EB g w (hf hp) g { w with drawn := w.drawn + 1 } (hf hp) := ⟨Ev.below fr.sw hbd, rfl, fun x o h _ => h⟩
  have sw0 := fr.sw.same hbd
  -- behind the quiet ones
  have tail : ∀ (g2 : Gh) (w2 : World) (act2 : Act), EB g w (hf hp) g2 w2 (hf (hpC nF hp m)) → SW B0 w0 g2 w2 (hf (hpC nF hp m)) → TS g2 w2 (hf (hpC nF hp m)) (tsC (dstF (ops.toList.take m)) aF (fun _ => true) ts m) act2.tmps → act2.defers = act.defers →
      wpListIn (FW r) N P ops Q (ops.toList.drop m) act2 w2 := fun g2 w2 act2 e2 s2 t2 hdf => by
    have fr2 := fr.move (Mv.eb fr.ld e2 s2)
    have fr3 : Fr B0 w0 r β Γ g2 w2 (hpC nF hp m) lp (tsC (dstF (ops.toList.take m)) aF (fun _ => true) ts m) act2 := ⟨fr2.sw, fr2.ev, t2, fr2.ld, fr2.ao, fr2.gam, fun h => by rw [hdf]; exact fr2.dm h⟩
    have := ops_sound hE henv hinl hβ (all := ops.toList) (N := N) hQ (ops.toList.drop m) _ _ lp Γ g2 w2 act2 hk3 fr3
    simpa using this
  refine wpIn_region_any pf.mix ?_
  have main : ∀ (fuel : Nat) (listed : Array Bool) (g1 : Gh) (w1 : World) (act1 : Act), listed.size = ops.size → ops.size ≤ fuel + cnt (fun j => listed.getD j false) ops.size →
      (∀ j, m ≤ j → listed.getD j false = false) → (∀ (j : Nat) (o : Oper), ops[j]? = some o → listed.getD j false = true → ∀ e ∈ o.after, Region.binds .any e = true → listed.getD e.on false = true) →
      EB g w (hf hp) g1 w1 (hS nF hp m fun j => listed.getD j false) → SW B0 w0 g1 w1 (hS nF hp m fun j => listed.getD j false) →
      TS g1 w1 (hS nF hp m fun j => listed.getD j false) (tsC (dstF (ops.toList.take m)) aF (fun j => listed.getD j false) ts m) act1.tmps → act1.defers = act.defers →
      wpAnyIn (FW r) N P .any ops Q fuel listed act1 w1 := by
    intro fuel
    induction fuel with
    | zero =>
      intro listed g1 w1 act1 hsz hfu hhi hcl e1 s1 t1 hdf
      have hle := cnt_le (fun j => listed.getD j false) ops.size
      have hall := cnt_full (show cnt (fun j => listed.getD j false) ops.size = ops.size by omega)
      have hme : m = ops.size := by
        rcases Nat.lt_or_ge m ops.size with h | h
        · have := hhi m (Nat.le_refl _); have := hall m h; simp_all
        · omega
      have h1 : hS nF hp m (fun j => listed.getD j false) = hf (hpC nF hp m) := hS_all (fun i hi => hall i (by omega))
      have h2 : TS g1 w1 (hf (hpC nF hp m)) (tsC (dstF (ops.toList.take m)) aF (fun _ => true) ts m) act1.tmps := by
        refine ⟨by rw [tsC_length]; have := t1.1; rwa [tsC_length] at this, fun t => ?_⟩
        have := t1.2 t
        rw [h1] at this
        rwa [tsC_agree (S' := fun _ => true) m (fun i hi _ => hall i (by omega))] at this
      rw [h1] at e1 s1
      exact forced m hd0 0 m listed act1 w1 (Nat.le_refl _) hmn hsz (fun j hj => ⟨fun _ => by omega, fun _ => hall j hj⟩) (by omega) (tail g1 w1 act1 e1 s1 h2 hdf)
    | succ fuel ih =>
      intro listed g1 w1 act1 hsz hfu hhi hcl e1 s1 t1 hdf
      by_cases hdone : ∀ j, j < m → listed.getD j false = true
      · -- all quiet ones have been taken
        have h1 : hS nF hp m (fun j => listed.getD j false) = Go.YtoeophdffhmpmaaE.hf (hpC nF hp m) := hS_all hdone
        have h2 : TS g1 w1 (Go.YtoeophdffhmpmaaE.hf (hpC nF hp m)) (tsC (dstF (ops.toList.take m)) aF (fun _ => true) ts m) act1.tmps := by
          refine ⟨by rw [tsC_length]; have := t1.1; rwa [tsC_length] at this, fun t => ?_⟩
          have := t1.2 t
          rw [h1] at this
          rwa [tsC_agree (S' := fun _ => true) m (fun i hi _ => hdone i hi)] at this
        rw [h1] at e1 s1
        have hcm : cnt (fun j => listed.getD j false) ops.size = m := by
          have key : ∀ k, m ≤ k → cnt (fun j => listed.getD j false) k = m := by
            intro k
            induction k with
            | zero => intro h; have : m = 0 := by omega
                      subst this; rfl
            | succ k ihk =>
              intro h
              rw [cnt]
              by_cases hmk : m = k + 1
              · subst hmk
                have hfull : ∀ k', k' ≤ k + 1 → cnt (fun j => listed.getD j false) k' = k' := by
                  intro k'
                  induction k' with
                  | zero => intro _; rfl
                  | succ k' ihk' => intro h'; rw [cnt, ihk' (by omega), if_pos (hdone k' (by omega))]
                rw [hfull k (by omega), if_pos (hdone k (by omega))]
              · rw [ihk (by omega), if_neg (by rw [hhi k (by omega)]; simp)]
                rfl
          exact key ops.size hmn
        exact forced m hd0 (fuel + 1) m listed act1 w1 (Nat.le_refl _) hmn hsz (fun j hj => ⟨fun h => Classical.byContradiction (fun hn => by rw [hhi j (by omega)] at h; cases h), fun h => hdone j h⟩) (by omega) (tail g1 w1 act1 e1 s1 h2 hdf)
      · -- some quiet one is to come
        have hex : ∃ j, j < m ∧ listed.getD j false = false := by
          refine Classical.byContradiction fun hno => hdone fun j hj => ?_
          cases hv : listed.getD j false with
          | true => rfl
          | false => exact absurd ⟨j, hj, hv⟩ hno
        have hclosed : Closed ops.toList (fun j => listed.getD j false = true) := closed_listed listed hcl
        have hmin : ∃ i, i < m ∧ listed.getD i false = false ∧ i ∈ Region.ready .any ops listed := by
          have : ∀ n j, j ≤ n → j < m → listed.getD j false = false → ∃ i, i < m ∧ listed.getD i false = false ∧ i ∈ Region.ready .any ops listed := by
            intro n
            induction n using Nat.strongRecOn with
            | _ n ihn =>
              intro j hjn hjm hv
              by_cases hex2 : ∃ i, i < j ∧ listed.getD i false = false
              · obtain ⟨i, hi, hv'⟩ := hex2
                exact ihn i (by omega) i (Nat.le_refl _) (by omega) hv'
              · have hjs : j < ops.size := by omega
                refine ⟨j, hjm, hv, mem_ready.2 ⟨by rw [getD_any listed j true false (by omega)]; exact hv, ops[j], Array.getElem?_eq_getElem hjs, fun e he hb => ?_⟩⟩
                have hon := upto_spec d1 (show j < ops.toList.length by simpa using hjs)
                rw [Array.getElem?_toList, Array.getElem?_eq_getElem hjs] at hon
                simp only [Option.all_some, List.all_eq_true] at hon
                have hon := hon e (by simpa using he)
                rw [hb] at hon
                have hlt : e.on < j := by simpa using hon
                cases hv2 : listed.getD e.on false with
                | true => rfl
                | false => exact absurd ⟨e.on, hlt, hv2⟩ hex2
          obtain ⟨j, hj, hv⟩ := hex
          exact this j j (Nat.le_refl _) hj hv
        have step : ∀ j o, ops[j]? = some o → j ∈ Region.ready .any ops listed → j < m → wpOpIn (FW r) N P ops Q j (wpAnyIn (FW r) N P .any ops Q fuel (listed.setIfInBounds j true)) act1 w1 := by
          intro j o h2 hj hjm
          obtain ⟨h1, o', h2', h3'⟩ := mem_ready.1 hj
          have ho' : o' = o := by rw [h2] at h2'; exact (Option.some.inj h2').symm
          have h3 : ∀ e ∈ o.after, Region.binds .any e = true → listed.getD e.on false = true := by rw [← ho']; exact h3'
          have hjs := (Array.getElem?_eq_some_iff.1 h2).1
          have hunl : listed.getD j false = false := by rw [← getD_any listed j true false (by omega)]; exact h1
          have hS' : ∀ i, (listed.setIfInBounds j true).getD i false = if i = j then true else listed.getD i false := fun i => getD_set listed j i false (by omega)
          -- what conflicts with j stands in order
          have hbefore : ∀ i x, i < j → ops[i]? = some x → (nameB ops x o = true ∨ nameB ops o x = true) → listed.getD i false = true := fun i x hij hx hn => by
            have hb := upto_spec (upto_spec d2 hjm) hij
            rw [Array.getElem?_toList, Array.getElem?_toList, h2, hx] at hb
            simp only [Option.all_some, Bool.or_eq_true, Bool.not_eq_true', Bool.or_eq_false_iff] at hb
            rcases hb with hb | hb
            · rcases hn with hn | hn
              · have := hb.1; simp only [Array.toArray_toList] at this; rw [hn] at this; cases this
              · have := hb.2; simp only [Array.toArray_toList] at this; rw [hn] at this; cases this
            · exact hms j i o (by simpa using h2) hb _ hclosed h3
          have hafter : ∀ i x, j < i → i < m → ops[i]? = some x → (nameB ops x o = true ∨ nameB ops o x = true) → listed.getD i false = false := fun i x hji him hx hn => by
            cases hv : listed.getD i false with
            | false => rfl
            | true =>
              exfalso
              have hb := upto_spec (upto_spec d2 him) hji
              rw [Array.getElem?_toList, Array.getElem?_toList, h2, hx] at hb
              simp only [Option.all_some, Bool.or_eq_true, Bool.not_eq_true', Bool.or_eq_false_iff] at hb
              rcases hb with hb | hb
              · rcases hn with hn | hn
                · have := hb.2; simp only [Array.toArray_toList] at this; rw [hn] at this; cases this
                · have := hb.1; simp only [Array.toArray_toList] at this; rw [hn] at this; cases this
              · have := hms i j x (by simpa using hx) hb _ hclosed (fun e he hbd => hcl i x hx hv e he hbd)
                rw [hunl] at this; cases this
          have hopx : ∀ i, i < m → ∃ x, ops[i]? = some x := fun i hi => ⟨ops[i]'(by omega), Array.getElem?_eq_getElem (by omega)⟩
          have hrel : ∀ t ∈ o.looksAt ops, VR g1 w1 (hS nF hp m fun j => listed.getD j false) ((tsC (dstF (ops.toList.take m)) aF (fun _ => true) ts j).getD t .un) (act1.tmps.getD t undef) := fun t ht => by
            have h := t1.2 t
            rw [tsC_agree (S' := fun i => decide (i < j)) m ?_, tsC_cut m (by omega)] at h
            · exact h
            · intro i hi hdi
              obtain ⟨x, hx⟩ := hopx i hi
              rw [hdst i x hi hx] at hdi
              rcases Nat.lt_trichotomy i j with hlt | he | hgt
              · rw [hbefore i x hlt hx (.inl (name_tmp hdi (.inl ht)))]; simp [hlt]
              · subst he; rw [hunl]; simp
              · rw [hafter i x hgt hi hx (.inl (name_tmp hdi (.inl ht)))]; simp; omega
          have hstep := hsp j o (hop j o hjm h2) r g1 w1 (hS nF hp m fun j => listed.getD j false) act1 N (wpAnyIn (FW r) N P .any ops Q fuel (listed.setIfInBounds j true)) Q s1
            (fun b hb hc => hS_agree (by omega) b hb hc) (fun b hb hc => hS_free hjm hunl b hb hc) (by simpa using hrel) ?_
          · unfold wpOpIn
            rw [h2]
            simpa using hstep
          · intro v w' g' e2 s2 hv
            have hadd := hS_add (nF := nF) (hp := hp) (m := m) (S := fun j => listed.getD j false) (S' := fun i => (listed.setIfInBounds j true).getD i false) hjm (by simp only [hS']; simp) (fun i hi => by simp only [hS']; simp [hi])
            rw [hadd] at e2 s2 hv
            refine ih _ g' w' _ (by simpa using hsz) ?_ (fun i hi => ?_) (fun i x hx hl e he hb => ?_) (e1.trans e2) s2 ?_ ?_
            · have := cnt_set (p := fun j => listed.getD j false) (q := fun i => (listed.setIfInBounds j true).getD i false) (i := j) hunl (by simp only [hS']; simp) (fun i hi => by simp only [hS']; simp [hi]) hjs
              omega
            · rw [hS', if_neg (by omega)]; exact hhi i hi
            · rw [hS'] at hl ⊢
              by_cases hij : i = j
              · subst hij
                have hxo : x = o := by rw [h2] at hx; exact (Option.some.inj hx).symm
                subst hxo
                have := h3 e he hb
                split
                · rfl
                · exact this
              · rw [if_neg hij] at hl
                have := hcl i x hx hl e he hb
                split
                · rfl
                · exact this
            · have ht2 : TS g' w' (hS nF hp m fun i => (listed.setIfInBounds j true).getD i false) (stp (dstF (ops.toList.take m) j) (aF j) (tsC (dstF (ops.toList.take m)) aF (fun j => listed.getD j false) ts m)) (act1.put o.dst v).tmps := by
                rw [hdst j o hjm h2]
                have := t1.mono e2.toEv
                cases hod : o.dst with
                | none => exact this
                | some d => exact this.put hv d
              refine ⟨by rw [tsC_length]; have := ht2.1; rwa [stp_length, tsC_length] at this, fun t => ?_⟩
              have := ht2.2 t
              rwa [← tsC_put hjm (S' := fun i => (listed.setIfInBounds j true).getD i false) (by simp only [hS']; simp) (fun i hi => by simp only [hS']; simp [hi]) (fun i hji him t hdj hdi => ?_)] at this
              obtain ⟨x, hx⟩ := hopx i him
              rw [hdst i x him hx] at hdi
              rw [hdst j o hjm h2] at hdj
              exact hafter i x hji him hx (.inl (name_tmp hdi (.inr hdj)))
            · cases hod : o.dst <;> exact hdf
        have hcalm : ∀ (j : Nat) (o : Oper), ops[j]? = some o → calmOp o = true := fun j o ho => List.all_eq_true.1 d5 o (by simpa using Array.mem_of_getElem? ho)
        by_cases hflo : ∃ i o, ops[i]? = some o ∧ i ∈ Region.ready .any ops listed ∧ i < m ∧ floB ops.toList (masks ops.toList []) i = true
        · obtain ⟨i, o, h2, hj, him, hfl⟩ := hflo
          unfold floB at hfl
          rw [Array.getElem?_toList, h2] at hfl
          simp only [Option.any_some, Bool.and_eq_true] at hfl
          obtain ⟨hwl, hfl⟩ := hfl
          obtain ⟨v, hy, hkk⟩ := take_of_step h2 hwl (step i o h2 hj him)
          obtain ⟨_, o', h2', h3'⟩ := mem_ready.1 hj
          have ho' : o' = o := by rw [h2] at h2'; exact (Option.some.inj h2').symm
          refine wpAnyIn_firstW h2 hcalm hpan fuel listed act1 w1 (fun j oj hoj hji hun hno => ?_) hj hy hkk
          have hjs := (Array.getElem?_eq_some_iff.1 hoj).1
          have hb := upto_spec hfl (show j < ops.toList.length by simpa using hjs)
          rw [Array.getElem?_toList, hoj] at hb
          simp only [Option.all_some, Bool.or_eq_true, beq_iff_eq] at hb
          rcases hb with hb | (hb | hb) | hb
          · exact absurd hb hji
          · rw [List.any_eq_true] at hb
            obtain ⟨e, he, heb⟩ := hb
            simp only [Bool.and_eq_true, beq_iff_eq] at heb
            exact absurd heb.2 (hno e (by simpa using he) heb.1)
          · have := hms i j o (by simpa using h2) hb _ hclosed (by rw [← ho']; exact h3')
            rw [getD_any listed j true false (by omega), this] at hun; cases hun
          · simpa using hb
        · refine ⟨fun hnil => ?_, fun j hj => ?_⟩
          · obtain ⟨i, _, _, hi⟩ := hmin
            rw [hnil] at hi; cases hi
          · obtain ⟨h1, o, h2, h3⟩ := mem_ready.1 hj
            have hjs := (Array.getElem?_eq_some_iff.1 h2).1
            refine step j o h2 hj ?_
            rcases Nat.lt_or_ge j m with h | h
            · exact h
            · exfalso
              have hb := upto_spec d3 (show j < ops.toList.length by simpa using hjs)
              simp only [Bool.or_eq_true] at hb
              obtain ⟨i, hi, hv, hir⟩ := hmin
              rcases hb with hb | hb
              · have : j < m := Nat.le_of_ble_eq_true hb
                omega
              · have hb2 := upto_spec hb (show i < j by omega)
                simp only [Bool.or_eq_true, Bool.and_eq_true] at hb2
                rcases hb2 with hb2 | hb2
                · have := hms j i o (by simpa using h2) hb2 _ hclosed h3
                  rw [hv] at this; cases this
                · exact hflo ⟨i, ops[i]'(by omega), Array.getElem?_eq_getElem (by omega), hir, hi, hb2.2⟩
  have hf0 : ∀ j, (Array.replicate ops.size false).getD j false = false := fun j => by
    by_cases h : j < ops.size <;> simp [Array.getD, h]
  have hS0 : hS nF hp m (fun j => (Array.replicate ops.size false).getD j false) = hf hp := by
    have : (fun j => (Array.replicate ops.size false).getD j false) = fun _ => false := funext hf0
    rw [this, hS_none]
  refine main ops.size _ g _ act (by simp) (by omega) (fun j _ => hf0 j) (fun j o _ h => by rw [hf0] at h; cases h) (by rw [hS0]; exact eb0) (by rw [hS0]; exact sw0) ?_ rfl
  rw [hS0]
  refine ⟨by rw [tsC_length]; exact fr.ts.1, fun t => ?_⟩
  rw [tsC_agree (S' := fun i => decide (i < 0)) m (fun i _ _ => by rw [hf0]; simp), tsC_cut m (Nat.zero_le _)]
  exact (fr.ts.2 t).mono eb0.toEv

theorem pure_of (pf : PF P) {E : EqT} {env : Env} (hE : EqOk P E) (henv : EnvOk P env) {f n : Nat} {as : List A} {r : Res} (hk : fnK P E env f n as fun a hp => expK hp a r) : Pure P f as r :=
  pure_of_run pf hE henv (draws_ok pf hE henv) hk

end Go.YtoeophdffhmpmaaE
end

section
set_option linter.unusedVariables false
set_option linter.unusedSimpArgs false
namespace Go.YtoeophdffhmpmaaE
open Go Go.RowKit

/-- Of a size that memory may hold. -/
inductive Sz : A → Prop
  | v (x) : Sz (.v x)
  | agg (xs) (h : ∀ i, i < xs.length → Sz (xs.getD i .un)) : Sz (.agg xs)
  | tup (xs) (h : ∀ i, i < xs.length → Sz (xs.getD i .un)) : Sz (.tup xs)
  | pt (b ver es i fo) : Sz (.pt b ver es i fo)
  | sl (b ver es i len) : Sz (.sl b ver es i len)
  | ro (els) (hl : els.length ≤ maxLen) (h : ∀ i j, i < els.length → j < (els.getD i []).length → Sz ((els.getD i []).getD j .un)) : Sz (.ro els)
  | rp (cells) (h : ∀ i, i < cells.length → Sz (cells.getD i .un)) : Sz (.rp cells)
  | cz : Sz .cz
  | fn (f fst cap) (h : ∀ i, i < cap.length → Sz (cap.getD i .un)) : Sz (.fn f fst cap)
  | yl (i) : Sz (.yl i)
  | un : Sz .un
theorem VR.sz {g : Gh} {w : World} {h : Hp} {a : A} {x : Value} (r : VR g w h a x) : Sz a := by
  induction r with
  | un x => exact .un
  | v x h1 => exact .v x
  | agg xs vs hl _ ih => exact .agg xs ih
  | tup xs vs hl _ ih => exact .tup xs ih
  | pt b ver es i fo x h1 hb hv he hx => exact .pt ..
  | sl b ver es i len x h1 hb hv he hx => exact .sl ..
  | ro els a cap es blk off vals h0 hes hc _ hn hcap ih => exact .ro els hcap.2 (fun i j hi hj => ih i j hi (by rw [hes _ (getD_mem _ _ _ hi)] at hj; exact hj))
  | rp cells blk off vals hI hc _ hn ih => exact .rp cells ih
  | cz a => exact .cz
  | fn f fst cap fs vs hl0 hl _ _ ih0 ih => exact .fn f fst cap ih
  | yl i l hl => exact .yl i
theorem Sz.len {els : List (List A)} (h : Sz (.ro els)) : els.length ≤ maxLen := by cases h; assumption

variable {P : Program}
/-- Contracts that are known. -/
noncomputable def envL (P : Program) (L : List Nat) : Env := fun f => match memB f L with | true => some (Pure P f) | false => none
theorem envL_ok (pf : PF P) {L : List Nat} (hL : ∀ f ∈ L, ((P.funcs[f]?).bind (·.body)).isSome = true) : EnvOk P (envL P L) := by
  have mem : ∀ f, memB f L = true → f ∈ L := fun f h => by
    induction L with
    | nil => cases h
    | cons g L ih =>
      change (match Nat.beq f g with | true => true | false => memB f L) = true at h
      cases hb : Nat.beq f g with
      | true => rw [Nat.eq_of_beq_eq_true hb]; simp
      | false => rw [hb] at h; exact List.mem_cons_of_mem _ (ih (fun f hf => hL f (List.mem_cons_of_mem _ hf)) h)
  have cs : ∀ f T, envL P L f = some T → f ∈ L ∧ T = Pure P f := fun f T h => by
    unfold envL at h
    cases hm : memB f L with
    | true => rw [hm] at h; exact ⟨mem f hm, (Option.some.inj h).symm⟩
    | false => rw [hm] at h; cases h
  refine ⟨fun f T h => ?_, fun f T h as r hr => by rw [(cs f T h).2] at hr; exact hr⟩
  have h1 := hL f (cs f T h).1
  cases hf : P.funcs[f]? with
  | none => rw [hf] at h1; cases h1
  | some fn =>
    rw [hf] at h1
    cases hb : fn.body with
    | none => simp [hb] at h1
    | some c => exact enters_pf pf hf hb
/-- THE CONTRACT OF A FUNCTION, OUT OF ITS RUN; sizes are as memory has them. -/
theorem pure_sz (pf : PF P) {E : EqT} {env : Env} (hE : EqOk P E) (henv : EnvOk P env) {f : Nat} {as : List A} {r : Res} (hk : (∀ i, i < as.length → Sz (as.getD i .un)) → ∃ n, fnK P E env f n as fun a hp => expK hp a r) : Pure P f as r := by
  intro w I vs hI harel
  obtain ⟨n, hn⟩ := hk (fun i hi => (harel.2 i hi).sz)
  exact pure_of pf hE henv hn w I vs hI harel
theorem eqOk_none : EqOk P (fun _ => none) := fun t cks h => by cases h

/-- Whole numbers in a row. -/
def ints (xs : List Int) : List (List A) := xs.map fun x => [.v (.int .i64 x)]
theorem ints_length (xs : List Int) : (ints xs).length = xs.length := by simp [ints]
theorem ints_get (xs : List Int) (i : Nat) (h : i < xs.length) : (ints xs)[i]? = some [.v (.int .i64 xs[i])] := by simp [ints, h]
theorem wrap64 {n : Int} (h1 : -9223372036854775808 ≤ n) (h2 : n ≤ 9223372036854775807) : IntKind.i64.wrap n = n := by
  simp [IntKind.wrap, IntKind.bits, IntKind.signed]
  omega
end Go.YtoeophdffhmpmaaE
end

section
set_option linter.unusedVariables false
set_option linter.unusedSimpArgs false
namespace Go.YtoeophdffhmpmaaE
open Go Go.RowKit

variable {P : Program}

/-- The kinds of a struct's cells, if it is flat. -/
def flatFs (P : Program) : List Field → Nat → Option (List (Option IntKind))
  | [], _ => some []
  | f :: fs, off => if f.name ≠ "_" ∧ f.offset = off then
      match P.underlying f.type with
      | some (.int k) => (flatFs P fs (off + 1)).map (some k :: ·)
      | some .bool => (flatFs P fs (off + 1)).map (none :: ·)
      | _ => none
    else none
theorem run_part_one {t : TypeId} {d : TypeDesc} (hu : P.underlying t = some d) (hd : isAggD d = false) (vs : Array Value) (off : Nat) (v : Value) (hv : vs[off]? = some v) (w : World) : (part t vs off).run P w = .ok v w := by
  have hag := run_isAgg hu
  have : (match d with | .struct _ | .array _ _ => true | _ => false) = false := by cases d <;> first | rfl | cases hd
  cases d <;> first
    | (cases hd; done)
    | simp [part, hag, hv, isAggD]
theorem eqFields_flat {n : Nat} {w : World} : ∀ (fs : List Field) (off : Nat) (cks : List (Option IntKind)) (vs us : List Value) (b : Bool) (xs ys : Array Value), flatFs P fs off = some cks → CkEq cks vs us b →
    (∀ i, i < vs.length → xs[off + i]? = vs[i]?) → (∀ i, i < us.length → ys[off + i]? = us[i]?) → (Op.eqFields (n + 1) xs ys fs).run P w = .ok b w := by
  intro fs
  induction fs with
  | nil =>
    intro off cks vs us b xs ys hf hc _ _
    simp only [flatFs, Option.some.injEq] at hf
    subst hf
    cases hc
    rfl
  | cons f fs ih =>
    intro off cks vs us b xs ys hf hc hx hy
    unfold flatFs at hf
    split at hf
    · rename_i hno
      obtain ⟨hn, ho⟩ := hno
      have step : ∀ (ck : Option IntKind) (d : TypeDesc) (cks' : List (Option IntKind)) (a b' : Value) (vs' us' : List Value) (e c : Bool), P.underlying f.type = some d → isAggD d = false → flatFs P fs (off + 1) = some cks' → CkEq cks' vs' us' c →
          vs = a :: vs' → us = b' :: us' → (Op.equalIn (n + 1) f.type a b').run P w = .ok e w → b = (e && c) → (Op.eqFields (n + 1) xs ys (f :: fs)).run P w = .ok b w := by
        intro ck d cks' a b' vs' us' e c hu hd hf' hc' hvs hus heq hb
        subst hvs hus hb
        have h1 := hx 0 (by simp)
        have h2 := hy 0 (by simp)
        simp only [Nat.add_zero, List.getElem?_cons_zero] at h1 h2
        have hrest := ih (off + 1) cks' vs' us' c xs ys hf' hc' (fun i hi => by have := hx (i + 1) (by simp; omega); rw [show off + 1 + i = off + (i + 1) by omega]; simpa using this) (fun i hi => by have := hy (i + 1) (by simp; omega); rw [show off + 1 + i = off + (i + 1) by omega]; simpa using this)
        simp only [Op.eqFields]
        rw [if_pos hn, ho]
        simp only [Sem.run_bind, run_part_one hu hd xs off a h1 w, run_part_one hu hd ys off b' h2 w, heq, Result.andThen_ok, Sem.run_ite]
        cases e
        · simp
        · simpa using hrest
      cases hu : P.underlying f.type with
      | none => rw [hu] at hf; cases hf
      | some d =>
        rw [hu] at hf
        cases d <;> try (cases hf; done)
        · simp only [Option.map_eq_some_iff] at hf
          obtain ⟨cks', h1, rfl⟩ := hf
          cases hc with
          | bool h => rename_i a' b' _ _ _; exact step none _ cks' _ _ _ _ _ _ hu rfl h1 h rfl rfl (run_equalIn_bool' w n f.type _ _ hu) rfl
        · rename_i k
          simp only [Option.map_eq_some_iff] at hf
          obtain ⟨cks', h1, rfl⟩ := hf
          cases hc with
          | int h => exact step (some k) _ cks' _ _ _ _ _ _ hu rfl h1 h rfl rfl (run_equalIn_int w n f.type k k _ _ hu) rfl
    · cases hf
/-- Flat structs, told by their types. -/
noncomputable def eqL (P : Program) (ts : List Nat) : EqT := fun t => match memB t ts with | true => flatFs P (P.fieldsOf t).toList 0 | false => none
theorem eqL_ok {ts : List Nat} (h : ∀ t ∈ ts, P.eqGuardType P.depth t = false ∧ P.underlying t = some (.struct (P.fieldsOf t)) ∧ P.stoodInHeld t = false) : EqOk P (eqL P ts) := by
  intro t cks ht
  unfold eqL at ht
  cases hm : memB t ts with
  | false => rw [hm] at ht; cases ht
  | true =>
    rw [hm] at ht
    have mem : ∀ L : List Nat, memB t L = true → t ∈ L := fun L => by
      induction L with
      | nil => intro h; cases h
      | cons g L ih =>
        intro h
        change (match Nat.beq t g with | true => true | false => memB t L) = true at h
        cases hb : Nat.beq t g with
        | true => rw [Nat.eq_of_beq_eq_true hb]; simp
        | false => rw [hb] at h; exact List.mem_cons_of_mem _ (ih h)
    obtain ⟨h1, h2, h3⟩ := h t (mem ts hm)
    refine ⟨h1, fun w xs ys b hc => ?_⟩
    show (Op.equalIn (9999 + 1) t (.agg xs.toArray) (.agg ys.toArray)).run P w = _
    rw [run_equalIn_struct w 9999 t _ _ h2 h3]
    exact eqFields_flat (n := 9998) (P.fieldsOf t).toList 0 cks xs ys b xs.toArray ys.toArray ht hc (fun i hi => by simp) (fun i hi => by simp)
end Go.YtoeophdffhmpmaaE
end
