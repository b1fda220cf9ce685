/- The engine: frames, loops' records, regions. -/
import Derived.Test.YtoeophdffhmpmaaE17
set_option linter.unusedVariables false
set_option linter.unusedSimpArgs false
namespace Go.YtoeophdffhmpmaaE
open Go Go.RowKit

variable {P : Program} {B0 : Nat} {w0 : Wz} {c : Hp} {p : Nat} {o : Oper} {ts : List A} {hp : List Blk}

def exE : Ex → Exit
  | .normal => .normal
  | .exit i => .exit i
  | .ret => .ret
def exC : Ex → Code
  | .normal => .skip
  | .exit i => .exit i
  | .ret => .ret
/-- How a loop's record lies. -/
def LSt (q : Rd × Loop) : Lp → Option Obj → Prop
  | .over, o => ∃ r, o = some (.loop r)
  | .ready rd, o => rd = q.1 ∧ o = some (.loop { q.2 with state := .ready, pending := none })
  | .busy rd, o => rd = q.1 ∧ o = some (.loop { q.2 with state := .busy, pending := none })
  | .done e, o => e ≠ .normal ∧ o = some (.loop { q.2 with state := .done, pending := some (exC e) })
theorem LSt.loop {q : Rd × Loop} {s : Lp} {o : Option Obj} (h : LSt q s o) : ∃ r, o = some (.loop r) := by
  cases s with
  | over => exact h
  | ready rd => exact ⟨_, h.2⟩
  | busy rd => exact ⟨_, h.2⟩
  | done e => exact ⟨_, h.2⟩
abbrev Gam := Nat → Rd × Loop
structure LD (B0 : Nat) (Γ : Gam) (lp : List Lp) (g : Gh) (w : World) : Prop where
  lo : ∀ l ∈ g.ls, B0 ≤ l
  len : g.ls.length = lp.length
  nd : g.ls.Nodup
  st : ∀ (i l : Nat) (s : Lp), g.ls[i]? = some l → lp[i]? = some s → LSt (Γ i) s w.heap[l]?
def Act1 (lp : List Lp) (i : Nat) (rd : Rd) : Prop := lp[i]? = some (.ready rd) ∨ lp[i]? = some (.busy rd)
/-- What runs on was running before. -/
def AO (lp lp' : List Lp) : Prop := lp.length ≤ lp'.length ∧ ∀ i rd, Act1 lp' i rd → Act1 lp i rd
theorem AO.refl (lp : List Lp) : AO lp lp := ⟨Nat.le_refl _, fun _ _ h => h⟩
theorem AO.trans {a b c : List Lp} (h : AO a b) (h' : AO b c) : AO a c := ⟨Nat.le_trans h.1 h'.1, fun i rd hh => h.2 i rd (h'.2 i rd hh)⟩
/-- A loop's record fits what is known of it. -/
def Fit (q : Rd × Loop) (g : Gh) (w : World) (h : Hp) : Prop :=
  q.2.params.toList = q.1.params ∧ q.2.assign = q.1.assign ∧ q.2.body = q.1.body ∧ TS g w h q.1.ts q.2.tmps
theorem LD.loop {Γ : Gam} {lp : List Lp} {g : Gh} {w : World} (h : LD B0 Γ lp g w) {l : Nat} (hl : l ∈ g.ls) : ∃ r, w.heap[l]? = some (.loop r) := by
  obtain ⟨i, hi, rfl⟩ := List.getElem_of_mem hl
  have h1 : g.ls[i]? = some g.ls[i] := List.getElem?_eq_getElem hi
  have h2 : i < lp.length := by rw [← h.len]; exact hi
  exact (h.st i _ lp[i] h1 (List.getElem?_eq_getElem h2)).loop

/-- How a frame began. -/
structure Bs where
  g : Gh
  w : World
  h : Hp
  lp : List Lp
  Γ : Gam
  nb : Nat
structure BOk (β : Bs) (r : Option Nat) : Prop where
  fit : ∀ i rd, Act1 β.lp i rd → Fit (β.Γ i) β.g β.w β.h
  live : ∀ b, Live β.h b → b < β.nb
  len : β.g.ls.length = β.lp.length
  lt : ∀ l ∈ β.g.ls, l < β.w.heap.size
  rnd : ∀ l, r = some l → l ∈ β.g.ls

def markOf (D : Nat) : Deferred := { target := .collected D, args := #[] }
/-- The marks of a frame's loops. -/
def DM (s0 : Nat) (w : World) (ds : List Deferred) : Prop :=
  ∃ Ds : List Nat, ds = Ds.map markOf ∧ Ds.Nodup ∧ ∀ D ∈ Ds, s0 ≤ D ∧ w.heap[D]? = some (.deferred (some []))

/-- From one state to a later one. -/
structure Mv (B0 : Nat) (w0 : Wz) (g : Gh) (w : World) (hp : List Blk) (lp : List Lp) (Γ : Gam) (g' : Gh) (w' : World) (hp' : List Blk) (lp' : List Lp) (Γ' : Gam) : Prop where
  ev : EW g w (hf hp) g' w' (hf hp')
  sw : SW B0 w0 g' w' (hf hp')
  ld : LD B0 Γ' lp' g' w'
  ao : AO lp lp'
  gam : ∀ i, i < lp.length → Γ' i = Γ i
theorem Mv.trans {g g1 g2 : Gh} {w w1 w2 : World} {h h1 h2 : List Blk} {l l1 l2 : List Lp} {Γ Γ1 Γ2 : Gam} (a : Mv B0 w0 g w h l Γ g1 w1 h1 l1 Γ1) (b : Mv B0 w0 g1 w1 h1 l1 Γ1 g2 w2 h2 l2 Γ2) : Mv B0 w0 g w h l Γ g2 w2 h2 l2 Γ2 :=
  ⟨a.ev.trans b.ev, b.sw, b.ld, a.ao.trans b.ao, fun i hi => (b.gam i (Nat.lt_of_lt_of_le hi a.ao.1)).trans (a.gam i hi)⟩
theorem LD.eb {Γ : Gam} {lp : List Lp} {g g' : Gh} {w w' : World} {h h' : Hp} (ld : LD B0 Γ lp g w) (e : EB g w h g' w' h') : LD B0 Γ lp g' w' := by
  refine ⟨by rw [e.lse]; exact ld.lo, by rw [e.lse]; exact ld.len, by rw [e.lse]; exact ld.nd, fun i l s h1 h2 => ?_⟩
  rw [e.lse] at h1
  have h3 := ld.st i l s h1 h2
  obtain ⟨r, hr⟩ := h3.loop
  rw [e.oth l _ hr rfl, ← hr]
  exact h3
theorem Mv.eb {g g' : Gh} {w w' : World} {hp hp' : List Blk} {lp : List Lp} {Γ : Gam} (ld : LD B0 Γ lp g w) (e : EB g w (hf hp) g' w' (hf hp')) (s : SW B0 w0 g' w' (hf hp')) : Mv B0 w0 g w hp lp Γ g' w' hp' lp Γ :=
  ⟨e.toEW, s, ld.eb e, AO.refl _, fun _ _ => rfl⟩

/-- A FRAME UNDER WAY. -/
structure Fr (B0 : Nat) (w0 : Wz) (r : Option Nat) (β : Bs) (Γ : Gam) (g : Gh) (w : World) (hp : List Blk) (lp : List Lp) (ts : List A) (act : Act) : Prop where
  sw : SW B0 w0 g w (hf hp)
  ev : EW β.g β.w β.h g w (hf hp)
  ts : TS g w (hf hp) ts act.tmps
  ld : LD B0 Γ lp g w
  ao : AO β.lp lp
  gam : ∀ i, i < β.lp.length → Γ i = β.Γ i
  dm : r = none → DM β.w.heap.size w act.defers
theorem DM.ew {s0 : Nat} {Γ : Gam} {lp : List Lp} {g g' : Gh} {w w' : World} {h h' : Hp} {ds : List Deferred} (dm : DM s0 w ds) (ld : LD B0 Γ lp g w) (e : EW g w h g' w' h') : DM s0 w' ds := by
  obtain ⟨Ds, h1, h2, h3⟩ := dm
  refine ⟨Ds, h1, h2, fun D hD => ⟨(h3 D hD).1, e.oth D _ (h3 D hD).2 rfl (fun hm => ?_)⟩⟩
  obtain ⟨r, hr⟩ := ld.loop hm
  rw [(h3 D hD).2] at hr
  cases hr
theorem TS.put {g : Gh} {w : World} {h : Hp} {vs : Array Value} (t : TS g w h ts vs) {a : A} {v : Value} (r : VR g w h a v) (d : Nat) : TS g w h (ts.set d a) (vs.setIfInBounds d v) := by
  refine ⟨by simpa using t.1, fun i => ?_⟩
  have := t.2 i
  simp only [List.getD_eq_getElem?_getD, Array.getD_eq_getD_getElem?] at this ⊢
  by_cases hi : i = d
  · subst hi
    by_cases hl : i < ts.length
    · have hl2 : i < vs.size := by rw [← t.1]; exact hl
      simpa [hl, hl2] using r
    · have hl2 : ¬ i < vs.size := by rw [← t.1]; exact hl
      simpa [hl, hl2] using this
  · rw [List.getElem?_set_ne (fun e => hi e.symm), Array.getElem?_setIfInBounds_ne (fun e => hi e.symm)]
    exact this
theorem Fr.move {r : Option Nat} {β : Bs} {Γ Γ' : Gam} {g g' : Gh} {w w' : World} {hp hp' : List Blk} {lp lp' : List Lp} {act : Act} (f : Fr B0 w0 r β Γ g w hp lp ts act) (m : Mv B0 w0 g w hp lp Γ g' w' hp' lp' Γ') :
    Fr B0 w0 r β Γ' g' w' hp' lp' ts act :=
  ⟨m.sw, f.ev.trans m.ev, f.ts.mono m.ev.toEv, m.ld, f.ao.trans m.ao, fun i hi => (m.gam i (Nat.lt_of_lt_of_le hi f.ao.1)).trans (f.gam i hi), fun h => (f.dm h).ew f.ld m.ev⟩
theorem Fr.put {r : Option Nat} {β : Bs} {Γ : Gam} {g : Gh} {w : World} {hp : List Blk} {lp : List Lp} {act : Act} (f : Fr B0 w0 r β Γ g w hp lp ts act) {a : A} {v : Value} (hv : VR g w (hf hp) a v) (dst : Option Nat) :
    Fr B0 w0 r β Γ g w hp lp (match dst with | none => ts | some d => ts.set d a) (act.put dst v) := by
  cases dst with
  | none => exact f
  | some d => exact ⟨f.sw, f.ev, f.ts.put hv d, f.ld, f.ao, f.gam, f.dm⟩
theorem ev_sound {g : Gh} {w : World} {h : Hp} {act : Act} (t : TS g w h ts act.tmps) (x : Operand) : VR g w h (ev ts x) (act.eval x) := by
  cases x with
  | tmp n => exact t.2 n
  | const v => exact VR.ofVal ..
  | global n => exact .un _
  | func f => exact .fn f [] [] #[] #[] rfl rfl (fun i hi => by simp at hi) (fun i hi => by simp at hi)

/-- WHAT IS WALKED IN PLACE, FROM A CALL ON. -/
def InlOk (P : Program) (B0 : Nat) (w0 : Wz) (inl : Inl) : Prop :=
  ∀ (r : Option Nat) (β : Bs) (Γ : Gam) (g : Gh) (w : World) (hp : List Blk) (lp : List Lp) (ts : List A) (act : Act) (fv : A) (as : List A) (kk : K3) (o : Oper) (cl : Call) (x : Operand) (N : Nat) (next : Act → World → Prop) (Q : Exit → Act → World → Prop),
    BOk β r → Fr B0 w0 r β Γ g w hp lp ts act → inl fv as hp lp kk → o.op = .call cl → cl.callee = .value x → fv = ev ts x → as = cl.args.toList.map (ev ts) →
    (∀ a hp' lp' Γ' g' w' v, kk a hp' lp' → Mv B0 w0 g w hp lp Γ g' w' hp' lp' Γ' → VR g' w' (hf hp') a v → next (act.put o.dst v) w') →
    o.wpIn (FW r) N P act w next Q

theorem ops_sound {E : EqT} {env : Env} (hE : EqOk P E) (henv : EnvOk P env) {inl : Inl} (hinl : InlOk P B0 w0 inl) {r : Option Nat} {β : Bs} (hβ : BOk β r) {all : List Oper} {N : Nat} {Q : Exit → Act → World → Prop} {k : List A → List Blk → List Lp → Prop}
    (hQ : ∀ ts hp lp Γ g w act, k ts hp lp → Fr B0 w0 r β Γ g w hp lp ts act → Q .normal act w) :
    ∀ (os : List Oper) (ts : List A) (hp : List Blk) (lp : List Lp) (Γ : Gam) (g : Gh) (w : World) (act : Act), opsS P E env inl all os ts hp lp k → Fr B0 w0 r β Γ g w hp lp ts act → wpListIn (FW r) N P all.toArray Q os act w := by
  intro os
  induction os with
  | nil => exact fun ts hp lp Γ g w act hk f => hQ ts hp lp Γ g w act hk f
  | cons o os ih =>
    intro ts hp lp Γ g w act hk f
    have one : opS P E env inl hp lp ts o.op (fun a hp lp => putK ts o.dst a fun ts => opsS P E env inl all os ts hp lp k) → o.wpIn (FW r) N P act w (wpListIn (FW r) N P all.toArray Q os) Q := fun h => by
      rcases opS_sound (B0 := B0) (w0 := w0) hE henv h with h1 | ⟨cl, x, h1, h2, h3⟩
      · refine h1 r g w act N _ Q f.sw (fun x _ => ev_sound f.ts x) fun a hp' v w' g' hk2 e s hv => ?_
        dsimp only at hk2
        rw [putK_eq] at hk2
        exact ih _ hp' lp Γ g' w' _ hk2 ((f.move (Mv.eb f.ld e s)).put hv o.dst)
      · refine hinl r β Γ g w hp lp ts act _ _ _ o cl x N _ Q hβ f h3 h1 h2 rfl rfl fun a hp' lp' Γ' g' w' v hk2 m hv => ?_
        rw [putK_eq] at hk2
        exact ih _ hp' lp' Γ' g' w' _ hk2 ((f.move m).put hv o.dst)
    have skip : putK ts o.dst (.tup []) (fun ts => opsS P E env inl all os ts hp lp k) → (∀ f, o.about P w act.eval = some f → (FW r).fn f) ∧ wpListIn (FW r) N P all.toArray Q os (act.put o.dst undef) w := fun h => by
      refine ⟨fun _ _ => trivial, ?_⟩
      rw [putK_eq] at h
      exact ih _ hp lp Γ g w _ h (f.put (.tup [] #[] rfl (fun i hi => by simp at hi)) o.dst)
    unfold wpListIn
    change (match o.guard with
      | none => opS P E env inl hp lp ts o.op fun a hp lp => putK ts o.dst a fun ts => opsS P E env inl all os ts hp lp k
      | some g => optK ((all[g.1]?).bind (·.dst)) fun d => match ts.getD d .un with
        | .v (.bool b) => match g.2 with
          | true => cndK b (opS P E env inl hp lp ts o.op fun a hp lp => putK ts o.dst a fun ts => opsS P E env inl all os ts hp lp k) (putK ts o.dst (.tup []) fun ts => opsS P E env inl all os ts hp lp k)
          | false => cndK b (putK ts o.dst (.tup []) fun ts => opsS P E env inl all os ts hp lp k) (opS P E env inl hp lp ts o.op fun a hp lp => putK ts o.dst a fun ts => opsS P E env inl all os ts hp lp k)
        | .tup _ => putK ts o.dst (.tup []) fun ts => opsS P E env inl all os ts hp lp k
        | _ => False) at hk
    cases hg : o.guard with
    | none =>
      rw [hg] at hk
      simp only [Region.wanted, hg, if_true]
      exact one hk
    | some q =>
      obtain ⟨j, want⟩ := q
      rw [hg] at hk
      obtain ⟨d, hd, hk2⟩ := optK_elim hk
      have hy : yielded all.toArray act.tmps j = match act.tmps[d]? with | some (.bool b) => some b | _ => none := by
        have hd' : (all.toArray[j]?).bind (·.dst) = some d := by simpa using hd
        simp only [yielded, hd', Option.bind_some]
        rfl
      have hv := f.ts.2 d
      rw [Array.getD_eq_getD_getElem?] at hv
      cases ht : ts.getD d .un <;> rw [ht] at hk2 hv <;> try exact hk2.elim
      · rename_i x
        cases x <;> try exact hk2.elim
        rename_i b
        have hb := hv.bool_inv
        have hb2 : act.tmps[d]? = some (.bool b) := by
          cases h : act.tmps[d]? with
          | none => rw [h] at hb; simp [undef] at hb
          | some y => rw [h] at hb; simpa using hb
        simp only [Region.wanted, hg, hy, hb2]
        cases want <;> cases b <;> first
          | (rw [if_pos (by rfl)]; exact one hk2)
          | (rw [if_neg (by simp)]; exact skip hk2)
      · rename_i xs
        have hn : (match act.tmps[d]? with | some (.bool b) => some b | _ => none) = none := by
          cases h : act.tmps[d]? with
          | none => rfl
          | some y =>
            rw [h] at hv
            simp only [Option.getD_some] at hv
            cases hv
            rfl
        simp only [Region.wanted, hg, hy, hn]
        rw [if_neg (by simp)]
        exact skip hk2

theorem op1_sound {E : EqT} {env : Env} (hE : EqOk P E) (henv : EnvOk P env) {inl : Inl} (hinl : InlOk P B0 w0 inl) {r : Option Nat} {β : Bs} (hβ : BOk β r) {all : List Oper} {N : Nat} {Q : Exit → Act → World → Prop} {k : List A → List Blk → List Lp → Prop}
    {next : Act → World → Prop} (hn : ∀ ts hp lp Γ g w act, k ts hp lp → Fr B0 w0 r β Γ g w hp lp ts act → next act w)
    (o : Oper) (ts : List A) (hp : List Blk) (lp : List Lp) (Γ : Gam) (g : Gh) (w : World) (act : Act) (hk : opsS P E env inl all [o] ts hp lp k) (f : Fr B0 w0 r β Γ g w hp lp ts act) :
    if Region.wanted o (yielded all.toArray act.tmps) then o.wpIn (FW r) N P act w next Q else (∀ f, o.about P w act.eval = some f → (FW r).fn f) ∧ next (act.put o.dst undef) w := by
  have one : opS P E env inl hp lp ts o.op (fun a hp lp => putK ts o.dst a fun ts => k ts hp lp) → o.wpIn (FW r) N P act w next Q := fun h => by
    rcases opS_sound (B0 := B0) (w0 := w0) hE henv h with h1 | ⟨cl, x, h1, h2, h3⟩
    · refine h1 r g w act N _ Q f.sw (fun x _ => ev_sound f.ts x) fun a hp' v w' g' hk2 e s hv => ?_
      dsimp only at hk2
      rw [putK_eq] at hk2
      exact hn _ hp' lp Γ g' w' _ hk2 ((f.move (Mv.eb f.ld e s)).put hv o.dst)
    · refine hinl r β Γ g w hp lp ts act _ _ _ o cl x N _ Q hβ f h3 h1 h2 rfl rfl fun a hp' lp' Γ' g' w' v hk2 m hv => ?_
      rw [putK_eq] at hk2
      exact hn _ hp' lp' Γ' g' w' _ hk2 ((f.move m).put hv o.dst)
  have skip : putK ts o.dst (.tup []) (fun ts => k ts hp lp) → (∀ f, o.about P w act.eval = some f → (FW r).fn f) ∧ next (act.put o.dst undef) w := fun h => by
    refine ⟨fun _ _ => trivial, ?_⟩
    rw [putK_eq] at h
    exact hn _ hp lp Γ g w _ h (f.put (.tup [] #[] rfl (fun i hi => by simp at hi)) o.dst)
  change (match o.guard with
    | none => opS P E env inl hp lp ts o.op fun a hp lp => putK ts o.dst a fun ts => k ts hp lp
    | some g => optK ((all[g.1]?).bind (·.dst)) fun d => match ts.getD d .un with
      | .v (.bool b) => match g.2 with
        | true => cndK b (opS P E env inl hp lp ts o.op fun a hp lp => putK ts o.dst a fun ts => k ts hp lp) (putK ts o.dst (.tup []) fun ts => k ts hp lp)
        | false => cndK b (putK ts o.dst (.tup []) fun ts => k ts hp lp) (opS P E env inl hp lp ts o.op fun a hp lp => putK ts o.dst a fun ts => k ts hp lp)
      | .tup _ => putK ts o.dst (.tup []) fun ts => k ts hp lp
      | _ => False) at hk
  cases hg : o.guard with
  | none =>
    rw [hg] at hk
    simp only [Region.wanted, hg, if_true]
    exact one hk
  | some q =>
    obtain ⟨j, want⟩ := q
    rw [hg] at hk
    obtain ⟨d, hd, hk2⟩ := optK_elim hk
    have hy : yielded all.toArray act.tmps j = match act.tmps[d]? with | some (.bool b) => some b | _ => none := by
      have hd' : (all.toArray[j]?).bind (·.dst) = some d := by simpa using hd
      simp only [yielded, hd', Option.bind_some]
      rfl
    have hv := f.ts.2 d
    rw [Array.getD_eq_getD_getElem?] at hv
    cases ht : ts.getD d .un <;> rw [ht] at hk2 hv <;> try exact hk2.elim
    · rename_i x
      cases x <;> try exact hk2.elim
      rename_i b
      have hb := hv.bool_inv
      have hb2 : act.tmps[d]? = some (.bool b) := by
        cases h : act.tmps[d]? with
        | none => rw [h] at hb; simp [undef] at hb
        | some y => rw [h] at hb; simpa using hb
      simp only [Region.wanted, hg, hy, hb2]
      cases want <;> cases b <;> first
        | (rw [if_pos (by rfl)]; exact one hk2)
        | (rw [if_neg (by simp)]; exact skip hk2)
    · rename_i xs
      have hn : (match act.tmps[d]? with | some (.bool b) => some b | _ => none) = none := by
        cases h : act.tmps[d]? with
        | none => rfl
        | some y =>
          rw [h] at hv
          simp only [Option.getD_some] at hv
          cases hv
          rfl
      simp only [Region.wanted, hg, hy, hn]
      rw [if_neg (by simp)]
      exact skip hk2

end Go.YtoeophdffhmpmaaE
