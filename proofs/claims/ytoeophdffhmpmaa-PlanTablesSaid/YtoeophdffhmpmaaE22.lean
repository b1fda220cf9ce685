/- The engine: THE RUN IS SOUND. -/
import Derived.Test.YtoeophdffhmpmaaE21
set_option linter.unusedVariables false
set_option linter.unusedSimpArgs false
namespace Go.YtoeophdffhmpmaaE
open Go Go.RowKit

variable {P : Program} {B0 : Nat} {w0 : Wz} {c : Hp} {p : Nat} {o : Oper} {ts : List A} {hp : List Blk}

theorem inlF_ok (pf : PF P) {rec : RunT} (hrec : RunOk P B0 w0 rec) : InlOk P B0 w0 (inlF P rec) := by
  intro r β Γ g w hp lp ts act fv as kk o cl x N next Q hβ fr hk ho hcl hfv has hnext
  have hx := ev_sound fr.ts x
  rw [← hfv] at hx
  obtain ⟨q1, q2⟩ := VRs_map (ts := ts) (g := g) (w := w) (h := hf hp) (ρ := act.eval) cl.args (fun x _ => ev_sound fr.ts x)
  rw [← has] at q1 q2
  cases fv <;> try exact hk.elim
  · rename_i f fst cap
    obtain ⟨fn, hf, hk1⟩ := optK_elim hk
    obtain ⟨cd, hb, hk2⟩ := optK_elim hk1
    rw [snocK_eq, snocK_eq, frameK_eq, lenK_eq, lenK_eq, Nat.zero_add, Nat.zero_add] at hk2
    obtain ⟨fs, vs, hfe, hl0, hv0, hl, hv⟩ : ∃ fs vs, act.eval x = .func (.func f) fs vs ∧ fst.length = fs.size ∧ (∀ i, i < fst.length → VR g w (Go.YtoeophdffhmpmaaE.hf hp) (fst.getD i .un) (fs.getD i undef)) ∧ cap.length = vs.size ∧ ∀ i, i < cap.length → VR g w (Go.YtoeophdffhmpmaaE.hf hp) (cap.getD i .un) (vs.getD i undef) := by
      generalize act.eval x = y at hx
      cases hx with
      | fn _ _ _ fs vs hl0 hl hv0 hv => exact ⟨fs, vs, rfl, hl0, hv0, hl, hv⟩
    refine ⟨fun _ _ => trivial, ?_⟩
    rw [Oper.semAt_eq _ _ _ (by simp [ho]), execOp_call ho hcl hfe (enters_pf pf hf hb)]
    obtain ⟨a1, a2⟩ := call_args (cl := cl) (ρ := act.eval) (fun x _ => ev_sound fr.ts x) hl0 hv0 hl hv
    rw [← has] at a1 a2
    refine ⟨fun h => by simp [FW] at h, (call_inline pf hrec fr.sw fr.ld (hβ.here fr (fun l h => by cases h)) hf hb a1 a2 hk2 r (N - 1)).mono ?_⟩
    rintro e w' ⟨v, a, hp', lp', Γ', g', rfl, hka, m, hvr⟩
    exact hnext a hp' lp' Γ' g' w' v hka m hvr
  · rename_i i
    obtain ⟨st, hst, hk1⟩ := optK_elim hk
    cases st <;> try exact hk1.elim
    rename_i rd
    obtain ⟨hlen, hk2⟩ := chk_elim hk1
    simp only [beq_iff_eq] at hlen
    rw [paramsK_eq, lenK_eq, lenK_eq, Nat.zero_add, Nat.zero_add] at hk2
    obtain ⟨l, hfe, hl⟩ : ∃ l, act.eval x = .func (.yield l) #[] #[] ∧ g.ls[i]? = some l := by
      generalize act.eval x = y at hx
      cases hx with
      | yl _ l hl => exact ⟨l, rfl, hl⟩
    obtain ⟨fn, tmps, assign, body, hy, hround⟩ := round_inline hrec fr.sw fr.ld (hβ.here fr (fun l h => by cases h)) hl hst q1 q2 hlen hk2 r (N - 1)
    refine ⟨fun _ _ => trivial, ?_⟩
    have hex : (execOp act.eval o).run P w = .ok (.round l fn tmps assign body) w := by
      simp [execOp, ho, resolve, hcl, hfe, Deferred.ofValue, invoke, hy]
    rw [Oper.semAt_eq _ _ _ (by simp [ho]), hex]
    refine ⟨fun h => by simp [FW] at h, hround.mono ?_⟩
    rintro e w' ⟨v, a, hp', lp', Γ', g', rfl, hka, m, hvr⟩
    exact hnext a hp' lp' Γ' g' w' v hka m hvr

/-- Regions that draw: told elsewhere. -/
def DrawsOk (P : Program) (E : EqT) (env : Env) : Prop :=
  ∀ (B0 : Nat) (w0 : Wz) (inl : Inl) (r : Option Nat) (β : Bs) (os : Array Oper) (id N : Nat) (k : List A → List Blk → List Lp → Prop) (ts : List A) (hp : List Blk) (lp : List Lp) (Γ : Gam) (g : Gh) (w : World) (act : Act) (Q : Exit → Act → World → Prop),
    InlOk P B0 w0 inl → BOk β r → drawK P E env inl os.toList ts hp lp k → Fr B0 w0 r β Γ g w hp lp ts act →
    (∀ ts hp lp Γ g w act, k ts hp lp → Fr B0 w0 r β Γ g w hp lp ts act → Q .normal act w) → (∀ c a w, ¬ Q (.panic c) a w) → (Code.region id os true).wpIn (FW r) N P Q act w

/-- A new loop is laid. -/
theorem enter_loop {r : Option Nat} {β : Bs} (hβ : BOk β r) {Γ : Gam} {g : Gh} {w : World} {lp : List Lp} {act : Act} (fr : Fr B0 w0 r β Γ g w hp lp ts act) (fn : FuncId) (ps : Array Tmp) (assign body : Code) :
    ∃ (l : Nat) (mark : List Deferred) (w1 : World) (rc : Loop), (Instr.enterLoop fn act.tmps ps assign body r).run P w = .ok (l, mark) w1 ∧ w.heap.size ≤ l ∧ w1.heap[l]? = some (.loop { rc with state := .ready, pending := none }) ∧
      rc.params = ps ∧ rc.assign = assign ∧ rc.body = body ∧ rc.tmps = act.tmps ∧ Below w.heap.size w w1 ∧ (r ≠ none → mark = []) ∧ (r = none → ∃ D, mark = [markOf D] ∧ w.heap.size ≤ D ∧ D ≠ l ∧ w1.heap[D]? = some (.deferred (some []))) := by
  cases r with
  | none =>
    refine ⟨_, _, _, { state := .ready, pending := none, fn, tmps := act.tmps, params := ps, assign, body, defers := w.heap.size }, run_enterLoop_outer fn act.tmps ps assign body, by omega, ?_, rfl, rfl, rfl, rfl, ?_, fun h => absurd rfl h, fun _ => ⟨w.heap.size, rfl, Nat.le_refl _, by omega, ?_⟩⟩
    · have := World.alloc_heap_new (w.alloc (.deferred (some []))) (.loop { state := .ready, pending := none, fn, tmps := act.tmps, params := ps, assign, body, defers := w.heap.size })
      rwa [World.size_alloc] at this
    · exact ((Below.refl _ _).alloc (Nat.le_refl _) _).alloc (by simp) _
    · exact (Below.heap_alloc _ _ _ (by simp)).trans (World.alloc_heap_new w _)
  | some l0 =>
    obtain ⟨r0, hr0⟩ := fr.ld.loop (l := l0) (by
      have := hβ.rnd l0 rfl
      obtain ⟨j, hj, he⟩ := List.getElem_of_mem this
      exact List.mem_of_getElem? (fr.ev.ls j l0 (by rw [List.getElem?_eq_getElem hj, he])))
    exact ⟨_, _, _, { state := .ready, pending := none, fn, tmps := act.tmps, params := ps, assign, body, defers := r0.defers }, run_enterLoop_inner hr0 fn act.tmps ps assign body, Nat.le_refl _, World.alloc_heap_new w _, rfl, rfl, rfl, rfl, (Below.refl _ _).alloc (Nat.le_refl _) _, fun _ => rfl, fun h => by cases h⟩

def Gh.push (g : Gh) (l : Nat) : Gh := { g with ls := g.ls ++ [l] }
theorem Ev.push {g : Gh} {w w' : World} {h : Hp} (s : SH B0 g w h) (hb : Below w.heap.size w w') (l : Nat) : Ev g w h (g.push l) w' h :=
  ⟨fun b hb => ⟨hb, Nat.le_refl _, rfl, fun _ => ⟨rfl, rfl⟩⟩, fun x hx => ⟨hx, .of (hb.block x (s.imm x hx))⟩, fun i l' h => by
    have := (List.getElem?_eq_some_iff.1 h).1
    show (g.ls ++ [l])[i]? = some l'
    rw [List.getElem?_append_left this]; exact h, hb.size⟩
theorem SW.push {g : Gh} {w w' : World} {h : Hp} (s : SW B0 w0 g w h) (hb : Below w.heap.size w w') (l : Nat) : SW B0 w0 (g.push l) w' h := by
  have s2 := s.same hb
  have e : Ev g w' h (g.push l) w' h := Ev.push s2.sh (Below.refl _ _) l
  refine ⟨⟨s2.sh.inj, s2.sh.lo, s2.sh.imm, s2.sh.sep, s2.sh.fro, fun b => ?_⟩, s2.be, s2.b0, s2.ib⟩
  exact BR.mono e rfl rfl rfl (s2.sh.blk b)

theorem range_sound (pf : PF P) {rec : RunT} (hrec : RunOk P B0 w0 rec) {r : Option Nat} {β : Bs} (hβ : BOk β r) {Γ : Gam} {g : Gh} {w : World} {lp : List Lp} {act : Act} (fr : Fr B0 w0 r β Γ g w hp lp ts act) {x : Operand} {ps : Array Tmp} {assign body : Code} {k : K} {gf : Nat} {cap : List A}
    (hx : ev ts x = .fn gf [] cap) {fn : Func} {cd : Code} (hf : P.funcs[gf]? = some fn) (hb : fn.body = some cd)
    (hk : rec hp.length (lp.length + 1) cd (.yl lp.length :: cap ++ List.replicate (fn.ntmps - (A.yl lp.length :: cap).length) .un) hp (lp ++ [.ready ⟨ps.toList, assign, body, ts⟩]) fun e ts3 hp lp3 =>
          match e with
          | .exit _ => False
          | _ => resK P fn ts3 hp fun _ => optK lp3[lp.length]? fun st => match st with
            | .ready _ => setK lp3 lp.length .over fun lp => k .normal ts hp lp
            | .done e => setK lp3 lp.length .over fun lp => k e ts hp lp
            | _ => False) (N : Nat) :
    (Code.rangeFunc x ps assign body).wpIn (FW r) N P (Post B0 w0 r β k) act w := by
  have hxx := ev_sound fr.ts x
  rw [hx] at hxx
  obtain ⟨vs, hfe, hl, hv⟩ : ∃ vs, act.eval x = .func (.func gf) #[] vs ∧ cap.length = vs.size ∧ ∀ i, i < cap.length → VR g w (Go.YtoeophdffhmpmaaE.hf hp) (cap.getD i .un) (vs.getD i undef) := by
    generalize act.eval x = y at hxx
    cases hxx with
    | fn _ _ _ fs vs hl0 hl hv0 hv =>
      have : fs = #[] := Array.eq_empty_of_size_eq_zero hl0.symm
      subst this
      exact ⟨vs, rfl, hl, hv⟩
  refine wpIn_rangeFunc fun fnid _ => ?_
  obtain ⟨l, mark, w1, rc, hen, hlge, hw1, rp, ra, rb, rt, hbel, hm1, hm2⟩ := enter_loop (P := P) hβ fr fnid ps assign body
  have s1 : SW B0 w0 (g.push l) w1 (Go.YtoeophdffhmpmaaE.hf hp) := fr.sw.push hbel l
  have e1 : Ev g w (Go.YtoeophdffhmpmaaE.hf hp) (g.push l) w1 (Go.YtoeophdffhmpmaaE.hf hp) := Ev.push fr.sw.sh hbel l
  have hlold : ∀ l' ∈ g.ls, l' < w.heap.size := fun l' h => by
    obtain ⟨r', hr'⟩ := fr.ld.loop h
    exact (Array.getElem?_eq_some_iff.1 hr').1
  have ew1 : EW g w (Go.YtoeophdffhmpmaaE.hf hp) (g.push l) w1 (Go.YtoeophdffhmpmaaE.hf hp) := ⟨e1, fun l' h => by
      rcases List.mem_append.1 (show l' ∈ g.ls ++ [l] from h) with h | h
      · exact .inl h
      · simp at h; exact .inr (by omega), fun y o hy _ _ => (hbel.block y (Array.getElem?_eq_some_iff.1 hy).1).trans hy⟩
  obtain ⟨Γ1, hΓ1⟩ : ∃ Γ1 : Gam, Γ1 = fun j => if j = lp.length then (⟨ps.toList, assign, body, ts⟩, rc) else Γ j := ⟨_, rfl⟩
  have hGi : Γ1 lp.length = (⟨ps.toList, assign, body, ts⟩, rc) := by rw [hΓ1]; simp
  have hGo : ∀ j, j ≠ lp.length → Γ1 j = Γ j := fun j hj => by rw [hΓ1]; simp [hj]
  have hgl : (g.push l).ls[lp.length]? = some l := by
    show (g.ls ++ [l])[lp.length]? = some l
    rw [← fr.ld.len]; simp
  have ld1 : LD B0 Γ1 (lp ++ [.ready ⟨ps.toList, assign, body, ts⟩]) (g.push l) w1 := by
    refine ⟨fun l' h => ?_, by show (g.ls ++ [l]).length = _; simp [fr.ld.len], ?_, fun j l' s hj hs => ?_⟩
    · rcases List.mem_append.1 (show l' ∈ g.ls ++ [l] from h) with h | h
      · exact fr.ld.lo l' h
      · simp at h; have := fr.sw.b0; omega
    · show (g.ls ++ [l]).Nodup
      rw [List.nodup_append]
      refine ⟨fr.ld.nd, by simp, fun a ha b hb => ?_⟩
      simp at hb
      have := hlold a ha
      omega
    · by_cases hjl : j = lp.length
      · subst hjl
        rw [hgl] at hj
        cases hj
        simp at hs
        subst hs
        rw [hGi]
        exact ⟨rfl, hw1⟩
      · have hj' : (g.ls ++ [l])[j]? = some l' := hj
        have hjlt : j < g.ls.length := by
          have := (List.getElem?_eq_some_iff.1 hj').1
          simp at this
          rw [fr.ld.len] at this ⊢
          omega
        rw [List.getElem?_append_left hjlt] at hj'
        rw [List.getElem?_append_left (by rw [← fr.ld.len]; exact hjlt)] at hs
        rw [hGo j hjl, hbel.block l' (hlold l' (List.mem_of_getElem? hj'))]
        exact fr.ld.st j l' s hj' hs
  have hβ1 : BOk (Bs.here (g.push l) w1 hp (lp ++ [.ready ⟨ps.toList, assign, body, ts⟩]) Γ1) none := by
    refine ⟨fun i rd h => ?_, fun b hb => live_lt hb, ld1.len, fun l' hl' => ?_, fun l h => by cases h⟩
    · show Fit (Γ1 i) (g.push l) w1 (Go.YtoeophdffhmpmaaE.hf hp)
      have hlt : i < (lp ++ [Lp.ready ⟨ps.toList, assign, body, ts⟩]).length := by
        rcases h with h | h <;> exact (List.getElem?_eq_some_iff.1 h).1
      by_cases hi : i = lp.length
      · subst hi
        rw [hGi]
        exact ⟨by rw [rp], ra, rb, by rw [rt]; exact fr.ts.mono e1⟩
      · have hil : i < lp.length := by simp at hlt; omega
        rw [hGo i hi]
        have h1 : Act1 lp i rd := by
          unfold Act1 at h ⊢
          change (lp ++ [Lp.ready ⟨ps.toList, assign, body, ts⟩])[i]? = _ ∨ (lp ++ [Lp.ready ⟨ps.toList, assign, body, ts⟩])[i]? = _ at h
          rwa [List.getElem?_append_left hil] at h
        have h2 := fr.ao.2 i rd h1
        have h3 : i < β.lp.length := by
          rcases h2 with h | h <;> exact (List.getElem?_eq_some_iff.1 h).1
        rw [fr.gam i h3]
        exact ((hβ.fit i rd h2).mono fr.ev.toEv).mono e1
    · obtain ⟨r', hr'⟩ := ld1.loop hl'
      exact (Array.getElem?_eq_some_iff.1 hr').1
  have hargs : (A.yl lp.length :: cap).length = (#[Value.func (.yield l) #[] #[]] ++ vs).size ∧ ∀ i, i < (A.yl lp.length :: cap).length → VR (g.push l) w1 (Go.YtoeophdffhmpmaaE.hf hp) ((A.yl lp.length :: cap).getD i .un) ((#[Value.func (.yield l) #[] #[]] ++ vs).getD i undef) := by
    refine ⟨by simp [hl]; omega, fun i hi => ?_⟩
    cases i with
    | zero =>
      have : (#[Value.func (.yield l) #[] #[]] ++ vs).getD 0 undef = Value.func (.yield l) #[] #[] := by rw [← toList_getD]; simp
      rw [this]
      exact .yl _ l hgl
    | succ i =>
      have : (#[Value.func (.yield l) #[] #[]] ++ vs).getD (i + 1) undef = vs.getD i undef := by rw [← toList_getD, ← toList_getD]; simp
      rw [this]
      exact (hv i (by simpa using hi)).mono e1
  refine ⟨l, mark, w1, { target := .fn (.func gf) vs, args := #[.func (.yield l) #[] #[]] }, w1, gf, #[.func (.yield l) #[] #[]] ++ vs, w1, hen, ?_, fun _ _ => trivial, ?_, fun h => by simp [FW] at h, ?_⟩
  · simp only [resolve, hfe]
    simp [go_sem]
  · have := enters_pf pf hf hb (#[.func (.yield l) #[] #[]] ++ vs) w1
    simp [invoke, go_sem, this]
  refine (call_inline pf hrec s1 ld1 hβ1 hf hb hargs.1 hargs.2 (kk := fun _ hp lp3 => optK lp3[lp.length]? fun st => match st with
            | .ready _ => setK lp3 lp.length .over fun lp => k .normal ts hp lp
            | .done e => setK lp3 lp.length .over fun lp => k e ts hp lp
            | _ => False) (by rw [List.length_append]; exact hk) r (N - 1)).mono ?_
  rintro e w3 ⟨v, a, hp3, lp3, Γ3, g3, rfl, hka, m, hvr⟩
  obtain ⟨st, hst, hka2⟩ := optK_elim hka
  have hi3 : g3.ls[lp.length]? = some l := m.ev.ls _ _ hgl
  -- behind the loop
  have fin : ∀ (r1 : Loop), w3.heap[l]? = some (.loop r1) → Fr B0 w0 r β Γ3 g3 (w3.putObj l (.loop { r1 with state := .exhausted })) hp3 (lp3.set lp.length .over) ts { act with defers := mark ++ act.defers } := by
    intro r1 hr1
    have mp := Mv.put (s' := .over) m.sw m.ld hi3 hr1 (r2 := { r1 with state := .exhausted }) ⟨_, rfl⟩ (fun rd' h => by rcases h with h | h <;> cases h)
    have evall : EW g w (Go.YtoeophdffhmpmaaE.hf hp) g3 (w3.putObj l (.loop { r1 with state := .exhausted })) (Go.YtoeophdffhmpmaaE.hf hp3) := (ew1.trans m.ev).trans mp.ev
    refine ⟨mp.sw, fr.ev.trans evall, fr.ts.mono evall.toEv, mp.ld, fr.ao.trans ⟨?_, fun j rd h => ?_⟩, fun i hi => ?_, fun hr => ?_⟩
    · have := m.ao.1; simp at this ⊢; omega
    · have hj : j ≠ lp.length := fun e => by
        subst e
        have hlt : lp.length < lp3.length := by rw [← m.ld.len]; exact (List.getElem?_eq_some_iff.1 hi3).1
        unfold Act1 at h
        rw [List.getElem?_set_self hlt] at h
        rcases h with h | h <;> cases h
      have h1 : Act1 lp3 j rd := by
        unfold Act1 at h ⊢
        rwa [List.getElem?_set_ne (fun e => hj e.symm)] at h
      have h2 := m.ao.2 j rd h1
      have hlt : j < (lp ++ [Lp.ready ⟨ps.toList, assign, body, ts⟩]).length := by
        rcases h2 with h | h <;> exact (List.getElem?_eq_some_iff.1 h).1
      unfold Act1 at h2 ⊢
      rwa [List.getElem?_append_left (by simp at hlt; omega)] at h2
    · have h1 : i < lp.length := Nat.lt_of_lt_of_le hi fr.ao.1
      rw [m.gam i (by simp; omega), hGo i (by omega)]
      exact fr.gam i hi
    · obtain ⟨D, hD1, hD2, hD3, hD4⟩ := hm2 hr
      obtain ⟨Ds, hDs, hnd, hDD⟩ := fr.dm hr
      have keep : ∀ D', D' ≠ l → w1.heap[D']? = some (.deferred (some [])) → (w3.putObj l (.loop { r1 with state := .exhausted })).heap[D']? = some (.deferred (some [])) := fun D' hne h => by
        rw [World.putObj_heap_other hne]
        refine m.ev.oth D' _ h rfl (fun hm => ?_)
        obtain ⟨r', hr'⟩ := ld1.loop hm
        rw [h] at hr'; cases hr'
      refine ⟨D :: Ds, by rw [hD1, hDs]; rfl, List.nodup_cons.2 ⟨fun hm => ?_, hnd⟩, fun D' hD' => ?_⟩
      · have := (Array.getElem?_eq_some_iff.1 (hDD D hm).2).1; omega
      · rcases List.mem_cons.1 hD' with rfl | hD'
        · exact ⟨Nat.le_trans fr.ev.size hD2, keep _ hD3 hD4⟩
        · have hlt := (Array.getElem?_eq_some_iff.1 (hDD D' hD').2).1
          exact ⟨(hDD D' hD').1, keep _ (by omega) ((hbel.block D' hlt).trans (hDD D' hD').2)⟩
  cases st <;> try exact hka2.elim
  · simp only [setK_eq] at hka2
    obtain ⟨_, hob⟩ := m.ld.st _ l _ hi3 hst
    exact ⟨none, _, run_endLoop hob (by simp), .normal, _, _, _, _, _, rfl, hka2, fin _ hob⟩
  · rename_i e
    simp only [setK_eq] at hka2
    obtain ⟨hne, hob⟩ := m.ld.st _ l _ hi3 hst
    refine ⟨some (exC e), _, run_endLoop hob (by simp), ?_⟩
    cases e with
    | normal => exact absurd rfl hne
    | ret => exact wpIn_ret ⟨.ret, _, _, _, _, _, rfl, hka2, fin _ hob⟩
    | exit i => exact wpIn_exit ⟨.exit i, _, _, _, _, _, rfl, hka2, fin _ hob⟩

end Go.YtoeophdffhmpmaaE
