/- The engine: what is walked in place: functions, rounds. -/
import Derived.Test.YtoeophdffhmpmaaE20
set_option linter.unusedVariables false
set_option linter.unusedSimpArgs false
namespace Go.YtoeophdffhmpmaaE
open Go Go.RowKit

variable {P : Program} {B0 : Nat} {w0 : Wz} {c : Hp} {p : Nat} {o : Oper} {ts : List A} {hp : List Blk}

def Post (B0 : Nat) (w0 : Wz) (r : Option Nat) (β : Bs) (k : K) : Exit → Act → World → Prop := fun e act w =>
  ∃ x ts hp lp Γ g, e = exE x ∧ k x ts hp lp ∧ Fr B0 w0 r β Γ g w hp lp ts act
def RunOk (P : Program) (B0 : Nat) (w0 : Wz) (rec : RunT) : Prop :=
  ∀ (r : Option Nat) (β : Bs) (N : Nat) (c : Code) (ts : List A) (hp : List Blk) (lp : List Lp) (k : K) (Γ : Gam) (g : Gh) (w : World) (act : Act),
    BOk β r → rec β.nb β.lp.length c ts hp lp k → Fr B0 w0 r β Γ g w hp lp ts act → c.wpIn (FW r) N P (Post B0 w0 r β k) act w

/-- A frame's base: where it begins. -/
def Bs.here (g : Gh) (w : World) (hp : List Blk) (lp : List Lp) (Γ : Gam) : Bs := ⟨g, w, hf hp, lp, Γ, hp.length⟩
theorem Fit.mono {q : Rd × Loop} {g g' : Gh} {w w' : World} {h h' : Hp} (f : Fit q g w h) (e : Ev g w h g' w' h') : Fit q g' w' h' := ⟨f.1, f.2.1, f.2.2.1, f.2.2.2.mono e⟩
theorem BOk.here {r r' : Option Nat} {β : Bs} (hβ : BOk β r) {Γ : Gam} {g : Gh} {w : World} {lp : List Lp} {act : Act} (f : Fr B0 w0 r β Γ g w hp lp ts act) (hr : ∀ l, r' = some l → l ∈ g.ls) : BOk (Bs.here g w hp lp Γ) r' := by
  refine ⟨fun i rd h => ?_, fun b hb => live_lt hb, f.ld.len, fun l hl => ?_, hr⟩
  · have h1 := f.ao.2 i rd h
    have h2 : i < β.lp.length := by
      rcases h1 with h | h <;> exact (List.getElem?_eq_some_iff.1 h).1
    show Fit (Γ i) g w (hf hp)
    rw [f.gam i h2]
    exact (hβ.fit i rd h1).mono f.ev.toEv
  · obtain ⟨r, hr⟩ := f.ld.loop hl
    exact (Array.getElem?_eq_some_iff.1 hr).1
/-- A new frame begins. -/
theorem Fr.begin {r' : Option Nat} {Γ : Gam} {g : Gh} {w : World} {lp : List Lp} {act2 : Act} (s : SW B0 w0 g w (hf hp)) (ld : LD B0 Γ lp g w) {ts2 : List A} (ht : TS g w (hf hp) ts2 act2.tmps) (hd : r' = none → act2.defers = []) :
    Fr B0 w0 r' (Bs.here g w hp lp Γ) Γ g w hp lp ts2 act2 :=
  ⟨s, EW.refl _ _ _, ht, ld, AO.refl _, fun _ _ => rfl, fun h => ⟨[], hd h, List.nodup_nil, by simp⟩⟩
/-- From where a frame began to where it is: told to the one around it. -/
theorem Fr.mv {r' : Option Nat} {Γ Γ' : Gam} {g g' : Gh} {w w' : World} {hp' : List Blk} {lp lp' : List Lp} {ts2 : List A} {act2 : Act} (f : Fr B0 w0 r' (Bs.here g w hp lp Γ) Γ' g' w' hp' lp' ts2 act2) : Mv B0 w0 g w hp lp Γ g' w' hp' lp' Γ' :=
  ⟨f.ev, f.sw, f.ld, f.ao, f.gam⟩

/-- A function that holds loops over functions leaves: its marks are taken, one by one. -/
theorem leaves {fn : Func} {k : A → Prop} (hk : resK P fn ts hp k) {βg : Gh} {βw : World} {βh : Hp} {Γ : Gam} {lp : List Lp} {g : Gh} {tmps : Array Value} {N : Nat} {R : Ending → World → Prop} (hB : B0 ≤ βw.heap.size)
    (hR : ∀ a w v, k a → EW βg βw βh g w (hf hp) → SW B0 w0 g w (hf hp) → LD B0 Γ lp g w → VR g w (hf hp) a v → R (.returned v) w) :
    ∀ (Ds : List Nat) (w : World), Ds.Nodup → (∀ D ∈ Ds, βw.heap.size ≤ D ∧ w.heap[D]? = some (.deferred (some []))) → EW βg βw βh g w (hf hp) → SW B0 w0 g w (hf hp) → LD B0 Γ lp g w → TS g w (hf hp) ts tmps →
      LeavesInM (FW none) N P fn tmps R (Ds.map markOf) .returning w := by
  intro Ds
  induction Ds with
  | nil =>
    intro w _ _ e s ld t
    obtain ⟨a, h1, h2⟩ := resK_sound (B0 := B0) (w0 := w0) hk
    obtain ⟨v, h3, h4⟩ := h2 g w tmps s t
    exact ⟨v, h3, hR a w v h1 e s ld h4⟩
  | cons D Ds ih =>
    intro w hnd hD e s ld t
    obtain ⟨h1, h2⟩ := hD D (by simp)
    refine ⟨by simp, .inl ⟨D, _, rfl, run_takeDeferred h2, ?_⟩⟩
    obtain ⟨e1, s1⟩ := s.put (o2 := .deferred none) h2 rfl (Nat.le_trans hB h1)
    have hnl : D ∉ g.ls := fun hm => by
      obtain ⟨r, hr⟩ := ld.loop hm
      rw [h2] at hr; cases hr
    simp only [List.nodup_cons] at hnd
    refine ih _ hnd.2 (fun D' hD' => ⟨(hD D' (List.mem_cons_of_mem _ hD')).1, ?_⟩) ?_ s1 ?_ (t.mono e1)
    · rw [World.putObj_heap_other (fun e => hnd.1 (by rw [← e]; exact hD'))]; exact (hD D' (List.mem_cons_of_mem _ hD')).2
    · refine ⟨e.toEv.trans e1, e.lsn, fun x o hx hc hn => ?_⟩
      have hxl := (Array.getElem?_eq_some_iff.1 hx).1
      rw [World.putObj_heap_other (by omega)]; exact e.oth x o hx hc hn
    · refine ⟨ld.lo, ld.len, ld.nd, fun i l s' hi hs' => ?_⟩
      rw [World.putObj_heap_other (fun (ee : l = D) => hnl (by rw [← ee]; exact List.mem_of_getElem? hi))]
      exact ld.st i l s' hi hs'

theorem callsIn_any {r r' : Option Nat} {n : Nat} {f : FuncId} {args : Array Value} {w : World} {R : Ending → World → Prop} (h : CallsIn (FW r) n P f args w R) : CallsIn (FW r') n P f args w R := h

/-- A FUNCTION, WALKED IN PLACE. -/
theorem call_inline (pf : PF P) {rec : RunT} (hrec : RunOk P B0 w0 rec) {Γ : Gam} {g : Gh} {w : World} {lp : List Lp} (hs : SW B0 w0 g w (hf hp)) (ld : LD B0 Γ lp g w) (hβ : BOk (Bs.here g w hp lp Γ) none) {f : Nat} {fn : Func} {cd : Code} (hf : P.funcs[f]? = some fn) (hb : fn.body = some cd)
    {as : List A} {args : Array Value} (hl : as.length = args.size) (hv : ∀ i, i < as.length → VR g w (Go.YtoeophdffhmpmaaE.hf hp) (as.getD i .un) (args.getD i undef)) {kk : K3}
    (hk : rec hp.length lp.length cd (as ++ List.replicate (fn.ntmps - as.length) .un) hp lp fun e ts hp lp => match e with | .exit _ => False | _ => resK P fn ts hp fun a => kk a hp lp) (r' : Option Nat) (N : Nat) :
    CallsIn (FW r') N P f args w fun e w' => ∃ v a hp' lp' Γ' g', e = .returned v ∧ kk a hp' lp' ∧ Mv B0 w0 g w hp lp Γ g' w' hp' lp' Γ' ∧ VR g' w' (Go.YtoeophdffhmpmaaE.hf hp') a v := by
  refine callsIn_any (r := none) ?_
  refine callsIn_of_wp_marks hf hb trivial ?_ rfl
  have h1 := hrec none (Bs.here g w hp lp Γ) N cd _ hp lp _ Γ g w { tmps := args ++ Array.replicate (fn.ntmps - args.size) undef, defers := [] } hβ hk (Fr.begin hs ld (TS.frame hl hv fn.ntmps) (fun _ => rfl))
  refine wpIn_mono h1 ?_
  rintro e act' w' ⟨x, ts', hp', lp', Γ', g', rfl, hk', fr⟩
  have fin : resK P fn ts' hp' (fun a => kk a hp' lp') → LeavesInM (FW none) N P fn act'.tmps (fun e w' => ∃ v a hp' lp' Γ' g', e = .returned v ∧ kk a hp' lp' ∧ Mv B0 w0 g w hp lp Γ g' w' hp' lp' Γ' ∧ VR g' w' (Go.YtoeophdffhmpmaaE.hf hp') a v) act'.defers .returning w' := fun hres => by
    obtain ⟨Ds, hDs, hnd, hD⟩ := fr.dm rfl
    rw [hDs]
    exact leaves hres hs.b0 (fun a w' v hka e s ld hvr => ⟨v, a, hp', lp', Γ', g', rfl, hka, ⟨e, s, ld, fr.ao, fr.gam⟩, hvr⟩) Ds w' hnd hD fr.ev fr.sw fr.ld fr.ts
  cases x with
  | normal => exact fin hk'
  | ret => exact fin hk'
  | exit i => exact hk'.elim

theorem Mv.put {g : Gh} {w : World} {Γ : Gam} {lp : List Lp} (s : SW B0 w0 g w (hf hp)) (ld : LD B0 Γ lp g w) {i l : Nat} (hi : g.ls[i]? = some l) {r1 r2 : Loop} (h1 : w.heap[l]? = some (.loop r1)) {s' : Lp} (hs : LSt (Γ i) s' (some (.loop r2)))
    (ha : ∀ rd, s' = .ready rd ∨ s' = .busy rd → Act1 lp i rd) : Mv B0 w0 g w hp lp Γ g (w.putObj l (.loop r2)) hp (lp.set i s') Γ := by
  have hm := List.mem_of_getElem? hi
  obtain ⟨e, s1⟩ := s.put (o2 := .loop r2) h1 rfl (ld.lo l hm)
  refine ⟨EW.put e hm, s1, ld.put hi h1 hs, ⟨by simp, fun j rd h => ?_⟩, fun _ _ => rfl⟩
  by_cases hj : j = i
  · subst hj
    have hlt : j < lp.length := by rw [← ld.len]; exact (List.getElem?_eq_some_iff.1 hi).1
    unfold Act1 at h
    rw [List.getElem?_set_self hlt] at h
    exact ha rd (h.imp (fun h => by injection h) (fun h => by injection h))
  · unfold Act1 at h ⊢
    rwa [List.getElem?_set_ne (fun e => hj e.symm)] at h

/-- A ROUND, WALKED IN PLACE. -/
theorem round_inline {rec : RunT} (hrec : RunOk P B0 w0 rec) {Γ : Gam} {g : Gh} {w : World} {lp : List Lp} (hs : SW B0 w0 g w (hf hp)) (ld : LD B0 Γ lp g w) (hβ : BOk (Bs.here g w hp lp Γ) none)
    {i l : Nat} {rd : Rd} (hi : g.ls[i]? = some l) (hlp : lp[i]? = some (.ready rd)) {as : List A} {args : Array Value} (hl : as.length = args.size) (hv : ∀ i, i < as.length → VR g w (hf hp) (as.getD i .un) (args.getD i undef)) {kk : K3}
    (hlen : as.length = rd.params.length)
    (hk : rec hp.length lp.length rd.assign ((rd.params.zip as).foldl (fun t (q : Nat × A) => t.set q.1 q.2) rd.ts) hp lp fun e ts hp lp =>
        match e with
        | .normal => optK lp[i]? fun st => match st with
          | .ready rd => setK lp i (.busy rd) fun lp => lenK hp 0 fun nb => lenK lp 0 fun nl => rec nb nl rd.body ts hp lp fun e _ hp lp =>
            match e with
            | .normal => optK lp[i]? fun st => match st with
              | .busy rd => setK lp i (.ready rd) fun lp => kk (.v (.bool true)) hp lp
              | _ => False
            | e => optK lp[i]? fun st => match st with
              | .busy rd => setK lp i (.done e) fun lp => kk (.v (.bool false)) hp lp
              | _ => False
          | _ => False
        | _ => False) (r' : Option Nat) (N : Nat) :
    ∃ fn tmps assign body, (Instr.yield l args).run P w = .ok (.round l fn tmps assign body) w ∧
      RoundIn (FW r') N P l fn tmps assign body w fun e w' => ∃ v a hp' lp' Γ' g', e = .returned v ∧ kk a hp' lp' ∧ Mv B0 w0 g w hp lp Γ g' w' hp' lp' Γ' ∧ VR g' w' (hf hp') a v := by
  have h0 := ld.st i l _ hi hlp
  obtain ⟨hrd, hob⟩ := h0
  obtain ⟨f1, f2, f3, f4⟩ := hβ.fit i rd (.inl hlp)
  change (Γ i).2.params.toList = (Γ i).1.params at f1
  change (Γ i).2.assign = (Γ i).1.assign at f2
  change (Γ i).2.body = (Γ i).1.body at f3
  change TS g w (hf hp) (Γ i).1.ts (Γ i).2.tmps at f4
  have hmem := List.mem_of_getElem? hi
  refine ⟨_, _, _, _, run_yield hob (by rw [← hl, hlen, hrd, ← f1]; simp), ?_⟩
  refine roundIn_of_wpIn trivial ?_
  dsimp only
  rw [f2, ← hrd]
  have hβ2 : BOk (Bs.here g w hp lp Γ) (some l) := ⟨hβ.fit, hβ.live, hβ.len, hβ.lt, fun l' h => by cases h; exact hmem⟩
  have hts : TS g w (hf hp) ((rd.params.zip as).foldl (fun t (q : Nat × A) => t.set q.1 q.2) rd.ts) (((Γ i).2.params.zip args).foldl (fun t (q : Nat × Value) => t.setIfInBounds q.1 q.2) (Γ i).2.tmps) := by
    rw [foldl_zip, f1, ← hrd]
    rw [← hrd] at f4
    exact TS.params rd.params as rd.ts args.toList _ f4 (by simpa using hl) (fun j hj => by rw [toList_getD]; exact hv j hj)
  have h1 := hrec (some l) (Bs.here g w hp lp Γ) N rd.assign _ hp lp _ Γ g w { tmps := ((Γ i).2.params.zip args).foldl (fun t (q : Nat × Value) => t.setIfInBounds q.1 q.2) (Γ i).2.tmps, defers := [] } hβ2 hk (Fr.begin hs ld hts (fun h => by cases h))
  refine wpIn_mono h1 ?_
  rintro e act1 w1 ⟨x, ts1, hp1, lp1, Γ1, g1, rfl, hk1, fr1⟩
  cases x <;> try exact hk1.elim
  obtain ⟨st1, hst1, hk2⟩ := optK_elim hk1
  cases st1 <;> try exact hk2.elim
  rename_i rd1
  simp only [setK_eq, lenK_eq, Nat.zero_add] at hk2
  have hi1 : g1.ls[i]? = some l := fr1.ev.ls i l hi
  have hil : i < lp.length := (List.getElem?_eq_some_iff.1 hlp).1
  obtain ⟨hrd1, hob1⟩ := fr1.ld.st i l _ hi1 hst1
  have hG1 : Γ1 i = Γ i := fr1.gam i hil
  have m1 := fr1.mv
  have mp1 := Mv.put (s' := .busy rd1) fr1.sw fr1.ld hi1 hob1 (r2 := { (Γ1 i).2 with state := .busy, pending := none }) ⟨hrd1, rfl⟩ (fun rd' h => by rcases h with h | h <;> cases h; exact .inl hst1)
  refine ⟨_, run_beginRound hob1 rfl, ?_⟩
  have fr1' := fr1.move mp1
  have hβ3 : BOk (Bs.here g1 (w1.putObj l (.loop { (Γ1 i).2 with state := .busy, pending := none })) hp1 (lp1.set i (.busy rd1)) Γ1) (some l) := hβ2.here fr1' (fun l' h => by cases h; exact List.mem_of_getElem? hi1)
  have hbody : (Γ i).2.body = rd1.body := by rw [f3, hrd1, hG1]
  rw [hbody]
  have h2 := hrec (some l) (Bs.here g1 (w1.putObj l (.loop { (Γ1 i).2 with state := .busy, pending := none })) hp1 (lp1.set i (.busy rd1)) Γ1) N rd1.body ts1 hp1 (lp1.set i (.busy rd1)) _ Γ1 g1 _ act1 hβ3 hk2
    (Fr.begin fr1'.sw fr1'.ld fr1'.ts (fun h => by cases h))
  refine wpIn_mono h2 ?_
  rintro e act2 w2 ⟨x, ts2, hp2, lp2, Γ2, g2, rfl, hk3, fr2⟩
  have hi2 : g2.ls[i]? = some l := fr2.ev.ls i l hi1
  have m2 := fr2.mv
  cases x with
  | normal =>
    obtain ⟨st2, hst2, hk4⟩ := optK_elim hk3
    cases st2 <;> try exact hk4.elim
    rename_i rd2
    simp only [setK_eq] at hk4
    obtain ⟨hrd2, hob2⟩ := fr2.ld.st i l _ hi2 hst2
    have mp2 := Mv.put (s' := .ready rd2) fr2.sw fr2.ld hi2 hob2 (r2 := { (Γ2 i).2 with state := .ready, pending := none }) ⟨hrd2, rfl⟩ (fun rd' h => by rcases h with h | h <;> cases h; exact .inr hst2)
    exact ⟨_, _, run_endRound none hob2, _, _, _, _, _, _, rfl, hk4, ((m1.trans mp1).trans m2).trans mp2, .v _ rfl⟩
  | ret =>
    obtain ⟨st2, hst2, hk4⟩ := optK_elim hk3
    cases st2 <;> try exact hk4.elim
    rename_i rd2
    simp only [setK_eq] at hk4
    obtain ⟨hrd2, hob2⟩ := fr2.ld.st i l _ hi2 hst2
    have mp2 := Mv.put (s' := .done .ret) fr2.sw fr2.ld hi2 hob2 (r2 := { (Γ2 i).2 with state := .done, pending := some .ret }) ⟨by simp, rfl⟩ (fun rd' h => by rcases h with h | h <;> cases h)
    exact ⟨_, _, run_endRound (some .ret) hob2, _, _, _, _, _, _, rfl, hk4, ((m1.trans mp1).trans m2).trans mp2, .v _ rfl⟩
  | exit id =>
    obtain ⟨st2, hst2, hk4⟩ := optK_elim hk3
    cases st2 <;> try exact hk4.elim
    rename_i rd2
    simp only [setK_eq] at hk4
    obtain ⟨hrd2, hob2⟩ := fr2.ld.st i l _ hi2 hst2
    have mp2 := Mv.put (s' := .done (.exit id)) fr2.sw fr2.ld hi2 hob2 (r2 := { (Γ2 i).2 with state := .done, pending := some (.exit id) }) ⟨by simp, rfl⟩ (fun rd' h => by rcases h with h | h <;> cases h)
    exact ⟨_, _, run_endRound (some (.exit id)) hob2, _, _, _, _, _, _, rfl, hk4, ((m1.trans mp1).trans m2).trans mp2, .v _ rfl⟩

end Go.YtoeophdffhmpmaaE
