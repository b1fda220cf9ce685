/- The engine: results, a round's parameters, a new frame, a loop's record turned. -/
import Derived.Test.YtoeophdffhmpmaaE19
set_option linter.unusedVariables false
set_option linter.unusedSimpArgs false
namespace Go.YtoeophdffhmpmaaE
open Go Go.RowKit

variable {P : Program} {B0 : Nat} {w0 : Wz} {c : Hp} {p : Nat} {o : Oper} {ts : List A} {hp : List Blk}

def resF (tmps : Array Value) : ResultVar → Sem Value
  | .tmp t => pure (tmps.getD t undef)
  | .cell a t => do loadVar t (← asAddr (tmps.getD a undef))
theorem results_eq (fn : Func) (tmps : Array Value) : results fn tmps = (do let vs ← fn.results.mapM (resF tmps); pure (if h : vs.size = 1 then vs[0] else .tuple vs)) := by
  unfold results
  congr 1
theorem resVals_sound {rs : List ResultVar} {k : List A → Prop} (hk : resVals P hp ts rs k) :
    ∃ as, k as ∧ as.length = rs.length ∧ ∀ (g : Gh) (w : World) (tmps : Array Value), SW B0 w0 g w (hf hp) → TS g w (hf hp) ts tmps →
      ∃ vs : List Value, (rs.mapM (resF tmps)).run P w = .ok vs w ∧ vs.length = rs.length ∧
        ∀ i, i < as.length → VR g w (hf hp) (as.getD i .un) (vs.getD i undef) := by
  induction rs generalizing k with
  | nil => exact ⟨[], hk, rfl, fun g w tmps _ _ => ⟨[], by simp, rfl, fun i hi => by simp at hi⟩⟩
  | cons r rs ih =>
    cases r with
    | tmp t =>
      change force (ts.getD t .un) (fun a => resVals P hp ts rs fun as => k (a :: as)) at hk
      rw [force_eq] at hk
      obtain ⟨as, h1, h2, h3⟩ := ih hk
      refine ⟨_, h1, by simp [h2], fun g w tmps hs ht => ?_⟩
      obtain ⟨vs, q1, q2, q3⟩ := h3 g w tmps hs ht
      refine ⟨tmps.getD t undef :: vs, by rw [List.mapM_cons, Sem.run_bind, show resF tmps (.tmp t) = pure (tmps.getD t undef) from rfl, Sem.run_pure, Result.andThen_ok, Sem.run_bind, q1, Result.andThen_ok, Sem.run_pure], by simp [q2], fun i hi => ?_⟩
      cases i with
      | zero => exact ht.2 t
      | succ i => exact q3 i (by simpa using hi)
    | cell c t =>
      change tyK P t (fun d size => match ts.getD c .un with
        | .pt b _ _ 0 fo => match hp.getD b .hole with
          | .bx _ cells => loadB (isAggD d) size cells fo fun a => resVals P hp ts rs fun as => k (a :: as)
          | _ => False
        | _ => False) at hk
      obtain ⟨d, i, hu, hi, h1⟩ := tyK_elim hk
      cases hc : ts.getD c .un <;> rw [hc] at h1 <;> try exact h1.elim
      rename_i b ver es ii fo
      cases ii <;> try exact h1.elim
      change (match hp.getD b .hole with | .bx _ cells => loadB (isAggD d) i.size cells fo fun a => resVals P hp ts rs fun as => k (a :: as) | _ => False) at h1
      cases hb : hp.getD b .hole <;> rw [hb] at h1 <;> try exact h1.elim
      rename_i fz cells
      obtain ⟨a, h2, h3⟩ := loadB_sound hu hi h1
      obtain ⟨as, h4, h5, h6⟩ := ih h2
      refine ⟨_, h4, by simp [h5], fun g w tmps hs ht => ?_⟩
      obtain ⟨vs, q1, q2, q3⟩ := h6 g w tmps hs ht
      have hr := ht.2 c
      rw [hc] at hr
      have hh : hf hp b = .bx fz cells := hb
      obtain ⟨_, hlive, hvr, hes, hxx⟩ := hr.pt_inv
      rw [hh] at hvr hes hxx
      have hv0 : ver = 0 := by simpa [Blk.ver] using hvr
      have hx1 := hxx hv0
      simp only [Nat.zero_mul] at hx1
      have hbr := hs.sh.blk b
      rw [hh] at hbr
      obtain ⟨arr, E, r1, r2, r3⟩ := hbr
      obtain ⟨v, l1, l2⟩ := h3 g w (hf hp) (g.m b) 0 (fun j => arr.getD j undef) (fun j hj => by
        have : j < arr.size := by omega
        simp [World.cell?, r1, Array.getD, this]) r3
      refine ⟨v :: vs, by rw [List.mapM_cons, Sem.run_bind, show resF tmps (.cell c t) = (do loadVar t (← asAddr (tmps.getD c undef))) from rfl, Sem.run_bind, hx1, show asAddr (.pointer (some ⟨g.m b, 0 + fo, none⟩)) = pure ⟨g.m b, 0 + fo, none⟩ from rfl, Sem.run_pure, Result.andThen_ok, l1, Result.andThen_ok, Sem.run_bind, q1, Result.andThen_ok, Sem.run_pure], by simp [q2], fun i hi => ?_⟩
      cases i with
      | zero => exact l2
      | succ i => exact q3 i (by simpa using hi)
theorem resK_sound {fn : Func} {k : A → Prop} (hk : resK P fn ts hp k) :
    ∃ a, k a ∧ ∀ (g : Gh) (w : World) (tmps : Array Value), SW B0 w0 g w (hf hp) → TS g w (hf hp) ts tmps → ∃ v, (results fn tmps).run P w = .ok v w ∧ VR g w (hf hp) a v := by
  obtain ⟨as, h1, h2, h3⟩ := resVals_sound (B0 := B0) (w0 := w0) (show resVals P hp ts fn.results.toList _ from hk)
  have hrun : ∀ (g : Gh) (w : World) (tmps : Array Value), SW B0 w0 g w (hf hp) → TS g w (hf hp) ts tmps → ∃ vs : Array Value, vs.size = as.length ∧ (∀ i, i < as.length → VR g w (hf hp) (as.getD i .un) (vs.getD i undef)) ∧
      (results fn tmps).run P w = .ok (if h : vs.size = 1 then vs[0] else .tuple vs) w := fun g w tmps hs ht => by
    obtain ⟨vs, q1, q2, q3⟩ := h3 g w tmps hs ht
    refine ⟨vs.toArray, by simp [h2, q2], fun i hi => ?_, ?_⟩
    · have := q3 i hi
      have e : vs.toArray.getD i undef = vs.getD i undef := by rw [← toList_getD]
      rw [e]; exact this
    · rw [results_eq, Array.mapM_eq_mapM_toList, Sem.run_bind]
      simp only [Sem.run_map, q1, Result.andThen_ok, Sem.run_pure]
  cases as with
  | nil =>
    refine ⟨.tup [], h1, fun g w tmps hs ht => ?_⟩
    obtain ⟨vs, e1, e2, e3⟩ := hrun g w tmps hs ht
    rw [dif_neg (by rw [e1]; simp)] at e3
    exact ⟨_, e3, .tup [] vs e1.symm e2⟩
  | cons a as => cases as with
    | nil =>
      refine ⟨a, h1, fun g w tmps hs ht => ?_⟩
      obtain ⟨vs, e1, e2, e3⟩ := hrun g w tmps hs ht
      rw [dif_pos (show vs.size = 1 from e1)] at e3
      refine ⟨_, e3, ?_⟩
      have := e2 0 (by simp)
      have e : vs.getD 0 undef = vs[0]'(by rw [e1]; simp) := by simp [Array.getD, e1]
      rw [e] at this
      exact this
    | cons b as =>
      refine ⟨.tup (a :: b :: as), h1, fun g w tmps hs ht => ?_⟩
      obtain ⟨vs, e1, e2, e3⟩ := hrun g w tmps hs ht
      rw [dif_neg (by rw [e1]; simp)] at e3
      exact ⟨_, e3, .tup _ vs e1.symm e2⟩

theorem paramsK_eq (ps : List Nat) (vs ts : List A) (k : List A → Prop) : paramsK ps vs ts k = k ((ps.zip vs).foldl (fun t (q : Nat × A) => t.set q.1 q.2) ts) := by
  induction ps generalizing vs ts with
  | nil => rfl
  | cons p ps ih => cases vs with
    | nil => rfl
    | cons v vs => show setK ts p v (fun ts => paramsK ps vs ts k) = _; rw [setK_eq]; exact ih vs (ts.set p v)
theorem TS.params {g : Gh} {w : World} {h : Hp} (ps : List Nat) : ∀ (as ts : List A) (vs : List Value) (tmps : Array Value), TS g w h ts tmps → as.length = vs.length → (∀ i, i < as.length → VR g w h (as.getD i .un) (vs.getD i undef)) →
    TS g w h ((ps.zip as).foldl (fun t (q : Nat × A) => t.set q.1 q.2) ts) ((ps.zip vs).foldl (fun t (q : Nat × Value) => t.setIfInBounds q.1 q.2) tmps) := by
  induction ps with
  | nil => exact fun as ts vs tmps t _ _ => t
  | cons p ps ih =>
    intro as ts vs tmps t hl hv
    cases as with
    | nil => cases vs with
      | nil => exact t
      | cons v vs => simp at hl
    | cons a as => cases vs with
      | nil => simp at hl
      | cons v vs =>
        exact ih as (ts.set p a) vs (tmps.setIfInBounds p v) (t.put (hv 0 (by simp)) p) (by simpa using hl) (fun i hi => hv (i + 1) (by simpa using hi))
theorem foldl_zip (ps : Array Nat) (args tmps : Array Value) : (ps.zip args).foldl (fun t (q : Nat × Value) => t.setIfInBounds q.1 q.2) tmps = (ps.toList.zip args.toList).foldl (fun t (q : Nat × Value) => t.setIfInBounds q.1 q.2) tmps := by
  rw [← Array.foldl_toList, Array.toList_zip]
/-- A new frame's temporaries. -/
theorem TS.frame {g : Gh} {w : World} {h : Hp} {as : List A} {args : Array Value} (hl : as.length = args.size) (hv : ∀ i, i < as.length → VR g w h (as.getD i .un) (args.getD i undef)) (n : Nat) :
    TS g w h (as ++ List.replicate (n - as.length) .un) (args ++ Array.replicate (n - args.size) undef) := by
  refine ⟨by simp [hl], fun t => ?_⟩
  by_cases ht : t < as.length
  · have := hv t ht
    rw [List.getD_eq_getElem?_getD, List.getElem?_append_left ht, ← List.getD_eq_getElem?_getD]
    have e : (args ++ Array.replicate (n - args.size) undef).getD t undef = args.getD t undef := by
      have h2 : t < args.size := by omega
      rw [Array.getD_eq_getD_getElem?, Array.getElem?_append_left h2, ← Array.getD_eq_getD_getElem?]
    rw [e]; exact this
  · have e : (as ++ List.replicate (n - as.length) A.un).getD t .un = .un := by
      rw [List.getD_eq_getElem?_getD, List.getElem?_append_right (by omega), List.getElem?_replicate]
      split <;> rfl
    rw [e]; exact .un _
theorem frameK_eq (fn : Func) (as : List A) (k : List A → Prop) : frameK fn as k = k (as ++ List.replicate (fn.ntmps - as.length) .un) := by
  unfold frameK; rw [snocK_eq]

/-! ### Records that turn -/
theorem nodup_inj {l : List Nat} (h : l.Nodup) {i j a : Nat} (hi : l[i]? = some a) (hj : l[j]? = some a) : i = j := by
  obtain ⟨q1, q2⟩ := List.getElem?_eq_some_iff.1 hi
  obtain ⟨q3, q4⟩ := List.getElem?_eq_some_iff.1 hj
  have hp := List.pairwise_iff_getElem.1 h
  rcases Nat.lt_trichotomy i j with hlt | he | hgt
  · exact absurd (q2.trans q4.symm) (hp i j q1 q3 hlt)
  · exact he
  · exact absurd (q4.trans q2.symm) (hp j i q3 q1 hgt)
section
variable {g : Gh} {w : World} {h : Hp} {Γ : Gam} {lp : List Lp}
theorem put_csame {l : Nat} {o1 o2 : Obj} (h1 : w.heap[l]? = some o1) (hc : o1.isCells = false) (x : Nat) : CSame w (w.putObj l o2) x := by
  intro arr E z hx
  have hne : x ≠ l := fun e => by subst e; rw [h1] at hx; cases hx; cases hc
  rw [World.putObj_heap_other hne]; exact hx
/-- What is no cells may turn, from B0 on. -/
theorem SW.put (s : SW B0 w0 g w h) {l : Nat} {o1 o2 : Obj} (h1 : w.heap[l]? = some o1) (hc : o1.isCells = false) (hl : B0 ≤ l) : Ev g w h g (w.putObj l o2) h ∧ SW B0 w0 g (w.putObj l o2) h := by
  have e : Ev g w h g (w.putObj l o2) h := ⟨fun b hb => ⟨hb, Nat.le_refl _, rfl, fun _ => ⟨rfl, rfl⟩⟩, fun x hx => ⟨hx, put_csame h1 hc x⟩, fun _ _ h => h, by simp⟩
  refine ⟨e, ⟨⟨s.sh.inj, s.sh.lo, fun x hx => by simpa using s.sh.imm x hx, s.sh.sep, s.sh.fro, fun b => ?_⟩, s.be.trans ⟨rfl, rfl, rfl, by simp, fun k hk => World.putObj_heap_other (by omega)⟩, by simpa using s.b0, s.ib⟩⟩
  by_cases hlb : Live h b
  · refine BR.mono e rfl rfl (World.putObj_heap_other (fun e => ?_)) (s.sh.blk b)
    have := s.sh.blk b
    unfold Live at hlb
    generalize h b = k at this hlb
    cases k with
    | hole => exact hlb rfl
    | bx f cells => obtain ⟨arr, E, r1, _⟩ := this; rw [e, h1] at r1; cases r1; cases hc
    | rw f nx v es els => obtain ⟨arr, E, r1, _⟩ := this; rw [e, h1] at r1; cases r1; cases hc
  · have : h b = .hole := Classical.byContradiction hlb
    rw [this]; trivial
theorem EW.put {l : Nat} {o2 : Obj} (e : Ev g w h g (w.putObj l o2) h) (hl : l ∈ g.ls) : EW g w h g (w.putObj l o2) h :=
  ⟨e, fun x hx => .inl hx, fun x o hx hc hn => by rw [World.putObj_heap_other (fun (ee : x = l) => hn (by rw [ee]; exact hl))]; exact hx⟩
theorem LD.put (ld : LD B0 Γ lp g w) {i l : Nat} (hi : g.ls[i]? = some l) {r1 r2 : Loop} (h1 : w.heap[l]? = some (.loop r1)) {s : Lp} (hs : LSt (Γ i) s (some (.loop r2))) : LD B0 Γ (lp.set i s) g (w.putObj l (.loop r2)) := by
  have hlt : l < w.heap.size := (Array.getElem?_eq_some_iff.1 h1).1
  have hil : i < g.ls.length := (List.getElem?_eq_some_iff.1 hi).1
  refine ⟨ld.lo, by simpa using ld.len, ld.nd, fun j l' s' hj hs' => ?_⟩
  by_cases hji : j = i
  · subst hji
    rw [hi] at hj
    cases hj
    rw [List.getElem?_set_self (by rw [← ld.len]; exact hil)] at hs'
    cases hs'
    rw [World.putObj_heap_same hlt]; exact hs
  · have hne : l' ≠ l := fun e => by
      subst e
      exact hji (nodup_inj ld.nd hj hi)
    rw [List.getElem?_set_ne (fun e => hji e.symm)] at hs'
    rw [World.putObj_heap_other hne]
    exact ld.st j l' s' hj hs'
end
end Go.YtoeophdffhmpmaaE
