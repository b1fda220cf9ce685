/- The engine: regions that draw are sound. -/
import Derived.Test.YtoeophdffhmpmaaE26
set_option linter.unusedVariables false
set_option linter.unusedSimpArgs false
namespace Go.YtoeophdffhmpmaaE
open Go Go.RowKit

variable {P : Program} {B0 : Nat} {w0 : Wz} {c : Hp} {p : Nat} {o : Oper} {ts : List A} {hp : List Blk}

/-- The own heap where some of the quiet operations have been taken. -/
noncomputable def hS (nF : Nat → List Blk) (hp : List Blk) (m : Nat) (S : Nat → Bool) : Hp := fun b =>
  @ite _ (b < hp.length ∨ ∃ i, i < m ∧ S i = true ∧ (hpC nF hp i).length ≤ b ∧ b < (hpC nF hp (i + 1)).length) (Classical.propDecidable _) (hf (hpC nF hp m) b) .hole
section
variable {nF : Nat → List Blk} {m : Nat} {S S' : Nat → Bool}
theorem hS_in {b : Nat} (h : b < hp.length ∨ ∃ i, i < m ∧ S i = true ∧ (hpC nF hp i).length ≤ b ∧ b < (hpC nF hp (i + 1)).length) : hS nF hp m S b = hf (hpC nF hp m) b := by unfold hS; rw [if_pos h]
theorem hS_out {b : Nat} (h : ¬ (b < hp.length ∨ ∃ i, i < m ∧ S i = true ∧ (hpC nF hp i).length ≤ b ∧ b < (hpC nF hp (i + 1)).length)) : hS nF hp m S b = .hole := by unfold hS; rw [if_neg h]
theorem hS_none : hS nF hp m (fun _ => false) = hf hp := by
  funext b
  by_cases hb : b < hp.length
  · rw [hS_in (.inl hb)]; exact hpC_pre nF hp (Nat.zero_le m) hb
  · rw [hS_out (by rintro (h | ⟨i, _, h, _⟩); exact hb h; cases h)]
    exact (Classical.byContradiction (hf_none hp b (by omega))).symm
theorem hpC_where : ∀ m b, hp.length ≤ b → b < (hpC nF hp m).length → ∃ i, i < m ∧ (hpC nF hp i).length ≤ b ∧ b < (hpC nF hp (i + 1)).length := by
  intro m
  induction m with
  | zero => intro b h1 h2; simp only [hpC] at h2; omega
  | succ m ih =>
    intro b h1 h2
    by_cases hb : b < (hpC nF hp m).length
    · obtain ⟨i, hi, h3⟩ := ih b h1 hb
      exact ⟨i, by omega, h3⟩
    · exact ⟨m, Nat.lt_succ_self m, by omega, h2⟩
theorem hS_all (h : ∀ i, i < m → S i = true) : hS nF hp m S = hf (hpC nF hp m) := by
  funext b
  by_cases hb : b < (hpC nF hp m).length
  · by_cases hb0 : b < hp.length
    · exact hS_in (.inl hb0)
    · obtain ⟨i, hi, h3⟩ := hpC_where m b (by omega) hb
      exact hS_in (.inr ⟨i, hi, h i hi, h3⟩)
  · have e : hf (hpC nF hp m) b = .hole := Classical.byContradiction (hf_none _ b (by omega))
    unfold hS
    rw [e]; split <;> rfl
theorem hS_agree {j : Nat} (hj : j ≤ m) (b : Nat) (h1 : Live (hS nF hp m S) b) (h2 : Live (hf (hpC nF hp j)) b) : hS nF hp m S b = hf (hpC nF hp j) b := by
  have hb := live_lt h2
  rw [← hpC_pre nF hp hj hb]
  unfold Live hS at h1
  unfold hS
  split
  · rfl
  · rename_i h; rw [if_neg h] at h1; exact absurd rfl h1
theorem hS_free {j : Nat} (hj : j < m) (hSj : S j = false) (b : Nat) (h1 : (hpC nF hp j).length ≤ b) (h2 : b < (hpC nF hp j).length + (nF j).length) : ¬ Live (hS nF hp m S) b := by
  refine fun hl => hl (hS_out ?_)
  have h0 := hpC_le nF hp (Nat.zero_le j)
  simp only [hpC] at h0
  rintro (h | ⟨i, hi, hSi, h3, h4⟩)
  · omega
  · have hs : (hpC nF hp (j + 1)).length = (hpC nF hp j).length + (nF j).length := by rw [hpC, List.length_append]
    rcases Nat.lt_trichotomy i j with hlt | he | hgt
    · have := hpC_le nF hp (show i + 1 ≤ j by omega); omega
    · subst he; rw [hSi] at hSj; cases hSj
    · have := hpC_le nF hp (show j + 1 ≤ i by omega); omega
theorem hS_add {j : Nat} (hj : j < m) (hS' : S' j = true) (hne : ∀ i, i ≠ j → S' i = S i) : addH (hS nF hp m S) (hpC nF hp j).length (nF j) = hS nF hp m S' := by
  have hs : (hpC nF hp (j + 1)).length = (hpC nF hp j).length + (nF j).length := by rw [hpC, List.length_append]
  funext b
  unfold addH
  by_cases hb : (hpC nF hp j).length ≤ b ∧ b < (hpC nF hp j).length + (nF j).length
  · rw [if_pos hb, hS_in (.inr ⟨j, hj, hS', hb.1, by omega⟩), hpC_pre nF hp (show j + 1 ≤ m by omega) (by omega)]
    have : b = (hpC nF hp j).length + (b - (hpC nF hp j).length) := by omega
    rw [hpC]
    conv => rhs; rw [this]
    rw [hf_append_ge]; rfl
  · rw [if_neg hb]
    by_cases h : b < hp.length ∨ ∃ i, i < m ∧ S i = true ∧ (hpC nF hp i).length ≤ b ∧ b < (hpC nF hp (i + 1)).length
    · rw [hS_in h, hS_in ?_]
      rcases h with h | ⟨i, hi, h3, h4⟩
      · exact .inl h
      · refine .inr ⟨i, hi, ?_, h4⟩
        by_cases hij : i = j
        · subst hij; exact hS'
        · rw [hne i hij]; exact h3
    · rw [hS_out h, hS_out ?_]
      rintro (h' | ⟨i, hi, h3, h4⟩)
      · exact h (.inl h')
      · by_cases hij : i = j
        · subst hij; exact hb ⟨h4.1, by omega⟩
        · exact h (.inr ⟨i, hi, by rw [← hne i hij]; exact h3, h4⟩)
end

theorem name_tmp {all : Array Oper} {x y : Oper} {d : Nat} (hx : x.dst = some d) (hy : d ∈ y.looksAt all ∨ y.dst = some d) : nameB all x y = true := by
  unfold nameB
  rw [hx]
  simp only [Option.any_some, Bool.or_eq_true, List.contains_iff_mem, beq_iff_eq]
  exact hy

theorem any_sound (pf : PF P) {E : EqT} {env : Env} (hE : EqOk P E) (henv : EnvOk P env) {inl : Inl} (hinl : InlOk P B0 w0 inl) {r : Option Nat} {β : Bs} (hβ : BOk β r) {ops : Array Oper} {id N : Nat} {k : List A → List Blk → List Lp → Prop}
    {lp : List Lp} {Γ : Gam} {g : Gh} {w : World} {act : Act} {Q : Exit → Act → World → Prop} (hk : anyK P E env inl ops.toList ops.toList.length (List.replicate ops.toList.length false) ts hp lp k) (fr : Fr B0 w0 r β Γ g w hp lp ts act)
    (hQ : ∀ ts hp lp Γ g w act, k ts hp lp → Fr B0 w0 r β Γ g w hp lp ts act → Q .normal act w) : (Code.region id ops true).wpIn (FW r) N P Q act w := by
  refine wpIn_region_any pf.mix ?_
  have main : ∀ (fuel : Nat) (listed : List Bool) (ts : List A) (hp : List Blk) (lp : List Lp) (Γ : Gam) (g : Gh) (w : World) (act : Act), anyK P E env inl ops.toList fuel listed ts hp lp k → Fr B0 w0 r β Γ g w hp lp ts act → wpAnyIn (FW r) N P .any ops Q fuel listed.toArray act w := by
    intro fuel
    induction fuel with
    | zero =>
      intro listed ts hp lp Γ g w act hk f
      obtain ⟨h1, h2⟩ := hk
      exact ⟨by simpa using h1, hQ ts hp lp Γ g w act h2 f⟩
    | succ fuel ih =>
      intro listed ts hp lp Γ g w act hk f
      obtain ⟨rs, h1, h2⟩ := hk
      have h1 : Region.ready .any ops listed.toArray = rs := by simpa using h1
      cases rs with
      | nil => exact wpAnyIn_done h1 (hQ ts hp lp Γ g w act h2 f) _
      | cons i is =>
        refine wpAnyIn_all h1 (by simp) ?_
        have all : ∀ (is : List Nat), allK is (fun i => optK ops.toList[i]? fun o => opsS P E env inl ops.toList [o] ts hp lp fun ts hp lp => setK listed i true fun listed => anyK P E env inl ops.toList fuel listed ts hp lp k) →
            ∀ i ∈ is, wpOpIn (FW r) N P ops Q i (wpAnyIn (FW r) N P .any ops Q fuel (listed.toArray.setIfInBounds i true)) act w := by
          intro is
          induction is with
          | nil => intro _ i hi; cases hi
          | cons j is ih2 =>
            intro h i hi
            obtain ⟨q1, q2⟩ := (show _ ∧ _ from h)
            rcases List.mem_cons.1 hi with rfl | hi
            · obtain ⟨o, ho, hk3⟩ := optK_elim q1
              refine wpOpIn_step (o := o) (by simpa using ho) fun K' hK' => ?_
              have := op1_sound hE henv hinl hβ (all := ops.toList) (N := N) (Q := Q) (next := K') (fun ts hp lp Γ g w act hk f => hK' _ _ (by
                rw [setK_eq] at hk
                have := ih _ ts hp lp Γ g w act hk f
                simpa using this)) o ts hp lp Γ g w act hk3 f
              simpa using this
            · exact ih2 q2 i hi
        exact all _ h2
  have hbd : Below w.heap.size w { w with drawn := w.drawn + 1 } := ⟨rfl, rfl, rfl, Nat.le_refl _, fun _ _ => rfl⟩
  have eb0 : EB g w (hf hp) g { w with drawn := w.drawn + 1 } (hf hp) := ⟨Ev.below fr.sw hbd, rfl, fun x o h _ => h⟩
  have fr2 : Fr B0 w0 r β Γ g { w with drawn := w.drawn + 1 } hp lp ts act := fr.move (Mv.eb fr.ld eb0 (fr.sw.same hbd))
  have := main _ _ ts hp lp Γ g _ act hk fr2
  simpa using this
theorem draws_ok (pf : PF P) {E : EqT} {env : Env} (hE : EqOk P E) (henv : EnvOk P env) : DrawsOk P E env := by
  intro B0 w0 inl r β ops id N k ts hp lp Γ g w act Q hinl hβ hk fr hQ hpan
  rcases hk with ⟨m, hd, hk1⟩ | hk
  rotate_left
  · exact any_sound pf hE henv hinl hβ hk fr hQ
  obtain ⟨hml, hk2⟩ := takeK_elim hk1
  rw [dropK_eq] at hk2
  have hd0 := hd
  unfold okD at hd
  simp only [Bool.and_eq_true] at hd
  obtain ⟨⟨⟨d1, d2⟩, d3⟩, d4, d5⟩ := hd
  have hmn : m ≤ ops.size := by simpa using hml
  obtain ⟨aF, nF, hk3, hsp⟩ := opsQ_elim (B0 := B0) (w0 := w0) hE henv _ _ _ _ hk2
  have hlen : (ops.toList.take m).length = m := by simp; omega
  rw [hlen] at hk3
  have hms := masks_ok ops.toList
  have hop : ∀ j o, j < m → ops[j]? = some o → (ops.toList.take m)[j]? = some o := fun j o hj ho => by
    rw [List.getElem?_take_of_lt hj]; simpa using ho
  have hdst : ∀ j o, j < m → ops[j]? = some o → dstF (ops.toList.take m) j = o.dst := fun j o hj ho => by
    unfold dstF; rw [hop j o hj ho]; rfl
  -- the world where the order has been drawn
  have hbd : Below w.heap.size w { w with drawn := w.drawn + 1 } := ⟨rfl, rfl, rfl, Nat.le_refl _, fun _ _ => rfl⟩
  have eb0 : EB g w (hf hp) g { w with drawn := w.drawn + 1 } (hf hp) := ⟨Ev.below fr.sw hbd, rfl, fun x o h _ => h⟩
  have sw0 := fr.sw.same hbd
  -- behind the quiet ones
  have tail : ∀ (g2 : Gh) (w2 : World) (act2 : Act), EB g w (hf hp) g2 w2 (hf (hpC nF hp m)) → SW B0 w0 g2 w2 (hf (hpC nF hp m)) → TS g2 w2 (hf (hpC nF hp m)) (tsC (dstF (ops.toList.take m)) aF (fun _ => true) ts m) act2.tmps → act2.defers = act.defers →
      wpListIn (FW r) N P ops Q (ops.toList.drop m) act2 w2 := fun g2 w2 act2 e2 s2 t2 hdf => by
    have fr2 := fr.move (Mv.eb fr.ld e2 s2)
    have fr3 : Fr B0 w0 r β Γ g2 w2 (hpC nF hp m) lp (tsC (dstF (ops.toList.take m)) aF (fun _ => true) ts m) act2 := ⟨fr2.sw, fr2.ev, t2, fr2.ld, fr2.ao, fr2.gam, fun h => by rw [hdf]; exact fr2.dm h⟩
    have := ops_sound hE henv hinl hβ (all := ops.toList) (N := N) hQ (ops.toList.drop m) _ _ lp Γ g2 w2 act2 hk3 fr3
    simpa using this
  refine wpIn_region_any pf.mix ?_
  have main : ∀ (fuel : Nat) (listed : Array Bool) (g1 : Gh) (w1 : World) (act1 : Act), listed.size = ops.size → ops.size ≤ fuel + cnt (fun j => listed.getD j false) ops.size →
      (∀ j, m ≤ j → listed.getD j false = false) → (∀ (j : Nat) (o : Oper), ops[j]? = some o → listed.getD j false = true → ∀ e ∈ o.after, Region.binds .any e = true → listed.getD e.on false = true) →
      EB g w (hf hp) g1 w1 (hS nF hp m fun j => listed.getD j false) → SW B0 w0 g1 w1 (hS nF hp m fun j => listed.getD j false) →
      TS g1 w1 (hS nF hp m fun j => listed.getD j false) (tsC (dstF (ops.toList.take m)) aF (fun j => listed.getD j false) ts m) act1.tmps → act1.defers = act.defers →
      wpAnyIn (FW r) N P .any ops Q fuel listed act1 w1 := by
    intro fuel
    induction fuel with
    | zero =>
      intro listed g1 w1 act1 hsz hfu hhi hcl e1 s1 t1 hdf
      have hle := cnt_le (fun j => listed.getD j false) ops.size
      have hall := cnt_full (show cnt (fun j => listed.getD j false) ops.size = ops.size by omega)
      have hme : m = ops.size := by
        rcases Nat.lt_or_ge m ops.size with h | h
        · have := hhi m (Nat.le_refl _); have := hall m h; simp_all
        · omega
      have h1 : hS nF hp m (fun j => listed.getD j false) = hf (hpC nF hp m) := hS_all (fun i hi => hall i (by omega))
      have h2 : TS g1 w1 (hf (hpC nF hp m)) (tsC (dstF (ops.toList.take m)) aF (fun _ => true) ts m) act1.tmps := by
        refine ⟨by rw [tsC_length]; have := t1.1; rwa [tsC_length] at this, fun t => ?_⟩
        have := t1.2 t
        rw [h1] at this
        rwa [tsC_agree (S' := fun _ => true) m (fun i hi _ => hall i (by omega))] at this
      rw [h1] at e1 s1
      exact forced m hd0 0 m listed act1 w1 (Nat.le_refl _) hmn hsz (fun j hj => ⟨fun _ => by omega, fun _ => hall j hj⟩) (by omega) (tail g1 w1 act1 e1 s1 h2 hdf)
    | succ fuel ih =>
      intro listed g1 w1 act1 hsz hfu hhi hcl e1 s1 t1 hdf
      by_cases hdone : ∀ j, j < m → listed.getD j false = true
      · -- all quiet ones have been taken
        have h1 : hS nF hp m (fun j => listed.getD j false) = Go.YtoeophdffhmpmaaE.hf (hpC nF hp m) := hS_all hdone
        have h2 : TS g1 w1 (Go.YtoeophdffhmpmaaE.hf (hpC nF hp m)) (tsC (dstF (ops.toList.take m)) aF (fun _ => true) ts m) act1.tmps := by
          refine ⟨by rw [tsC_length]; have := t1.1; rwa [tsC_length] at this, fun t => ?_⟩
          have := t1.2 t
          rw [h1] at this
          rwa [tsC_agree (S' := fun _ => true) m (fun i hi _ => hdone i hi)] at this
        rw [h1] at e1 s1
        have hcm : cnt (fun j => listed.getD j false) ops.size = m := by
          have key : ∀ k, m ≤ k → cnt (fun j => listed.getD j false) k = m := by
            intro k
            induction k with
            | zero => intro h; have : m = 0 := by omega
                      subst this; rfl
            | succ k ihk =>
              intro h
              rw [cnt]
              by_cases hmk : m = k + 1
              · subst hmk
                have hfull : ∀ k', k' ≤ k + 1 → cnt (fun j => listed.getD j false) k' = k' := by
                  intro k'
                  induction k' with
                  | zero => intro _; rfl
                  | succ k' ihk' => intro h'; rw [cnt, ihk' (by omega), if_pos (hdone k' (by omega))]
                rw [hfull k (by omega), if_pos (hdone k (by omega))]
              · rw [ihk (by omega), if_neg (by rw [hhi k (by omega)]; simp)]
                rfl
          exact key ops.size hmn
        exact forced m hd0 (fuel + 1) m listed act1 w1 (Nat.le_refl _) hmn hsz (fun j hj => ⟨fun h => Classical.byContradiction (fun hn => by rw [hhi j (by omega)] at h; cases h), fun h => hdone j h⟩) (by omega) (tail g1 w1 act1 e1 s1 h2 hdf)
      · -- some quiet one is to come
        have hex : ∃ j, j < m ∧ listed.getD j false = false := by
          refine Classical.byContradiction fun hno => hdone fun j hj => ?_
          cases hv : listed.getD j false with
          | true => rfl
          | false => exact absurd ⟨j, hj, hv⟩ hno
        have hclosed : Closed ops.toList (fun j => listed.getD j false = true) := closed_listed listed hcl
        have hmin : ∃ i, i < m ∧ listed.getD i false = false ∧ i ∈ Region.ready .any ops listed := by
          have : ∀ n j, j ≤ n → j < m → listed.getD j false = false → ∃ i, i < m ∧ listed.getD i false = false ∧ i ∈ Region.ready .any ops listed := by
            intro n
            induction n using Nat.strongRecOn with
            | _ n ihn =>
              intro j hjn hjm hv
              by_cases hex2 : ∃ i, i < j ∧ listed.getD i false = false
              · obtain ⟨i, hi, hv'⟩ := hex2
                exact ihn i (by omega) i (Nat.le_refl _) (by omega) hv'
              · have hjs : j < ops.size := by omega
                refine ⟨j, hjm, hv, mem_ready.2 ⟨by rw [getD_any listed j true false (by omega)]; exact hv, ops[j], Array.getElem?_eq_getElem hjs, fun e he hb => ?_⟩⟩
                have hon := upto_spec d1 (show j < ops.toList.length by simpa using hjs)
                rw [Array.getElem?_toList, Array.getElem?_eq_getElem hjs] at hon
                simp only [Option.all_some, List.all_eq_true] at hon
                have hon := hon e (by simpa using he)
                rw [hb] at hon
                have hlt : e.on < j := by simpa using hon
                cases hv2 : listed.getD e.on false with
                | true => rfl
                | false => exact absurd ⟨e.on, hlt, hv2⟩ hex2
          obtain ⟨j, hj, hv⟩ := hex
          exact this j j (Nat.le_refl _) hj hv
        have step : ∀ j o, ops[j]? = some o → j ∈ Region.ready .any ops listed → j < m → wpOpIn (FW r) N P ops Q j (wpAnyIn (FW r) N P .any ops Q fuel (listed.setIfInBounds j true)) act1 w1 := by
          intro j o h2 hj hjm
          obtain ⟨h1, o', h2', h3'⟩ := mem_ready.1 hj
          have ho' : o' = o := by rw [h2] at h2'; exact (Option.some.inj h2').symm
          have h3 : ∀ e ∈ o.after, Region.binds .any e = true → listed.getD e.on false = true := by rw [← ho']; exact h3'
          have hjs := (Array.getElem?_eq_some_iff.1 h2).1
          have hunl : listed.getD j false = false := by rw [← getD_any listed j true false (by omega)]; exact h1
          have hS' : ∀ i, (listed.setIfInBounds j true).getD i false = if i = j then true else listed.getD i false := fun i => getD_set listed j i false (by omega)
          -- what conflicts with j stands in order
          have hbefore : ∀ i x, i < j → ops[i]? = some x → (nameB ops x o = true ∨ nameB ops o x = true) → listed.getD i false = true := fun i x hij hx hn => by
            have hb := upto_spec (upto_spec d2 hjm) hij
            rw [Array.getElem?_toList, Array.getElem?_toList, h2, hx] at hb
            simp only [Option.all_some, Bool.or_eq_true, Bool.not_eq_true', Bool.or_eq_false_iff] at hb
            rcases hb with hb | hb
            · rcases hn with hn | hn
              · have := hb.1; simp only [Array.toArray_toList] at this; rw [hn] at this; cases this
              · have := hb.2; simp only [Array.toArray_toList] at this; rw [hn] at this; cases this
            · exact hms j i o (by simpa using h2) hb _ hclosed h3
          have hafter : ∀ i x, j < i → i < m → ops[i]? = some x → (nameB ops x o = true ∨ nameB ops o x = true) → listed.getD i false = false := fun i x hji him hx hn => by
            cases hv : listed.getD i false with
            | false => rfl
            | true =>
              exfalso
              have hb := upto_spec (upto_spec d2 him) hji
              rw [Array.getElem?_toList, Array.getElem?_toList, h2, hx] at hb
              simp only [Option.all_some, Bool.or_eq_true, Bool.not_eq_true', Bool.or_eq_false_iff] at hb
              rcases hb with hb | hb
              · rcases hn with hn | hn
                · have := hb.2; simp only [Array.toArray_toList] at this; rw [hn] at this; cases this
                · have := hb.1; simp only [Array.toArray_toList] at this; rw [hn] at this; cases this
              · have := hms i j x (by simpa using hx) hb _ hclosed (fun e he hbd => hcl i x hx hv e he hbd)
                rw [hunl] at this; cases this
          have hopx : ∀ i, i < m → ∃ x, ops[i]? = some x := fun i hi => ⟨ops[i]'(by omega), Array.getElem?_eq_getElem (by omega)⟩
          have hrel : ∀ t ∈ o.looksAt ops, VR g1 w1 (hS nF hp m fun j => listed.getD j false) ((tsC (dstF (ops.toList.take m)) aF (fun _ => true) ts j).getD t .un) (act1.tmps.getD t undef) := fun t ht => by
            have h := t1.2 t
            rw [tsC_agree (S' := fun i => decide (i < j)) m ?_, tsC_cut m (by omega)] at h
            · exact h
            · intro i hi hdi
              obtain ⟨x, hx⟩ := hopx i hi
              rw [hdst i x hi hx] at hdi
              rcases Nat.lt_trichotomy i j with hlt | he | hgt
              · rw [hbefore i x hlt hx (.inl (name_tmp hdi (.inl ht)))]; simp [hlt]
              · subst he; rw [hunl]; simp
              · rw [hafter i x hgt hi hx (.inl (name_tmp hdi (.inl ht)))]; simp; omega
          have hstep := hsp j o (hop j o hjm h2) r g1 w1 (hS nF hp m fun j => listed.getD j false) act1 N (wpAnyIn (FW r) N P .any ops Q fuel (listed.setIfInBounds j true)) Q s1
            (fun b hb hc => hS_agree (by omega) b hb hc) (fun b hb hc => hS_free hjm hunl b hb hc) (by simpa using hrel) ?_
          · unfold wpOpIn
            rw [h2]
            simpa using hstep
          · intro v w' g' e2 s2 hv
            have hadd := hS_add (nF := nF) (hp := hp) (m := m) (S := fun j => listed.getD j false) (S' := fun i => (listed.setIfInBounds j true).getD i false) hjm (by simp only [hS']; simp) (fun i hi => by simp only [hS']; simp [hi])
            rw [hadd] at e2 s2 hv
            refine ih _ g' w' _ (by simpa using hsz) ?_ (fun i hi => ?_) (fun i x hx hl e he hb => ?_) (e1.trans e2) s2 ?_ ?_
            · have := cnt_set (p := fun j => listed.getD j false) (q := fun i => (listed.setIfInBounds j true).getD i false) (i := j) hunl (by simp only [hS']; simp) (fun i hi => by simp only [hS']; simp [hi]) hjs
              omega
            · rw [hS', if_neg (by omega)]; exact hhi i hi
            · rw [hS'] at hl ⊢
              by_cases hij : i = j
              · subst hij
                have hxo : x = o := by rw [h2] at hx; exact (Option.some.inj hx).symm
                subst hxo
                have := h3 e he hb
                split
                · rfl
                · exact this
              · rw [if_neg hij] at hl
                have := hcl i x hx hl e he hb
                split
                · rfl
                · exact this
            · have ht2 : TS g' w' (hS nF hp m fun i => (listed.setIfInBounds j true).getD i false) (stp (dstF (ops.toList.take m) j) (aF j) (tsC (dstF (ops.toList.take m)) aF (fun j => listed.getD j false) ts m)) (act1.put o.dst v).tmps := by
                rw [hdst j o hjm h2]
                have := t1.mono e2.toEv
                cases hod : o.dst with
                | none => exact this
                | some d => exact this.put hv d
              refine ⟨by rw [tsC_length]; have := ht2.1; rwa [stp_length, tsC_length] at this, fun t => ?_⟩
              have := ht2.2 t
              rwa [← tsC_put hjm (S' := fun i => (listed.setIfInBounds j true).getD i false) (by simp only [hS']; simp) (fun i hi => by simp only [hS']; simp [hi]) (fun i hji him t hdj hdi => ?_)] at this
              obtain ⟨x, hx⟩ := hopx i him
              rw [hdst i x him hx] at hdi
              rw [hdst j o hjm h2] at hdj
              exact hafter i x hji him hx (.inl (name_tmp hdi (.inr hdj)))
            · cases hod : o.dst <;> exact hdf
        have hcalm : ∀ (j : Nat) (o : Oper), ops[j]? = some o → calmOp o = true := fun j o ho => List.all_eq_true.1 d5 o (by simpa using Array.mem_of_getElem? ho)
        by_cases hflo : ∃ i o, ops[i]? = some o ∧ i ∈ Region.ready .any ops listed ∧ i < m ∧ floB ops.toList (masks ops.toList []) i = true
        · obtain ⟨i, o, h2, hj, him, hfl⟩ := hflo
          unfold floB at hfl
          rw [Array.getElem?_toList, h2] at hfl
          simp only [Option.any_some, Bool.and_eq_true] at hfl
          obtain ⟨hwl, hfl⟩ := hfl
          obtain ⟨v, hy, hkk⟩ := take_of_step h2 hwl (step i o h2 hj him)
          obtain ⟨_, o', h2', h3'⟩ := mem_ready.1 hj
          have ho' : o' = o := by rw [h2] at h2'; exact (Option.some.inj h2').symm
          refine wpAnyIn_firstW h2 hcalm hpan fuel listed act1 w1 (fun j oj hoj hji hun hno => ?_) hj hy hkk
          have hjs := (Array.getElem?_eq_some_iff.1 hoj).1
          have hb := upto_spec hfl (show j < ops.toList.length by simpa using hjs)
          rw [Array.getElem?_toList, hoj] at hb
          simp only [Option.all_some, Bool.or_eq_true, beq_iff_eq] at hb
          rcases hb with hb | (hb | hb) | hb
          · exact absurd hb hji
          · rw [List.any_eq_true] at hb
            obtain ⟨e, he, heb⟩ := hb
            simp only [Bool.and_eq_true, beq_iff_eq] at heb
            exact absurd heb.2 (hno e (by simpa using he) heb.1)
          · have := hms i j o (by simpa using h2) hb _ hclosed (by rw [← ho']; exact h3')
            rw [getD_any listed j true false (by omega), this] at hun; cases hun
          · simpa using hb
        · refine ⟨fun hnil => ?_, fun j hj => ?_⟩
          · obtain ⟨i, _, _, hi⟩ := hmin
            rw [hnil] at hi; cases hi
          · obtain ⟨h1, o, h2, h3⟩ := mem_ready.1 hj
            have hjs := (Array.getElem?_eq_some_iff.1 h2).1
            refine step j o h2 hj ?_
            rcases Nat.lt_or_ge j m with h | h
            · exact h
            · exfalso
              have hb := upto_spec d3 (show j < ops.toList.length by simpa using hjs)
              simp only [Bool.or_eq_true] at hb
              obtain ⟨i, hi, hv, hir⟩ := hmin
              rcases hb with hb | hb
              · have : j < m := Nat.le_of_ble_eq_true hb
                omega
              · have hb2 := upto_spec hb (show i < j by omega)
                simp only [Bool.or_eq_true, Bool.and_eq_true] at hb2
                rcases hb2 with hb2 | hb2
                · have := hms j i o (by simpa using h2) hb2 _ hclosed h3
                  rw [hv] at this; cases this
                · exact hflo ⟨i, ops[i]'(by omega), Array.getElem?_eq_getElem (by omega), hir, hi, hb2.2⟩
  have hf0 : ∀ j, (Array.replicate ops.size false).getD j false = false := fun j => by
    by_cases h : j < ops.size <;> simp [Array.getD, h]
  have hS0 : hS nF hp m (fun j => (Array.replicate ops.size false).getD j false) = hf hp := by
    have : (fun j => (Array.replicate ops.size false).getD j false) = fun _ => false := funext hf0
    rw [this, hS_none]
  refine main ops.size _ g _ act (by simp) (by omega) (fun j _ => hf0 j) (fun j o _ h => by rw [hf0] at h; cases h) (by rw [hS0]; exact eb0) (by rw [hS0]; exact sw0) ?_ rfl
  rw [hS0]
  refine ⟨by rw [tsC_length]; exact fr.ts.1, fun t => ?_⟩
  rw [tsC_agree (S' := fun i => decide (i < 0)) m (fun i _ _ => by rw [hf0]; simp), tsC_cut m (Nat.zero_le _)]
  exact (fr.ts.2 t).mono eb0.toEv

theorem pure_of (pf : PF P) {E : EqT} {env : Env} (hE : EqOk P E) (henv : EnvOk P env) {f n : Nat} {as : List A} {r : Res} (hk : fnK P E env f n as fun a hp => expK hp a r) : Pure P f as r :=
  pure_of_run pf hE henv (draws_ok pf hE henv) hk

end Go.YtoeophdffhmpmaaE
