/- The engine: append. -/
import Derived.Test.YtoeophdffhmpmaaE15
set_option linter.unusedVariables false
set_option linter.unusedSimpArgs false
namespace Go.YtoeophdffhmpmaaE
open Go Go.RowKit

variable {P : Program} {B0 : Nat} {w0 : Wz} {c : Hp} {p : Nat} {o : Oper} {ts : List A} {hp : List Blk}

theorem nat_of_int {a b : Nat} (h : (a : Int) * b ≤ 70368744177664) : a * b ≤ 70368744177664 := by
  have h2 : ((a * b : Nat) : Int) ≤ 70368744177664 := by rw [Int.natCast_mul]; exact h
  omega
def flat (es : Nat) (vals : Nat → Nat → Value) (n : Nat) : List Value := (List.range (n * es)).map fun q => vals (q / es) (q % es)
theorem flat_length (es : Nat) (vals : Nat → Nat → Value) (n : Nat) : (flat es vals n).length = n * es := by simp [flat]
theorem flat_get {es : Nat} {vals : Nat → Nat → Value} {n q : Nat} {u : Value} (h0 : 0 < es) (h : (flat es vals n)[q]? = some u) : ∃ i j, q = i * es + j ∧ i < n ∧ j < es ∧ u = vals i j := by
  obtain ⟨h1, h2⟩ := List.getElem?_eq_some_iff.1 h
  rw [flat_length] at h1
  refine ⟨q / es, q % es, ?_, ?_, Nat.mod_lt _ h0, ?_⟩
  · rw [Nat.mul_comm]; exact (Nat.div_add_mod q es).symm
  · exact (Nat.div_lt_iff_lt_mul h0).2 h1
  · rw [← h2]; simp [flat]
theorem flat_getD {es : Nat} {vals : Nat → Nat → Value} {n i j : Nat} (hi : i < n) (hj : j < es) : (flat es vals n).getD (i * es + j) undef = vals i j := by
  have h0 : 0 < es := by omega
  have := idx_lt hi hj
  have e1 : (i * es + j) / es = i := by rw [Nat.mul_comm, Nat.mul_add_div h0, Nat.div_eq_of_lt hj, Nat.add_zero]
  have e2 : (i * es + j) % es = j := by rw [Nat.mul_comm, Nat.mul_add_mod, Nat.mod_eq_of_lt hj]
  simp [flat, List.getD_eq_getElem?_getD, this, e1, e2]

section
variable {t ty e : TypeId} {i : TypeInfo} {z : Value}
theorem run_append_zero (ht : P.underlying t = some (.slice e)) (hi : P.info? e = some i) (w : World) (p0 a : Option Addr) (n cap cc : Nat) (hn : n ≤ cap) (hp : p0 = none → cap = 0) :
    (Builtin.append_ #[t, t] ty #[.slice p0 n cap, .slice a 0 cc]).run P w = .ok (.slice p0 n cap) w := by
  cases p0 with
  | none =>
    have := hp rfl
    subst this
    obtain rfl : n = 0 := by omega
    cases a <;> simp [Builtin.append_, run_underlying ht, sizeOf, typeInfo, hi, Builtin.lenOf, Builtin.firstCells, loadCells, loadCellsFrom]
  | some p0 =>
    cases a <;> simp [Builtin.append_, run_underlying ht, sizeOf, typeInfo, hi, Builtin.lenOf, Builtin.firstCells, loadCells, loadCellsFrom, hn, storeCells]
theorem run_append_roomE (w : World) (ht : P.underlying t = some (.slice e)) (hi : P.info? e = some i)
    (g sLen sCap : Nat) (cur : Array Value) (E : TypeId) (hg : w.heap[g]? = some (.cells cur E (0, 0)))
    (a : Addr) (m c : Nat) (news : List Value) (hl : news.length = m * i.size) (hnews : ∀ j u, news[j]? = some u → w.cell? (a.add j) = some u) (h1 : ∀ u ∈ news, u.oneCell' = true)
    (hroom : sLen + m ≤ sCap) (hfit : sLen * i.size + news.length ≤ cur.size) :
    (Builtin.append_ #[t, t] ty #[.slice (some ⟨g, 0, none⟩) sLen sCap, .slice (some a) m c]).run P w =
      .ok (.slice (some ⟨g, 0, none⟩) (sLen + m) sCap) (w.setRow g (cur.toList.take (sLen * i.size) ++ news ++ cur.toList.drop (sLen * i.size + news.length)).toArray) := by
  have hf := run_firstCells_some (P := P) w i.size m a m c news hl hnews
  have hst := run_storeCells_at P g (sLen * i.size) E news 0 cur w hg (by simpa using hfit) h1
  simp only [Nat.add_zero] at hst
  simp [Builtin.append_, run_underlying ht, sizeOf, typeInfo, hi, Builtin.lenOf, hroom, hf, Addr.add_lit, hst]
/-- Where there is no room: a new block. -/
theorem run_append_new (w : World) (ht : P.underlying t = some (.slice e)) (hi : P.info? e = some i) (hz : i.zero = some z) (hzs : z.cells.size = i.size)
    (p0 : Option Addr) (n cap : Nat) (olds : List Value) (hlo : olds.length = n * i.size) (hp : p0 = none → n = 0 ∧ cap = 0) (holds : ∀ b, p0 = some b → ∀ j u, olds[j]? = some u → w.cell? (b.add j) = some u)
    (a : Addr) (m c : Nat) (news : List Value) (hl : news.length = m * i.size) (hnews : ∀ j u, news[j]? = some u → w.cell? (a.add j) = some u)
    (hm : 0 < m) (hroom : cap < n + m) (hbytes : (n + m) * i.bytes ≤ 70368744177664) (hb0 : 0 < i.bytes) :
    ∃ cp arr, n + m ≤ cp ∧ cp ≤ maxLen ∧ arr.size = cp * i.size ∧ (∀ q, q < n * i.size → arr.getD q undef = olds.getD q undef) ∧ (∀ q, q < m * i.size → arr.getD (n * i.size + q) undef = news.getD q undef) ∧
      (Builtin.append_ #[t, t] ty #[.slice p0 n cap, .slice (some a) m c]).run P w = .ok (.slice (some ⟨w.heap.size, 0, none⟩) (n + m) cp) (w.drew.alloc (.cells arr e)) := by
  have hnm : n + m ≤ 70368744177664 := Nat.le_trans (Nat.le_mul_of_pos_right _ hb0) hbytes
  have h63 : n + m ≤ maxLen := by simp only [maxLen]; omega
  have arrs : ∀ cp, n + m ≤ cp → (olds.toArray ++ news.toArray ++ Builtin.zeroCells z.cells (cp - (n + m))).size = cp * i.size ∧
      (∀ q, q < n * i.size → (olds.toArray ++ news.toArray ++ Builtin.zeroCells z.cells (cp - (n + m))).getD q undef = olds.getD q undef) ∧
      (∀ q, q < m * i.size → (olds.toArray ++ news.toArray ++ Builtin.zeroCells z.cells (cp - (n + m))).getD (n * i.size + q) undef = news.getD q undef) := by
    intro cp hcp
    have hsz : (olds.toArray ++ news.toArray ++ Builtin.zeroCells z.cells (cp - (n + m))).size = cp * i.size := by
      simp only [Array.size_append, List.size_toArray, size_zeroCells, hzs, hlo, hl, ← Nat.add_mul]
      congr 1; omega
    have tl : (olds.toArray ++ news.toArray ++ Builtin.zeroCells z.cells (cp - (n + m))).toList = olds ++ (news ++ (Builtin.zeroCells z.cells (cp - (n + m))).toList) := by simp
    refine ⟨hsz, fun q hq => ?_, fun q hq => ?_⟩
    · rw [← toList_getD, tl, List.getD_eq_getElem?_getD, List.getElem?_append_left (by omega), ← List.getD_eq_getElem?_getD]
    · rw [← toList_getD, tl, List.getD_eq_getElem?_getD, List.getElem?_append_right (by omega), hlo, Nat.add_sub_cancel_left, List.getElem?_append_left (by omega), ← List.getD_eq_getElem?_getD]
  cases p0 with
  | none =>
    obtain ⟨rfl, rfl⟩ := hp rfl
    have hr := run_append_nil (P := P) w t ty e i z ht hi hz a m c news hl hnews hm (by omega) (by rw [Nat.zero_add] at hbytes; omega)
    obtain ⟨q1, q2, q3⟩ := arrs (grownCap w m 0 e) (by rw [Nat.zero_add]; exact grownCap_ge w m 0 e)
    have ho : olds = [] := List.eq_nil_of_length_eq_zero (by simpa using hlo)
    subst ho
    simp only [Nat.zero_add, Array.empty_append] at q1 q2 q3 hr ⊢
    exact ⟨grownCap w m 0 e, _, grownCap_ge w m 0 e, grownCap_le_maxLen w m 0 e (by omega), q1, q2, q3, hr⟩
  | some b =>
    have hr := run_append_grow (P := P) (ty := ty) w t e i z ht hi hz b n cap olds hlo (holds b rfl) a m c news hl hnews hroom (by omega) (growslice_fits (by omega) (by omega))
    obtain ⟨q1, q2, q3⟩ := arrs (grownCap w (n + m) cap e) (grownCap_ge w (n + m) cap e)
    exact ⟨grownCap w (n + m) cap e, _, grownCap_ge w _ cap e, grownCap_le_maxLen w _ cap e h63, q1, q2, q3, hr⟩
end

/-- What is handed over by a slice, for reading. -/
def Src (nx : Bool) (g : Gh) (w : World) (h : Hp) (news : List (List A)) (v : Value) (es : Nat) : Prop :=
  ∃ ad cap vals, v = .slice ad news.length cap ∧ (news ≠ [] → ∃ a0, ad = some a0 ∧ ∀ j u, (flat es vals news.length)[j]? = some u → w.cell? (a0.add j) = some u) ∧
    (∀ c ∈ news, ∀ x ∈ c, oneA x = true ∧ (nx = false → plainA x = true)) ∧ ∀ i j, i < news.length → j < es → VR g w h ((news.getD i []).getD j .un) (vals i j)
theorem src_sound {a : A} {K : List (List A) → Prop} (hk : conv1 hp a fun x => match x with | .ro news => K news | _ => False) :
    ∃ news, K news ∧ ∀ (g : Gh) (w : World) (v : Value) (es : Nat), SW B0 w0 g w (hf hp) → (∀ c ∈ news, c.length = es) → 0 < es → VR g w (hf hp) a v → Src false g w (hf hp) news v es := by
  have nilc : ∀ (g : Gh) (w : World) (v : Value) (es : Nat), (∃ ad, v = .slice ad 0 0) → Src false g w (hf hp) [] v es := by
    rintro g w v es ⟨ad, rfl⟩
    exact ⟨ad, 0, fun _ _ => undef, rfl, fun h => absurd rfl h, by simp, fun i j hi => by simp at hi⟩
  cases a <;> try exact hk.elim
  · rename_i x
    by_cases hx : x = .slice none 0 0
    · subst hx
      exact ⟨[], hk, fun g w v es hs _ _ r => nilc g w v es ⟨none, r.v_inv.1⟩⟩
    · exfalso
      unfold conv1 at hk
      split at hk
      · exact absurd (by rename_i h; cases h; rfl) hx
      all_goals first | exact hk | (rename_i h; cases h)
  · rename_i b ver es i len
    simp only [conv1] at hk
    cases hb : hp.getD b .hole <;> rw [hb] at hk <;> try exact hk.elim
    rename_i fz nx ver' es' els
    cases nx with
    | true => exact hk.elim
    | false =>
    obtain ⟨hv, hl, hk3⟩ := chk_elim hk
    simp only [Bool.and_eq_true, beq_iff_eq] at hv
    obtain ⟨rfl, rfl⟩ := hv
    have mem : ∀ c, c ∈ (els.drop i).take len → c ∈ els := fun c hc => List.mem_of_mem_drop (List.mem_of_mem_take hc)
    have hlen : ((els.drop i).take len).length = len := by simp; omega
    have idx : ∀ i', i' < len → ((els.drop i).take len).getD i' [] = els.getD (i + i') [] := fun i' hi' => by
      simp [List.getD_eq_getElem?_getD, List.getElem?_take, hi', List.getElem?_drop]
    refine ⟨_, hk3, fun g w v es2 hs hes h0e r => ?_⟩
    have hh : hf hp b = .rw fz false ver es els := hb
    obtain ⟨arr, E, h1, h2', h3, h4, h5, h6, h7⟩ := rw_facts hs hh
    obtain ⟨_, _, _, _, hx⟩ := r.sl_inv
    obtain ⟨ad, cap, rfl, q1, q2, q3⟩ := hx (by rw [hh]; rfl)
    refine ⟨ad, cap, fun i' j => arr.getD ((i + i') * es + j) undef, by rw [hlen], fun hne => ?_, fun c hc x hx => ⟨one_of_plain ((h6 c (mem c hc)).2 rfl x hx), fun _ => (h6 c (mem c hc)).2 rfl x hx⟩, fun i' j hi' hj => ?_⟩
    · have h0 : 0 < len := by rw [← hlen]; exact List.length_pos_iff.2 hne
      obtain ⟨cl, hcl⟩ := List.exists_mem_of_ne_nil _ hne
      have hee : es2 = es := by rw [← hes cl hcl, (h6 cl (mem cl hcl)).1]
      subst hee
      refine ⟨_, q3 (by omega), fun q u hq => ?_⟩
      obtain ⟨i', j, rfl, hi', hj, rfl⟩ := flat_get h0e hq
      rw [hlen] at hi'
      have hlt : (i + i') * es2 + j < arr.size := by rw [h3]; exact idx_lt (by omega) hj
      have e : i * es2 + (i' * es2 + j) = (i + i') * es2 + j := by rw [Nat.add_mul]; omega
      rw [add_none, e]
      simp [World.cell?, h1, Array.getD, hlt]
    · rw [hlen] at hi'
      rw [idx i' hi']
      have hm : els.getD (i + i') [] ∈ els := getD_mem _ _ _ (by omega)
      have hee : es2 = es := by
        have hmm : ((els.drop i).take len).getD i' [] ∈ (els.drop i).take len := getD_mem _ _ _ (by omega)
        rw [← hes _ hmm, (h6 _ (mem _ hmm)).1]
      subst hee
      exact h7 (i + i') j (by omega) hj
  · rename_i els
    refine ⟨_, hk, fun g w v es hs hes h0e r => ?_⟩
    obtain ⟨ad, cap, es2, blk, off, vals, he, h0, hes2, hc2, hv, hpl, hcap⟩ := r.ro_inv
    by_cases hne : els = []
    · subst hne
      exact ⟨ad, cap, vals, he, fun h => absurd rfl h, by simp, fun i j hi => by simp at hi⟩
    · have : es2 = es := by
        obtain ⟨cl, hcl⟩ := List.exists_mem_of_ne_nil els hne
        rw [← hes cl hcl, hes2 cl hcl]
      subst this
      refine ⟨ad, cap, vals, he, fun _ => ⟨_, (h0 hne).1, fun q u hq => ?_⟩, fun c hc x hx => ⟨one_of_plain (hpl c hc x hx), fun _ => hpl c hc x hx⟩, hv⟩
      obtain ⟨i, j, rfl, hi, hj, rfl⟩ := flat_get h0e hq
      rw [add_none, ← Nat.add_assoc]
      exact hc2 i j hi hj
  · refine ⟨[], hk, fun g w v es hs _ _ r => ?_⟩
    cases r with
    | cz a => exact nilc g w _ es ⟨a, rfl⟩

/-- The same, of a row that keeps references. -/
theorem src_nx {a : A} {b ver es i len : Nat} {fz : Bool} {els news : List (List A)} (ha : a = .sl b ver es i len) (hb : hp.getD b .hole = .rw fz true ver es els) (hl : i + len ≤ els.length) (hn : news = (els.drop i).take len) (h1 : ∀ c ∈ news, ∀ x ∈ c, oneA x = true) :
    ∀ (g : Gh) (w : World) (v : Value) (es : Nat), SW B0 w0 g w (hf hp) → (∀ c ∈ news, c.length = es) → 0 < es → VR g w (hf hp) a v → Src true g w (hf hp) news v es := by
  subst ha hn
  have mem : ∀ c, c ∈ (els.drop i).take len → c ∈ els := fun c hc => List.mem_of_mem_drop (List.mem_of_mem_take hc)
  have hlen : ((els.drop i).take len).length = len := by simp; omega
  have idx : ∀ i', i' < len → ((els.drop i).take len).getD i' [] = els.getD (i + i') [] := fun i' hi' => by
    simp [List.getD_eq_getElem?_getD, List.getElem?_take, hi', List.getElem?_drop]
  intro g w v es2 hs hes h0e r
  have hh : hf hp b = .rw fz true ver es els := hb
  obtain ⟨arr, E, h1', h2', h3, h4, h5, h6, h7⟩ := rw_facts hs hh
  obtain ⟨_, _, _, _, hx⟩ := r.sl_inv
  obtain ⟨ad, cap, rfl, q1, q2, q3⟩ := hx (by rw [hh]; rfl)
  refine ⟨ad, cap, fun i' j => arr.getD ((i + i') * es + j) undef, by rw [hlen], fun hne => ?_, fun c hc x hx => ⟨h1 c hc x hx, fun h => by cases h⟩, fun i' j hi' hj => ?_⟩
  · have h0 : 0 < len := by rw [← hlen]; exact List.length_pos_iff.2 hne
    obtain ⟨cl, hcl⟩ := List.exists_mem_of_ne_nil _ hne
    have hee : es2 = es := by rw [← hes cl hcl, (h6 cl (mem cl hcl)).1]
    subst hee
    refine ⟨_, q3 (by omega), fun q u hq => ?_⟩
    obtain ⟨i', j, rfl, hi', hj, rfl⟩ := flat_get h0e hq
    rw [hlen] at hi'
    have hlt : (i + i') * es2 + j < arr.size := by rw [h3]; exact idx_lt (by omega) hj
    have e : i * es2 + (i' * es2 + j) = (i + i') * es2 + j := by rw [Nat.add_mul]; omega
    rw [add_none, e]
    simp [World.cell?, h1', Array.getD, hlt]
  · rw [hlen] at hi'
    rw [idx i' hi']
    have hm : els.getD (i + i') [] ∈ els := getD_mem _ _ _ (by omega)
    have hee : es2 = es := by
      have hmm : ((els.drop i).take len).getD i' [] ∈ (els.drop i).take len := getD_mem _ _ _ (by omega)
      rw [← hes _ hmm, (h6 _ (mem _ hmm)).1]
    subst hee
    exact h7 (i + i') j (by omega) hj

/-- THE WHOLE GOES ON WHERE A ROW COMES TO A NEW VERSION, in its old place or in a new one. -/
theorem SW.bump {g : Gh} {w : World} {h : Hp} (s : SW B0 w0 g w h) {b ver es : Nat} {nx nx2 : Bool} {els els2 : List (List A)} (hh : h b = .rw false nx ver es els) {w' : World} (hw : w.grownBy w' (some (g.m b))) {nb cp : Nat} (hnb : nb = g.m b ∨ w.heap.size ≤ nb)
    (hbr : ∀ (h' : Hp), Ev g w h (g.at b nb cp) w' h' → BR (g.at b nb cp) w' h' b (.rw false nx2 (ver + 1) es els2)) :
    EB g w h (g.at b nb cp) w' (setH h b (.rw false nx2 (ver + 1) es els2)) ∧ SW B0 w0 (g.at b nb cp) w' (setH h b (.rw false nx2 (ver + 1) es els2)) := by
  have hl : Live h b := by unfold Live; rw [hh]; exact Blk.noConfusion
  have hlive : ∀ x, Live (setH h b (.rw false nx2 (ver + 1) es els2)) x ↔ Live h x := fun x => by
    unfold Live setH
    by_cases hx : x = b
    · subst hx; simp [hh]
    · simp [hx]
  have hsep := s.sh.sep b hl (by rw [hh]; rfl)
  have mo : ∀ x, x ≠ b → (g.at b nb cp).m x = g.m x := fun x hx => by simp [Gh.at, hx]
  have mb : (g.at b nb cp).m b = nb := by simp [Gh.at]
  have e : Ev g w h (g.at b nb cp) w' (setH h b (.rw false nx2 (ver + 1) es els2)) := by
    refine ⟨fun x hx => ⟨(hlive x).2 hx, ?_⟩, fun x hx => ⟨hx, .of (hw.block x (s.sh.imm x hx) (fun e => hsep (by cases e; exact hx)))⟩, fun _ _ h => h, hw.size⟩
    by_cases hxb : x = b
    · subst hxb
      rw [setH_same, hh]
      exact ⟨Nat.le_succ _, rfl, fun h => by simp [Blk.ver] at h⟩
    · rw [setH_ne _ _ _ hxb]
      exact ⟨Nat.le_refl _, rfl, fun _ => ⟨mo x hxb, by simp [Gh.at, hxb]⟩⟩
  obtain ⟨arr, E, r1, _⟩ := rw_facts s hh
  have hnI : ¬ g.I nb := by
    rcases hnb with rfl | hn
    · exact hsep
    · intro hx; have := s.sh.imm _ hx; omega
  refine ⟨⟨e, rfl, fun x o hx hc => ?_⟩, ⟨⟨?_, ?_, ?_, ?_, ?_, ?_⟩, s.be.grown hw s.b0 (fun k hk => by cases hk; exact s.sh.lo b hl), Nat.le_trans s.b0 hw.size, s.ib⟩⟩
  · refine (hw.block x (Array.getElem?_eq_some_iff.1 hx).1 (fun e => ?_)).trans hx
    cases e
    rw [r1] at hx
    cases hx
    cases hc
  · intro x y hx hy hm
    have hx' := (hlive x).1 hx
    have hy' := (hlive y).1 hy
    by_cases hxb : x = b <;> by_cases hyb : y = b
    · rw [hxb, hyb]
    · subst hxb
      rw [mb, mo y hyb] at hm
      rcases hnb with rfl | hn
      · exact s.sh.inj x y hx' hy' hm
      · have := s.sh.lt hy'; omega
    · subst hyb
      rw [mb, mo x hxb] at hm
      rcases hnb with rfl | hn
      · exact s.sh.inj x y hx' hy' hm
      · have := s.sh.lt hx'; omega
    · rw [mo x hxb, mo y hyb] at hm; exact s.sh.inj x y hx' hy' hm
  · intro x hx
    by_cases hxb : x = b
    · subst hxb
      rw [mb]
      rcases hnb with rfl | hn
      · exact s.sh.lo x hl
      · exact Nat.le_trans s.b0 hn
    · rw [mo x hxb]; exact s.sh.lo x ((hlive x).1 hx)
  · exact fun x hx => Nat.lt_of_lt_of_le (s.sh.imm x hx) hw.size
  · intro x hx hf
    by_cases hxb : x = b
    · subst hxb; rw [mb]; exact hnI
    · rw [mo x hxb]; exact s.sh.sep x ((hlive x).1 hx) (by simpa [setH, hxb] using hf)
  · intro x hx hf
    by_cases hxb : x = b
    · subst hxb; simp [setH, Blk.fz] at hf
    · rw [mo x hxb]; exact s.sh.fro x ((hlive x).1 hx) (by simpa [setH, hxb] using hf)
  · intro x
    by_cases hxb : x = b
    · subst hxb; rw [setH_same]; exact hbr _ e
    · rw [setH_ne _ _ _ hxb]
      by_cases hlx : Live h x
      · refine BR.mono e (mo x hxb) (by simp [Gh.at, hxb]) (hw.block _ (s.sh.lt hlx) (fun e => hxb (s.sh.inj x b hlx hl (Option.some.inj e)))) (s.sh.blk x)
      · have : h x = .hole := Classical.byContradiction hlx
        rw [this]; trivial

section
variable {cl : Call} {e : TypeId} {inf : TypeInfo} {z : Value} {d src : Operand} {k : A → List Blk → Prop} {t : TypeId}
theorem execOp_append (ho : o.op = .call cl) (hcl : cl.callee = .builtin .append) (ha : cl.args.toList = [d, src]) (hty : cl.argTypes = #[t, t]) {ρ : Operand → Value} {w w' : World} {v : Value}
    (hr : (Builtin.append_ #[t, t] o.type #[ρ d, ρ src]).run P w = .ok v w') : (execOp ρ o).run P w = .ok (.value v) w' := by
  have haa : cl.args = #[d, src] := by rw [← Array.toList_inj, ha]
  simp [execOp, ho, resolve, hcl, invoke, builtin, haa, hty, hr]
/-- An append to nothing. -/
theorem os_append_new {nx : Bool} (ho : o.op = .call cl) (hcl : cl.callee = .builtin .append) (ha : cl.args.toList = [d, src]) (hty : cl.argTypes = #[t, t]) (hu : P.underlying t = some (.slice e)) (hi : P.info? e = some inf) (hz : inf.zero = some z)
    (hzs : z.cells.size = inf.size) (hs0 : 0 < inf.size) (hb0 : 0 < inf.bytes) (hd : ev ts d = .v (.slice none 0 0) ∨ ev ts d = .cz) {news : List (List A)}
    (hsrc : ∀ (g : Gh) (w : World) (v : Value) (es : Nat), SW B0 w0 g w (hf hp) → (∀ c ∈ news, c.length = es) → 0 < es → VR g w (hf hp) (ev ts src) v → Src nx g w (hf hp) news v es)
    (hk : (news = [] → k (ev ts d) hp) ∧ (news ≠ [] → ((news.length : Int) * inf.bytes ≤ 70368744177664 ∧ ∀ c ∈ news, c.length = inf.size) ∧ k (.sl hp.length 0 inf.size 0 news.length) (hp ++ [.rw false nx 0 inf.size news]))) : OS P B0 w0 hp o (ev ts) k := by
  refine OS.run (by simp [ho]) fun g w act hs hop => ?_
  have haa : cl.args = #[d, src] := by rw [← Array.toList_inj, ha]
  have h3 := hop d (by simp [ho, Op.operands, Call.operands, hcl, haa])
  have h4 := hop src (by simp [ho, Op.operands, Call.operands, hcl, haa])
  obtain ⟨p0, hp0⟩ : ∃ p0, act.eval d = .slice p0 0 0 := by
    rcases hd with hd | hd <;> rw [hd] at h3
    · exact ⟨none, h3.v_inv.1⟩
    · generalize act.eval d = y at h3
      cases h3 with
      | cz a => exact ⟨a, rfl⟩
  by_cases hne : news = []
  · have hk1 := hk.1 hne
    subst hne
    obtain ⟨ad, cap, vals, hv, _⟩ := hsrc g w _ inf.size hs (by simp) hs0 h4
    refine ⟨_, w, _, hp, g, execOp_append ho hcl ha hty (by rw [hv, hp0]; exact run_append_zero hu hi w p0 ad 0 0 cap (Nat.le_refl _) (fun _ => rfl)), hk1, EB.refl _ _ _, hs, by rw [← hp0]; exact h3⟩
  · obtain ⟨⟨hb1, hcs⟩, hk2⟩ := hk.2 hne
    obtain ⟨ad, cap, vals, hv, hcells, hpl, hvr⟩ := hsrc g w _ inf.size hs hcs hs0 h4
    obtain ⟨a0, rfl, hcl2⟩ := hcells hne
    have hm : 0 < news.length := List.length_pos_iff.2 hne
    have hb2 : (0 + news.length) * inf.bytes ≤ 70368744177664 := by rw [Nat.zero_add]; exact nat_of_int hb1
    obtain ⟨cp, arr, c1, c2, c3, c4, c5, hr⟩ := run_append_new (P := P) (ty := o.type) w hu hi hz hzs p0 0 0 [] (by simp) (fun _ => ⟨rfl, rfl⟩) (fun _ _ j u h => by simp at h) a0 news.length cap (flat inf.size vals news.length) (flat_length ..) hcl2 hm (by omega) hb2 hb0
    simp only [Nat.zero_mul, Nat.zero_add] at c1 c3 c5 hr
    have hb : Below w.heap.size w (w.drew.alloc (.cells arr e)) := ⟨rfl, rfl, rfl, by simp, fun k hk => heap_alloc_old w.drew _ k hk⟩
    have hnb : NB g w (hf hp) arr cp (.rw false nx 0 inf.size news) := ⟨rfl, hs0, c3, c1, c2, fun c hc => ⟨hcs c hc, fun h x hx => (hpl c hc x hx).2 h⟩, fun i j hi hj => by
      rw [c5 _ (idx_lt hi hj), flat_getD hi hj]; exact hvr i j hi hj⟩
    obtain ⟨e2, s2⟩ := hs.add hb (Nat.le_refl _) (heap_alloc_new w.drew _) (hf_none hp hp.length (Nat.le_refl _)) hnb
    have hh : addH (hf hp) hp.length [Blk.rw false nx 0 inf.size news] hp.length = .rw false nx 0 inf.size news := by rw [addH_one, if_pos rfl]
    have hvv : VR (g.at hp.length w.heap.size cp) (w.drew.alloc (.cells arr e)) (addH (hf hp) hp.length [.rw false nx 0 inf.size news]) (.sl hp.length 0 inf.size 0 news.length) (.slice (some ⟨w.heap.size, 0, none⟩) news.length cp) :=
      .sl hp.length 0 inf.size 0 _ _ rfl (by unfold Live; rw [hh]; exact Blk.noConfusion) (Nat.zero_le _) (by rw [hh]; rfl) (fun _ => ⟨_, _, rfl, by omega, by simp [Gh.at], fun _ => by simp [Gh.at]⟩)
    rw [addH_hf] at e2 s2 hvv
    exact ⟨_, _, _, _, _, execOp_append ho hcl ha hty (by rw [hv, hp0]; exact hr), hk2, e2, s2, hvv⟩
/-- An append to a row of the own heap. -/
theorem os_append_sl {nx nx' : Bool} (ho : o.op = .call cl) (hcl : cl.callee = .builtin .append) (ha : cl.args.toList = [d, src]) (hty : cl.argTypes = #[t, t]) (hu : P.underlying t = some (.slice e)) (hi : P.info? e = some inf) (hz : inf.zero = some z)
    (hzs : z.cells.size = inf.size) (hs0 : 0 < inf.size) (hb0 : 0 < inf.bytes) {b ver len : Nat} {els : List (List A)} (hd : ev ts d = .sl b ver inf.size 0 len) (hb : hp.getD b .hole = .rw false nx' ver inf.size els) {news : List (List A)}
    (hsrc : ∀ (g : Gh) (w : World) (v : Value) (es : Nat), SW B0 w0 g w (hf hp) → (∀ c ∈ news, c.length = es) → 0 < es → VR g w (hf hp) (ev ts src) v → Src nx g w (hf hp) news v es)
    (hlen : len ≤ els.length) (hby : ((len + news.length : Nat) : Int) * inf.bytes ≤ 70368744177664) (hcs : ∀ c ∈ news, c.length = inf.size)
    (hk : k (.sl b (ver + 1) inf.size 0 (len + news.length)) (hp.set b (.rw false (nx' || nx) (ver + 1) inf.size (els.take len ++ news)))) : OS P B0 w0 hp o (ev ts) k := by
  refine OS.run (by simp [ho]) fun g w act hs hop => ?_
  have haa : cl.args = #[d, src] := by rw [← Array.toList_inj, ha]
  have h3 := hop d (by simp [ho, Op.operands, Call.operands, hcl, haa])
  have h4 := hop src (by simp [ho, Op.operands, Call.operands, hcl, haa])
  rw [hd] at h3
  have hh : hf hp b = .rw false nx' ver inf.size els := hb
  obtain ⟨arr, E, h1, _, q3, q4, q5, q6, q7⟩ := rw_facts hs hh
  obtain ⟨_, hlive, _, _, hx⟩ := h3.sl_inv
  obtain ⟨p0, cap, hp0, k1, k2, k3⟩ := hx (by rw [hh]; rfl)
  simp only [Nat.zero_mul] at k3
  obtain ⟨ad, ccap, vals, hv, hcells, hpl, hvr⟩ := hsrc g w _ inf.size hs hcs hs0 h4
  have hlt := lt_of_getD (show hp.getD b .hole ≠ .hole by rw [hb]; exact Blk.noConfusion)
  have hfin : ∀ (nb cp : Nat) (w' : World) (p1 : Option Addr) (cap1 : Nat), (len + news.length ≤ cap1) → cap1 ≤ cp → (0 < cap1 → p1 = some ⟨nb, 0, none⟩) → ∀ (h' : Hp), h' b = .rw false (nx' || nx) (ver + 1) inf.size (els.take len ++ news) →
      VR (g.at b nb cp) w' h' (.sl b (ver + 1) inf.size 0 (len + news.length)) (.slice p1 (len + news.length) cap1) := fun nb cp w' p1 cap1 c1 c2 c3 h' hh' =>
    .sl b (ver + 1) inf.size 0 _ _ rfl (by unfold Live; rw [hh']; exact Blk.noConfusion) (by rw [hh']; exact Nat.le_refl _) (by rw [hh']; rfl) (fun _ => ⟨_, _, rfl, c1, by simp [Gh.at]; exact c2, fun h => by simp [Gh.at]; exact c3 h⟩)
  have hlt2 : (els.take len ++ news).length = len + news.length := by simp; omega
  have hpl2 : ∀ c ∈ els.take len ++ news, c.length = inf.size ∧ ((nx' || nx) = false → ∀ x ∈ c, plainA x = true) := fun c hc => by
    rcases List.mem_append.1 hc with hc | hc
    · exact ⟨(q6 c (List.mem_of_mem_take hc)).1, fun h => (q6 c (List.mem_of_mem_take hc)).2 (by simp only [Bool.or_eq_false_iff] at h; exact h.1)⟩
    · exact ⟨hcs c hc, fun h x hx => (hpl c hc x hx).2 (by simp only [Bool.or_eq_false_iff] at h; exact h.2)⟩
  have helt : ∀ i, i < len → (els.take len ++ news).getD i [] = els.getD i [] := fun i hi => by
    rw [List.getD_eq_getElem?_getD, List.getElem?_append_left (by simp; omega), List.getElem?_take_of_lt hi, List.getD_eq_getElem?_getD]
  have hegt : ∀ i, (els.take len ++ news).getD (len + i) [] = news.getD i [] := fun i => by
    rw [List.getD_eq_getElem?_getD, List.getElem?_append_right (by simp; omega), List.getD_eq_getElem?_getD]
    congr 2; simp; omega
  by_cases hroom : len + news.length ≤ cap
  · by_cases hne : news = []
    · -- nothing comes
      subst hne
      obtain ⟨eb, sb⟩ := hs.bump (w' := w) (nb := g.m b) (cp := g.cp b) (els2 := els.take len ++ []) hh ⟨rfl, rfl, rfl, Nat.le_refl _, fun _ _ _ => rfl⟩ (.inl rfl) (fun h' e => by
        refine ⟨arr, E, by simpa [Gh.at] using h1, hs0, by simpa [Gh.at] using q3, by simp [Gh.at]; omega, by simpa [Gh.at] using q5, hpl2, fun i j hi hj => ?_⟩
        rw [hlt2] at hi
        rw [helt i (by simpa using hi)]
        exact (q7 i j (by simp at hi; omega) hj).mono e)
      have hvv := hfin (g.m b) (g.cp b) w p0 cap hroom (by omega) k3 (setH (hf hp) b (.rw false (nx' || nx) (ver + 1) inf.size (els.take len ++ []))) (setH_same ..)
      rw [setH_hf hp b _ hlt] at eb sb hvv
      exact ⟨_, w, _, _, _, execOp_append ho hcl ha hty (by rw [hv, hp0]; exact run_append_zero hu hi w p0 ad len cap ccap k1 (fun h => by
        rcases Nat.eq_zero_or_pos cap with hc | hc
        · exact hc
        · have := k3 hc; rw [h] at this; cases this)), hk, eb, sb, hvv⟩
    · obtain ⟨a0, rfl, hcl2⟩ := hcells hne
      have hm : 0 < news.length := List.length_pos_iff.2 hne
      have hp1 := k3 (by omega)
      subst hp1
      have hone : ∀ u ∈ flat inf.size vals news.length, u.oneCell' = true := fun u hu => by
        obtain ⟨q, hq, rfl⟩ := List.getElem_of_mem hu
        obtain ⟨i, j, _, hi', hj, he⟩ := flat_get hs0 (List.getElem?_eq_getElem hq)
        rw [he]
        exact (hvr i j hi' hj).one (hpl _ (getD_mem _ _ _ hi') _ (getD_mem _ _ _ (by rw [hcs _ (getD_mem news i [] hi')]; exact hj))).1
      have hfit : len * inf.size + news.length * inf.size ≤ arr.size := by
        rw [q3, ← Nat.add_mul]; exact Nat.mul_le_mul_right _ (by omega)
      have hr := run_append_roomE (P := P) (ty := o.type) w hu hi (g.m b) len cap arr E h1 a0 news.length ccap (flat inf.size vals news.length) (flat_length ..) hcl2 hone hroom (by rw [flat_length]; exact hfit)
      rw [flat_length] at hr
      have hw := grownBy_setRow (w := w) (arr.toList.take (len * inf.size) ++ flat inf.size vals news.length ++ arr.toList.drop (len * inf.size + news.length * inf.size)).toArray (Array.getElem?_eq_some_iff.1 h1).1
      obtain ⟨eb, sb⟩ := hs.bump (nb := g.m b) (cp := g.cp b) (els2 := els.take len ++ news) hh hw (.inl rfl) (fun h' e => by
        refine ⟨_, E, by simp only [Gh.at, if_true]; exact setRow_heap w (g.m b) arr _ E _ h1, hs0, ?_, by rw [hlt2]; simp [Gh.at]; omega, by simpa [Gh.at] using q5, hpl2, fun i j hi hj => ?_⟩
        · rw [wr_size _ _ _ _ (flat_length ..) (by simpa using hfit)]; simpa [Gh.at] using q3
        · rw [hlt2] at hi
          rw [wr_getD _ _ _ _ _ (flat_length ..) (by simpa using hfit)]
          by_cases hil : i < len
          · have := idx_lt hil hj
            rw [helt i hil, if_neg (by omega), toList_toArray_getD]
            exact (q7 i j (by omega) hj).mono e
          · obtain ⟨i', rfl⟩ : ∃ i', i = len + i' := ⟨i - len, by omega⟩
            have := idx_lt (show i' < news.length by omega) hj
            rw [hegt, if_pos (by rw [Nat.add_mul]; omega), show (len + i') * inf.size + j - len * inf.size = i' * inf.size + j by rw [Nat.add_mul]; omega, flat_getD (by omega) hj]
            exact (hvr i' j (by omega) hj).mono e)
      have hvv := hfin (g.m b) (g.cp b) (w.setRow (g.m b) (arr.toList.take (len * inf.size) ++ flat inf.size vals news.length ++ arr.toList.drop (len * inf.size + news.length * inf.size)).toArray) _ cap hroom (by omega) k3 (setH (hf hp) b (.rw false (nx' || nx) (ver + 1) inf.size (els.take len ++ news))) (setH_same ..)
      rw [setH_hf hp b _ hlt] at eb sb hvv
      exact ⟨_, _, _, _, _, execOp_append ho hcl ha hty (by rw [hv, hp0]; exact hr), hk, eb, sb, hvv⟩
  · have hne : news ≠ [] := fun h => by subst h; simp at hroom; omega
    obtain ⟨a0, rfl, hcl2⟩ := hcells hne
    have hm : 0 < news.length := List.length_pos_iff.2 hne
    have hb2 : (len + news.length) * inf.bytes ≤ 70368744177664 := nat_of_int hby
    have hole : len * inf.size ≤ arr.size := by rw [q3]; exact Nat.mul_le_mul_right _ (by omega)
    obtain ⟨cp, arr2, c1, c2, c3, c4, c5, hr⟩ := run_append_new (P := P) (ty := o.type) w hu hi hz hzs p0 len cap (flat inf.size (fun i j => arr.getD (i * inf.size + j) undef) len) (flat_length ..)
      (fun h => by
        have hc : cap = 0 := by
          rcases Nat.eq_zero_or_pos cap with hc | hc
          · exact hc
          · have := k3 hc; rw [h] at this; cases this
        exact ⟨by omega, hc⟩)
      (fun bb hbb q u hq => by
        obtain ⟨i, j, rfl, hi', hj, rfl⟩ := flat_get hs0 hq
        have := k3 (by omega)
        rw [hbb] at this
        cases this
        have hlt := idx_lt hi' hj
        have hlt2 : i * inf.size + j < arr.size := by omega
        rw [add_none, Nat.zero_add]
        simp [World.cell?, h1, Array.getD, hlt2])
      a0 news.length ccap (flat inf.size vals news.length) (flat_length ..) hcl2 hm (by omega) hb2 hb0
    have hw : w.grownBy (w.drew.alloc (.cells arr2 e)) (some (g.m b)) := ⟨rfl, rfl, rfl, by simp, fun k hk _ => heap_alloc_old w.drew _ k hk⟩
    obtain ⟨eb, sb⟩ := hs.bump (nb := w.heap.size) (cp := cp) (els2 := els.take len ++ news) hh hw (.inr (Nat.le_refl _)) (fun h' e => by
      refine ⟨arr2, _, by simp only [Gh.at, if_true]; exact heap_alloc_new w.drew _, hs0, by simpa [Gh.at] using c3, by rw [hlt2]; simp [Gh.at]; omega, by simpa [Gh.at] using c2, hpl2, fun i j hi hj => ?_⟩
      rw [hlt2] at hi
      by_cases hil : i < len
      · rw [helt i hil, c4 _ (idx_lt hil hj), flat_getD hil hj]
        exact (q7 i j (by omega) hj).mono e
      · obtain ⟨i', rfl⟩ : ∃ i', i = len + i' := ⟨i - len, by omega⟩
        rw [hegt, show (len + i') * inf.size + j = len * inf.size + (i' * inf.size + j) by rw [Nat.add_mul]; omega, c5 _ (idx_lt (by omega) hj), flat_getD (by omega) hj]
        exact (hvr i' j (by omega) hj).mono e)
    have hvv := hfin w.heap.size cp (w.drew.alloc (.cells arr2 e)) (some ⟨w.heap.size, 0, none⟩) cp c1 (Nat.le_refl _) (fun _ => rfl) (setH (hf hp) b (.rw false (nx' || nx) (ver + 1) inf.size (els.take len ++ news))) (setH_same ..)
    rw [setH_hf hp b _ hlt] at eb sb hvv
    exact ⟨_, _, _, _, _, execOp_append ho hcl ha hty (by rw [hv, hp0]; exact hr), hk, eb, sb, hvv⟩
end
end Go.YtoeophdffhmpmaaE
