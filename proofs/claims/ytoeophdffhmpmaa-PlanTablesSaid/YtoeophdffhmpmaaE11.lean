/- The engine: all quiet operations together. -/
import Derived.Test.YtoeophdffhmpmaaE10
set_option linter.unusedVariables false
set_option linter.unusedSimpArgs false
namespace Go.YtoeophdffhmpmaaE
open Go Go.RowKit

variable {P : Program} {B0 : Nat} {w0 : Wz} {c : Hp} {p : Nat} {o : Oper} {ts : List A} {hp : List Blk}

theorem lit_fill {t e : TypeId} {inf : TypeInfo} {z : Value} {len : Nat} {parts : Array (Nat × Operand)} {ρ : Operand → Value} (hu : P.underlying t = some (.slice e)) (hi : P.info? e = some inf) (hz : inf.zero = some z) (hs0 : 0 < inf.size) (hlim : len * inf.size ≤ 4096)
    (hlen : parts.size = len) {els : List (List A)} {bs : List Nat} (hl : els.length = parts.toList.length) (hpl : ∀ c ∈ els, c.length = inf.size ∧ ∀ x ∈ c, plainA x = true)
    {g : Gh} {w : World} {h : Hp} (hs : SW B0 w0 g w h) (hc : ∀ b, Live h b → Live (hf hp) b → h b = hf hp b) (hop : ∀ q ∈ parts.toList, VR g w h (ev ts q.2) (ρ q.2))
    (H : ∀ (g : Gh) (w : World) (h : Hp) (ρ : Operand → Value) (arr : Array Value), SW B0 w0 g w h → (∀ b, Live h b → Live (hf hp) b → h b = hf hp b) → (∀ q ∈ parts.toList, VR g w h (ev ts q.2) (ρ q.2)) → (0 + parts.toList.length) * inf.size ≤ arr.size →
        ∃ arr', Instr.fill (fun i => some (i * inf.size, inf.size)) arr (parts.toList.map fun q => (q.1, ρ q.2)) = some arr' ∧ arr'.size = arr.size ∧ (∀ m, m < 0 * inf.size → arr'.getD m undef = arr.getD m undef) ∧
          ∀ (g2 : Gh) (h2 : Hp), (∀ x, g.I x → g2.I x) → (∀ b ∈ bs, Live h b → g2.I (g.m b)) → ∀ i l, i < els.length → l < inf.size → VR g2 w h2 ((els.getD i []).getD l .un) (arr'.getD ((0 + i) * inf.size + l) undef)) :
    ∃ arr, (Instr.buildSlice t len (parts.map fun (q : Nat × Operand) => (q.1, ρ q.2))).run P w = .ok (.slice (some ⟨w.heap.size, 0, none⟩) len len) (w.alloc (.cells arr e)) ∧ arr.size = len * inf.size ∧
      ∀ (g2 : Gh) (h2 : Hp), (∀ x, g.I x → g2.I x) → (∀ b ∈ bs, Live h b → g2.I (g.m b)) → ∀ i l, i < els.length → l < inf.size → VR g2 w h2 ((els.getD i []).getD l .un) (arr.getD (i * inf.size + l) undef) := by
  have e1 : (parts.map fun (q : Nat × Operand) => (q.1, ρ q.2)).toList = parts.toList.map fun q => (q.1, ρ q.2) := by simp
  by_cases h0 : len * inf.size = 0
  · have hlen0 : len = 0 := by
      rcases Nat.mul_eq_zero.1 h0 with h | h
      · exact h
      · omega
    subst hlen0
    have hp0 : parts.toList = [] := List.eq_nil_of_length_eq_zero (by simpa using hlen)
    obtain ⟨arr, n1, n2, _, n4⟩ := H g w h ρ #[] hs hc hop (by rw [hp0]; simp)
    refine ⟨arr, run_buildSlice hu hi hz hlim w (fun hne => absurd h0 hne) (fun _ => by rw [e1]; exact n1), by rw [n2]; simp, fun g2 h2 hI hb i l hi' hl' => by have := n4 g2 h2 hI hb i l hi' hl'; rwa [Nat.zero_add] at this⟩
  · obtain ⟨arr, n1, n2, _, n4⟩ := H g w h ρ ((Array.range (len * inf.size)).map (z.cells[· % z.cells.size]!)) hs hc hop (by simp [hlen])
    refine ⟨arr, run_buildSlice hu hi hz hlim w (fun _ => by rw [e1]; exact n1) (fun he => absurd he h0), by rw [n2]; simp, fun g2 h2 hI hb i l hi' hl' => by have := n4 g2 h2 hI hb i l hi' hl'; rwa [Nat.zero_add] at this⟩
theorem lit_kept {t e : TypeId} {inf : TypeInfo} {z : Value} {len : Nat} {parts : Array (Nat × Operand)} {ρ : Operand → Value} (hu : P.underlying t = some (.slice e)) (hi : P.info? e = some inf) (hz : inf.zero = some z) (hs0 : 0 < inf.size) (hlim : len * inf.size ≤ 4096)
    (hlen : parts.size = len) {els : List (List A)} {R : A → Value → Prop}
    (H : ∀ (arr : Array Value), (0 + parts.toList.length) * inf.size ≤ arr.size →
        ∃ arr', Instr.fill (fun i => some (i * inf.size, inf.size)) arr (parts.toList.map fun q => (q.1, ρ q.2)) = some arr' ∧ arr'.size = arr.size ∧
          ∀ i l, i < els.length → l < inf.size → R ((els.getD i []).getD l .un) (arr'.getD ((0 + i) * inf.size + l) undef)) (w : World) :
    ∃ arr, (Instr.buildSlice t len (parts.map fun (q : Nat × Operand) => (q.1, ρ q.2))).run P w = .ok (.slice (some ⟨w.heap.size, 0, none⟩) len len) (w.alloc (.cells arr e)) ∧ arr.size = len * inf.size ∧
      ∀ i l, i < els.length → l < inf.size → R ((els.getD i []).getD l .un) (arr.getD (i * inf.size + l) undef) := by
  have e1 : (parts.map fun (q : Nat × Operand) => (q.1, ρ q.2)).toList = parts.toList.map fun q => (q.1, ρ q.2) := by simp
  by_cases h0 : len * inf.size = 0
  · have hlen0 : len = 0 := by
      rcases Nat.mul_eq_zero.1 h0 with h | h
      · exact h
      · omega
    subst hlen0
    have hp0 : parts.toList = [] := List.eq_nil_of_length_eq_zero (by simpa using hlen)
    obtain ⟨arr, n1, n2, n4⟩ := H #[] (by rw [hp0]; simp)
    refine ⟨arr, run_buildSlice hu hi hz hlim w (fun hne => absurd h0 hne) (fun _ => by rw [e1]; exact n1), by rw [n2]; simp, fun i l hi' hl' => by have := n4 i l hi' hl'; rwa [Nat.zero_add] at this⟩
  · obtain ⟨arr, n1, n2, n4⟩ := H ((Array.range (len * inf.size)).map (z.cells[· % z.cells.size]!)) (by simp [hlen])
    refine ⟨arr, run_buildSlice hu hi hz hlim w (fun _ => by rw [e1]; exact n1) (fun he => absurd he h0), by rw [n2]; simp, fun i l hi' hl' => by have := n4 i l hi' hl'; rwa [Nat.zero_add] at this⟩
theorem qs_buildSlice {t e : TypeId} {inf : TypeInfo} {z : Value} {len : Nat} {parts : Array (Nat × Operand)} {k : A → List Blk → Prop} (ho : o.op = .buildSlice t len parts) (hu : P.underlying t = some (.slice e)) (hi : P.info? e = some inf) (hz : inf.zero = some z)
    (hlen : parts.size = len) (hs0 : 0 < inf.size) (hlim : len * inf.size ≤ 4096)
    (hk : partsK hp ts inf.size 0 parts.toList fun els bs => match bs with | [] => k (.sl p 0 inf.size 0 len) [.rw false false 0 inf.size els] | _ :: _ => keptK ts inf.size 0 parts.toList fun els => k (.sl p 0 inf.size 0 len) [.rw false true 0 inf.size els]) :
    ∃ a news, k a news ∧ news.length = 1 ∧ QS P B0 w0 (hf hp) p o (ev ts) a news := by
  obtain ⟨els, bs, k1, k2, k3, k4⟩ := partsK_sound (B0 := B0) (w0 := w0) hk
  cases bs with
  | cons b bs =>
    obtain ⟨els, k1, k2, k3, k4⟩ := keptK_sound k1
    refine ⟨_, _, k1, rfl, QS.block (by simp [ho]) fun g w h act hs hc hop => ?_⟩
    obtain ⟨arr, r1, r2, r3⟩ := lit_kept (els := els) (ρ := act.eval) hu hi hz hs0 hlim hlen (fun arr hfit => (k4 g w h act.eval arr (fun q hq => hop q.2 (by rw [ho]; exact mem_parts hq)) hfit).imp fun arr' q => ⟨q.1, q.2.1, q.2.2.2⟩) w
    have hm : len ≤ 4096 := Nat.le_trans (Nat.le_mul_of_pos_right _ hs0) hlim
    have hl2 : els.length = len := by rw [k2]; simpa using hlen
    refine ⟨_, arr, e, len, by simp only [execOp, ho, Sem.run_bind, r1, Result.andThen_ok, Sem.run_pure]; rfl, ⟨rfl, hs0, r2, by omega, by simp [maxLen]; omega, fun c hc => ⟨k3 c hc, fun h => by cases h⟩, r3⟩, fun w' h' hh => ?_⟩
    exact .sl p 0 inf.size 0 _ _ rfl (by unfold Live; rw [hh]; exact Blk.noConfusion) (Nat.zero_le _) (by rw [hh]; rfl) (fun _ => ⟨_, _, rfl, by omega, by simp [Gh.at], fun _ => by simp [Gh.at]⟩)
  | nil =>
    refine ⟨_, _, k1, rfl, QS.block (by simp [ho]) fun g w h act hs hc hop => ?_⟩
    obtain ⟨arr, r1, r2, r3⟩ := lit_fill (ρ := act.eval) hu hi hz hs0 hlim hlen k2 k3 hs hc (fun q hq => hop q.2 (by rw [ho]; exact mem_parts hq)) k4
    have hm : len ≤ 4096 := Nat.le_trans (Nat.le_mul_of_pos_right _ hs0) hlim
    have hl2 : els.length = len := by rw [k2]; simpa using hlen
    refine ⟨_, arr, e, len, by simp only [execOp, ho, Sem.run_bind, r1, Result.andThen_ok, Sem.run_pure]; rfl, ⟨rfl, hs0, r2, by omega, by simp [maxLen]; omega, fun c hc => ⟨(k3 c hc).1, fun _ => (k3 c hc).2⟩, r3 g h (fun _ hx => hx) (by simp)⟩, fun w' h' hh => ?_⟩
    exact .sl p 0 inf.size 0 _ _ rfl (by unfold Live; rw [hh]; exact Blk.noConfusion) (Nat.zero_le _) (by rw [hh]; rfl) (fun _ => ⟨_, _, rfl, by omega, by simp [Gh.at], fun _ => by simp [Gh.at]⟩)

theorem len_sl {b ver es i n : Nat} (hn : nowB hp b ver = true) (g : Gh) (w : World) (h : Hp) (v : Value) (r : VR g w h (.sl b ver es i n) v) (hc : ∀ b, Live h b → Live (hf hp) b → h b = hf hp b) : ∃ a m, v = .slice a n m := by
  obtain ⟨hb0, hv0⟩ := nowB_elim hn
  obtain ⟨_, hl, _, _, hx⟩ := r.sl_inv
  have hh : h b = hp.getD b .hole := hc b hl (by unfold Live hf; exact hb0)
  obtain ⟨a, cap, h5, _⟩ := hx (by rw [hh]; exact hv0)
  exact ⟨a, cap, h5⟩

theorem opQ_sound {E : EqT} {env : Env} (hE : EqOk P E) (henv : EnvOk P env) {k : A → List Blk → Prop} (hk : opQ P E env hp ts o.op k) :
    ∃ a news, k a news ∧ QS P B0 w0 (hf hp) hp.length o (ev ts) a news := by
  cases ho : o.op <;> rw [ho] at hk <;> try exact hk.elim
  case move x => exact ⟨_, _, hk, qs_move (.inl ho)⟩
  case assign x => exact ⟨_, _, hk, qs_move (.inr ho)⟩
  case pick cd a b =>
    simp only [opQ] at hk
    cases hx : ev ts cd <;> rw [hx] at hk <;> try exact hk.elim
    rename_i v
    cases v <;> try exact hk.elim
    rename_i t
    cases t
    · exact ⟨_, _, hk, qs_pick (t := false) ho hx⟩
    · exact ⟨_, _, hk, qs_pick (t := true) ho hx⟩
  case alloc t =>
    obtain ⟨i, z, h1, h2, h3⟩ := zeroK_elim (show zeroK P t _ from hk)
    rw [lenK_eq, Nat.zero_add] at h3
    exact ⟨_, _, h3, qs_alloc ho h1 h2⟩
  case box t x =>
    simp only [opQ, force_eq] at hk
    obtain ⟨h1, h2⟩ := chk_elim hk
    rw [lenK_eq, Nat.zero_add] at h2
    exact ⟨_, _, h2, qs_box ho h1⟩
  case build t parts =>
    simp only [opQ] at hk
    cases hu : P.underlying t <;> rw [hu] at hk <;> try exact hk.elim
    rename_i d
    cases d <;> try exact hk.elim
    · rename_i n e
      obtain ⟨inf, h1, h2⟩ := optK_elim hk
      obtain ⟨i, z, h3, h4, h5⟩ := zeroK_elim h2
      obtain ⟨a, q1, q2⟩ := qs_build_arr (B0 := B0) (w0 := w0) (c := hf hp) (p := hp.length) ho hu h1 h3 h4 h5
      exact ⟨a, [], q1, q2⟩
    · rename_i fields
      obtain ⟨h1, h2⟩ := chk_elim hk
      obtain ⟨i, z, h3, h4, h5⟩ := zeroK_elim h2
      obtain ⟨a, q1, q2⟩ := qs_build_struct (B0 := B0) (w0 := w0) (c := hf hp) (p := hp.length) ho hu h1 h3 h4 h5
      exact ⟨a, [], q1, q2⟩
  case buildSlice t len parts =>
    simp only [opQ] at hk
    cases hu : P.underlying t <;> rw [hu] at hk <;> try exact hk.elim
    rename_i d
    cases d <;> try exact hk.elim
    rename_i e
    obtain ⟨inf, h1, h2⟩ := optK_elim hk
    obtain ⟨z, h3, h4⟩ := optK_elim h2
    rw [natK_eq] at h4
    obtain ⟨h5, h6⟩ := chk_elim h4
    simp only [Bool.and_eq_true, beq_iff_eq, decide_eq_true_eq] at h5
    have hk' : partsK hp ts inf.size 0 parts.toList fun els bs => match bs with | [] => k (.sl hp.length 0 inf.size 0 len) [.rw false false 0 inf.size els] | _ :: _ => keptK ts inf.size 0 parts.toList fun els => k (.sl hp.length 0 inf.size 0 len) [.rw false true 0 inf.size els] := by
      simp only [lenK_eq, Nat.zero_add] at h6
      exact h6
    obtain ⟨a, news, q1, _, q2⟩ := qs_buildSlice (B0 := B0) (w0 := w0) ho hu h1 h3 h5.1 h5.2.1 h5.2.2 hk'
    exact ⟨a, news, q1, q2⟩
  case load t x =>
    obtain ⟨d, i, h1, h2, h3⟩ := tyK_elim (show tyK P t _ from hk)
    obtain ⟨a, q1, q2⟩ := qs_load (B0 := B0) (w0 := w0) (p := hp.length) ho h1 h2 h3
    exact ⟨a, [], q1, q2⟩
  case nilCheck x =>
    simp only [opQ] at hk
    cases hx : ev ts x <;> rw [hx] at hk <;> try exact hk.elim
    · obtain ⟨h1, h2⟩ := chk_elim hk
      exact ⟨_, _, h2, qs_nil_pt ho hx h1⟩
    · exact ⟨_, _, hk, qs_nil_rp ho hx⟩
  case binOp op t x y yt =>
    simp only [opQ, force_eq] at hk
    obtain ⟨z, h1, h2⟩ := binK_sound hE hk
    refine ⟨z, [], h1, QS.value (by simp [ho]) fun g w h act hs hc hop => ?_⟩
    obtain ⟨q1, v, q2, q3⟩ := h2 g w h x y _ _ (hop x (by simp [ho, Op.operands])) (hop y (by simp [ho, Op.operands]))
    exact ⟨v, execOp_bin ho q1 q2, q3⟩
  case unOp op t x =>
    simp only [opQ] at hk
    cases hx : ev ts x <;> rw [hx] at hk <;> try exact hk.elim
    rename_i v
    cases v <;> try exact hk.elim
    · cases op <;> try exact hk.elim
      exact ⟨_, _, hk, qs_not ho hx⟩
    · cases op <;> try exact hk.elim
      exact ⟨_, _, hk, qs_neg ho hx⟩
  case convert src dst x =>
    simp only [opQ] at hk
    cases hx : ev ts x <;> rw [hx] at hk <;> try exact hk.elim
    rename_i v
    cases v <;> try exact hk.elim
    rename_i k1 n
    dsimp only at hk
    cases h1 : P.underlying src <;> rw [h1] at hk <;> try exact hk.elim
    rename_i d1
    cases d1 <;> try exact hk.elim
    dsimp only at hk
    cases h2 : P.underlying dst <;> rw [h2] at hk <;> try exact hk.elim
    rename_i d2
    cases d2 <;> try exact hk.elim
    exact ⟨_, _, hk, qs_conv ho hx h1 h2⟩
  case makeFunc fn first captured =>
    cases fn <;> try exact hk.elim
    rename_i f
    simp only [opQ] at hk
    simp only [evs_eq] at hk
    exact ⟨_, _, hk, qs_makeFunc ho⟩
  case makeSlice t l cc =>
    simp only [opQ] at hk
    cases hu : P.underlying t <;> rw [hu] at hk <;> try exact hk.elim
    rename_i d
    cases d <;> try exact hk.elim
    rename_i e
    obtain ⟨inf, h1, h2⟩ := optK_elim hk
    rw [natK_eq] at h2
    cases hl : ev ts l <;> rw [hl] at h2 <;> try exact h2.elim
    rename_i v
    cases v <;> try exact h2.elim
    rename_i k1 n
    dsimp only at h2
    cases hcc : ev ts cc <;> rw [hcc] at h2 <;> try exact h2.elim
    rename_i v
    cases v <;> try exact h2.elim
    rename_i k2 m
    obtain ⟨h3, h4, h5⟩ := chk_elim h2
    obtain ⟨i, z, h6, h7, h8⟩ := zeroK_elim h5
    rw [h1] at h6
    cases h6
    obtain ⟨h9, h10⟩ := chk_elim h8
    simp only [Bool.and_eq_true, beq_iff_eq, decide_eq_true_eq] at h3 h9
    obtain ⟨nx, h10⟩ : ∃ nx, lenK hp 0 fun p => k (.sl p 0 inf.size 0 n.toNat) [.rw false nx 0 inf.size (List.replicate n.toNat (z.cells.toList.map ofVal))] := by
      unfold nestK at h10
      split at h10 <;> exact ⟨_, h10⟩
    rw [lenK_eq, Nat.zero_add] at h10
    exact ⟨_, _, h10, qs_makeSlice nx ho hu h1 h7 hl hcc h3.1 h3.2 h4 h9.2 ((allB_iff _ _).1 h9.1)⟩
  case slice t x lo hi mx =>
    simp only [opQ] at hk
    cases hu : P.underlying t <;> rw [hu] at hk <;> try exact hk.elim
    rename_i d
    cases d <;> try exact hk.elim
    rename_i e
    obtain ⟨inf, h1, h2⟩ := optK_elim hk
    have sl : ∀ els, (∀ (g : Gh) (w : World) (h : Hp) (v : Value), VR g w h (ev ts x) v → VR g w h (.ro els) v) → sliceR ts inf.size lo hi mx els (fun a => k a []) → ∃ a news, k a news ∧ QS P B0 w0 (hf hp) hp.length o (ev ts) a news := fun els hro h2 => by
      unfold sliceR at h2
      cases mx with
      | some y =>
        obtain ⟨h3, h4⟩ := chk_elim h2
        obtain ⟨a, q1, q2⟩ := qs_slice_mx (B0 := B0) (w0 := w0) (c := hf hp) (p := hp.length) ho hu h1 hro h3 h4
        exact ⟨a, [], q1, q2⟩
      | none =>
        obtain ⟨a, q1, q2⟩ := qs_slice_ro (B0 := B0) (w0 := w0) (c := hf hp) (p := hp.length) ho hu h1 hro h2
        exact ⟨a, [], q1, q2⟩
    cases hx : ev ts x <;> rw [hx] at h2 <;> try exact h2.elim
    · rename_i x0
      have hx0 : x0 = .slice none 0 0 := by
        cases x0 <;> try exact h2.elim
        rename_i a n m
        cases a <;> cases n <;> cases m <;> first | rfl | exact h2.elim
      subst hx0
      refine sl [] (fun g w h v r => ?_) h2
      rw [hx] at r
      rw [r.v_inv.1]
      exact .ro [] none 0 0 0 0 (fun _ _ => undef) (fun h => absurd rfl h) (by simp) (by simp) (by simp) (by simp) (by simp)
    · rename_i b ver es i len
      obtain ⟨h3, h4⟩ := chk_elim h2
      simp only [Bool.and_eq_true, beq_iff_eq] at h3
      obtain ⟨h5, h6⟩ := chk_elim h4
      obtain ⟨a, q1, q2⟩ := qs_slice_sl (B0 := B0) (w0 := w0) (p := hp.length) ho hu h1 hx h3.1 h3.2 h6 (fun h => by rw [h] at h5; simpa using h5)
      exact ⟨a, [], q1, q2⟩
    · rename_i els
      exact sl els (fun g w h v r => by rw [hx] at r; exact r) h2
  case fieldAddr s x f =>
    simp only [opQ] at hk
    cases hu : P.underlying s <;> rw [hu] at hk <;> try exact hk.elim
    rename_i d
    cases d <;> try exact hk.elim
    rename_i fields
    obtain ⟨⟨off, size⟩, h1, h2⟩ := optK_elim hk
    rw [natK_eq] at h2
    obtain ⟨h3, h4⟩ := chk_elim h2
    have hs0 : size ≠ 0 := by simpa using h3
    cases hx : ev ts x <;> rw [hx] at h4 <;> try exact h4.elim
    · obtain ⟨h5, h6⟩ := chk_elim h4
      obtain ⟨hb0, hv0⟩ := nowB_elim h5
      exact ⟨_, _, h6, qs_fieldAddr_pt ho hu h1 hs0 hx hb0 hv0⟩
    · simp only [dropK_eq] at h4
      exact ⟨_, _, h4, qs_fieldAddr_rp ho hu h1 hs0 hx⟩
  case field s x f =>
    simp only [opQ] at hk
    cases hu : P.underlying s <;> rw [hu] at hk <;> try exact hk.elim
    rename_i d
    cases d <;> try exact hk.elim
    rename_i fields
    obtain ⟨fd, h1, h2⟩ := optK_elim hk
    obtain ⟨d, i, h3, h4, h5⟩ := tyK_elim h2
    cases hx : ev ts x <;> rw [hx] at h5 <;> try exact h5.elim
    obtain ⟨a, q1, q2⟩ := qs_field (B0 := B0) (w0 := w0) (c := hf hp) (p := hp.length) ho hu h1 h3 h4 hx h5
    exact ⟨a, [], q1, q2⟩
  case indexAddr t x ix =>
    simp only [opQ] at hk
    cases hn : ev ts ix <;> rw [hn] at hk <;> try exact hk.elim
    rename_i v
    cases v <;> try exact hk.elim
    rename_i k1 n
    dsimp only at hk
    cases hu : P.underlying t <;> rw [hu] at hk <;> try exact hk.elim
    rename_i d
    cases d <;> try exact hk.elim
    · rename_i e
      obtain ⟨inf, h1, h2⟩ := optK_elim hk
      cases hx : ev ts x <;> rw [hx] at h2 <;> try exact h2.elim
      · obtain ⟨h3, h4, h5⟩ := chk_elim h2
        simp only [Bool.and_eq_true, beq_iff_eq] at h3
        obtain ⟨hb0, hv0⟩ := nowB_elim h3.1
        exact ⟨_, _, h5, qs_indexAddr_sl ho hu h1 hn hx h3.2 h4 hb0 hv0⟩
      · obtain ⟨h3, h4⟩ := h2
        obtain ⟨cl, h5, h6⟩ := optK_elim h4
        obtain ⟨h7, h8⟩ := chk_elim h6
        exact ⟨_, _, h8, qs_indexAddr_ro ho hu h1 hn hx h3 h5 (by simpa using h7)⟩
    · rename_i len e
      obtain ⟨inf, h1, h2⟩ := optK_elim hk
      rw [natK_eq] at h2
      cases hx : ev ts x <;> rw [hx] at h2 <;> try exact h2.elim
      · obtain ⟨h3, h4, h5⟩ := chk_elim h2
        obtain ⟨hb0, hv0⟩ := nowB_elim h3
        exact ⟨_, _, h5, qs_indexAddr_arr ho hu h1 hn hx h4 hb0 hv0⟩
      · obtain ⟨h4, h5⟩ := h2
        rw [dropK_eq] at h5
        exact ⟨_, _, h5, qs_indexAddr_arp ho hu h1 hn hx h4⟩
  case index t x ix =>
    simp only [opQ] at hk
    cases hn : ev ts ix <;> rw [hn] at hk <;> try exact hk.elim
    rename_i v
    cases v <;> try exact hk.elim
    rename_i k1 n
    dsimp only at hk
    cases hu : P.underlying t <;> rw [hu] at hk <;> try exact hk.elim
    rename_i d
    cases d <;> try exact hk.elim
    rename_i len e
    obtain ⟨d, i, h3, h4, h5⟩ := tyK_elim hk
    cases hx : ev ts x <;> rw [hx] at h5 <;> try exact h5.elim
    obtain ⟨a, q1, q2⟩ := qs_index (B0 := B0) (w0 := w0) (c := hf hp) (p := hp.length) ho hu h3 h4 hn hx h5.1 h5.2
    exact ⟨a, [], q1, q2⟩
  case extract x i =>
    simp only [opQ] at hk
    cases hx : ev ts x <;> rw [hx] at hk <;> try exact hk.elim
    obtain ⟨a, h1, h2⟩ := optK_elim hk
    exact ⟨_, _, h2, qs_extract ho hx h1⟩
  case call cl =>
    simp only [opQ] at hk
    cases hcl : cl.callee <;> rw [hcl] at hk <;> try exact hk.elim
    · rename_i x
      dsimp only at hk
      cases hx : ev ts x <;> rw [hx] at hk <;> try exact hk.elim
      rename_i f cap
      obtain ⟨T, h1, h2⟩ := optK_elim hk
      rw [evs_eq] at h2
      simp only [lenK_eq, Nat.zero_add] at h2
      exact qs_call (B0 := B0) (w0 := w0) (p := hp.length) henv ho hcl hx h1 h2
    · rename_i b
      dsimp only at hk
      cases ha : cl.args.toList with
      | nil => rw [ha] at hk; exact hk.elim
      | cons x rest =>
        rw [ha] at hk
        cases rest with
        | nil =>
          cases b <;> try exact hk.elim
          have typ : ∀ {e : TypeId}, P.underlying (cl.argTypes.getD 0 0) = some (.slice e) → (!(cl.argTypes.size == 0)) = true → ∃ T, cl.argTypes[0]? = some T ∧ P.underlying T = some (.slice e) := by
            intro e hu hz
            have : 0 < cl.argTypes.size := by
              simp at hz
              rcases Nat.eq_zero_or_pos cl.argTypes.size with h | h
              · exact absurd (Array.eq_empty_of_size_eq_zero h) hz
              · exact h
            exact ⟨cl.argTypes[0], by simp [this], by simpa [Array.getD, this] using hu⟩
          dsimp only at hk
          cases hx : ev ts x <;> rw [hx] at hk <;> try exact hk.elim
          · rename_i x0
            have hx0 : x0 = .slice none 0 0 := by
              cases x0 <;> try exact hk.elim
              rename_i a n m
              cases a <;> cases n <;> cases m <;> first | rfl | exact hk.elim
            subst hx0
            cases hu : P.underlying (cl.argTypes.getD 0 0) <;> rw [hu] at hk <;> try exact hk.elim
            rename_i d
            cases d <;> try exact hk.elim
            obtain ⟨h1, h2⟩ := chk_elim hk
            obtain ⟨T, t1, t2⟩ := typ hu h1
            exact ⟨_, _, h2, qs_len (n := 0) ho hcl ha t1 t2 (by
              rw [hx]; intro g w h v r _
              exact ⟨none, 0, r.v_inv.1⟩)⟩
          · dsimp only at hk
            cases hu : P.underlying (cl.argTypes.getD 0 0) <;> rw [hu] at hk <;> try exact hk.elim
            rename_i d
            cases d <;> try exact hk.elim
            obtain ⟨h1, h2⟩ := chk_elim hk
            simp only [Bool.and_eq_true] at h1
            obtain ⟨T, t1, t2⟩ := typ hu h1.2
            exact ⟨_, _, h2, qs_len ho hcl ha t1 t2 (by rw [hx]; exact fun g w h v => len_sl h1.1 g w h v)⟩
          · dsimp only at hk
            cases hu : P.underlying (cl.argTypes.getD 0 0) <;> rw [hu] at hk <;> try exact hk.elim
            rename_i d
            cases d <;> try exact hk.elim
            obtain ⟨h1, h2⟩ := chk_elim hk
            obtain ⟨T, t1, t2⟩ := typ hu h1
            exact ⟨_, _, h2, qs_len ho hcl ha t1 t2 (by
              rw [hx]; intro g w h v r _
              obtain ⟨a, cap, _, _, _, _, he, _⟩ := r.ro_inv
              exact ⟨a, cap, he⟩)⟩
        | cons y rest =>
          cases rest with
          | cons z rest => exact hk.elim
          | nil =>
            dsimp only at hk
            cases hx : ev ts x <;> rw [hx] at hk <;> try exact hk.elim
            rename_i v
            cases v <;> try exact hk.elim
            rename_i k1 a
            dsimp only at hk
            cases hy : ev ts y <;> rw [hy] at hk <;> try exact hk.elim
            rename_i v
            cases v <;> try exact hk.elim
            rename_i k2 b2
            cases b <;> try exact hk.elim
            · exact ⟨_, _, hk, qs_max ho hcl ha hx hy⟩
            · exact ⟨_, _, hk, qs_min ho hcl ha hx hy⟩

end Go.YtoeophdffhmpmaaE
