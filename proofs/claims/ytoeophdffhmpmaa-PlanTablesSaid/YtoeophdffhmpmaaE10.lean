/- The engine: literals; and all quiet operations together. -/
import Derived.Test.YtoeophdffhmpmaaE9
set_option linter.unusedVariables false
set_option linter.unusedSimpArgs false
namespace Go.YtoeophdffhmpmaaE
open Go Go.RowKit

variable {P : Program} {B0 : Nat} {w0 : Wz} {c : Hp} {p : Nat} {o : Oper} {ts : List A} {hp : List Blk}

theorem foldSet (l : List Value) (k off : Nat) (arr : Array Value) (h : off + k + l.length ≤ arr.size) :
    ((l.zipIdx k).foldl (fun cs (q : Value × Nat) => cs.setIfInBounds (off + q.2) q.1) arr).size = arr.size ∧
      ∀ j, ((l.zipIdx k).foldl (fun cs (q : Value × Nat) => cs.setIfInBounds (off + q.2) q.1) arr).getD j undef = if off + k ≤ j ∧ j < off + k + l.length then l.getD (j - (off + k)) undef else arr.getD j undef := by
  induction l generalizing k arr with
  | nil => exact ⟨rfl, fun j => by rw [if_neg (by simp only [List.length_nil]; omega)]; simp⟩
  | cons x l ih =>
    simp only [List.length_cons] at h
    obtain ⟨h1, h2⟩ := ih (k + 1) (arr.setIfInBounds (off + k) x) (by simp; omega)
    simp only [List.zipIdx_cons, List.foldl_cons]
    refine ⟨by rw [h1]; simp, fun j => ?_⟩
    rw [h2]
    simp only [List.length_cons]
    by_cases c1 : off + (k + 1) ≤ j ∧ j < off + (k + 1) + l.length
    · rw [if_pos c1, if_pos (by omega)]
      obtain ⟨m, hm⟩ : ∃ m, j - (off + k) = m + 1 := ⟨j - (off + k) - 1, by omega⟩
      rw [hm, show j - (off + (k + 1)) = m by omega]; rfl
    · rw [if_neg c1]
      by_cases c2 : j = off + k
      · subst c2
        rw [if_pos (by omega), Nat.sub_self]
        have : off + k < arr.size := by omega
        simp [Array.getD, this]
      · rw [if_neg (by omega)]
        by_cases c3 : j < arr.size
        · have : off + k ≠ j := fun e => c2 e.symm
          simp [Array.getD, c3, Array.getElem_setIfInBounds, this]
        · simp [Array.getD, c3]
theorem fill_cons (place : Nat → Option (Nat × Nat)) (arr : Array Value) (i : Nat) (v : Value) (rest : List (Nat × Value)) {off size : Nat} (h : place i = some (off, size)) (h1 : v.cells.size = size) (h2 : off + size ≤ arr.size) :
    Instr.fill place arr ((i, v) :: rest) = Instr.fill place ((v.cells.toList.zipIdx 0).foldl (fun cs (q : Value × Nat) => cs.setIfInBounds (off + q.2) q.1) arr) rest := by
  simp only [Instr.fill, h]
  rw [if_neg (by simp [h1]; omega)]
  congr 1
  rw [← Array.foldl_toList, Array.toList_zipIdx]
theorem fillK_sound {place : Nat → Option (Nat × Nat)} {cells : List A} {ps : List (Nat × Operand)} {k : List A → Prop} (hk : fillK place ts cells ps k) :
    ∃ cs, k cs ∧ ∀ (g : Gh) (w : World) (h : Hp) (ρ : Operand → Value) (arr : Array Value), arr.size = cells.length → (∀ j, j < cells.length → VR g w h (cells.getD j .un) (arr.getD j undef)) → (∀ q ∈ ps, VR g w h (ev ts q.2) (ρ q.2)) →
      ∃ arr', Instr.fill place arr (ps.map fun q => (q.1, ρ q.2)) = some arr' ∧ arr'.size = cs.length ∧ ∀ j, j < cs.length → VR g w h (cs.getD j .un) (arr'.getD j undef) := by
  induction ps generalizing cells with
  | nil => exact ⟨cells, hk, fun g w h ρ arr hl hv _ => ⟨arr, rfl, hl, hv⟩⟩
  | cons q ps ih =>
    obtain ⟨⟨off, size⟩, hq, hk2⟩ := optK_elim (show optK (place q.1) _ from hk)
    rw [force_eq] at hk2
    obtain ⟨hc, hk3⟩ := chk_elim hk2
    rw [setMany_eq] at hk3
    simp only [Bool.and_eq_true, beq_iff_eq, decide_eq_true_eq] at hc
    obtain ⟨hbx, hsz, hfit⟩ := hc
    obtain ⟨cs, h1, h2⟩ := ih (cells := ovl cells off (cellsOf (ev ts q.2))) hk3
    refine ⟨cs, h1, fun g w h ρ arr hl hv hop => ?_⟩
    have hvr := hop q (by simp)
    obtain ⟨q1, q2⟩ := hvr.cells (fun e => by rw [e] at hbx; cases hbx) (fun xs e => by rw [e] at hbx; cases hbx)
    have hsz2 : (ρ q.2).cells.size = size := by omega
    have hf := foldSet (ρ q.2).cells.toList 0 off arr (by simp; omega)
    rw [List.map_cons, fill_cons place arr q.1 (ρ q.2) _ hq hsz2 (by omega)]
    refine h2 g w h ρ _ (by rw [hf.1, ovl_length, hl]) (fun j hj => ?_) (fun q' hq' => hop q' (List.mem_cons_of_mem _ hq'))
    rw [ovl_length] at hj
    rw [hf.2, ovl_get _ _ _ (by omega)]
    simp only [Nat.add_zero, Array.length_toList]
    by_cases c1 : off ≤ j ∧ j < off + (cellsOf (ev ts q.2)).length
    · rw [if_pos c1, if_pos (by omega)]
      have := q2 (j - off) (by omega)
      have e : (ρ q.2).cells.toList.getD (j - off) undef = (ρ q.2).cells.getD (j - off) undef := by
        have : j - off < (ρ q.2).cells.size := by omega
        simp [List.getD_eq_getElem?_getD, Array.getD, this]
      rw [e]; exact this
    · rw [if_neg c1, if_neg (by omega)]
      exact hv j hj
theorem run_mapM_list {β γ : Type} (f : β → Sem γ) (g : β → γ) (w : World) (l : List β) (h : ∀ x ∈ l, (f x).run P w = .ok (g x) w) : (l.mapM f).run P w = .ok (l.map g) w := by
  induction l with
  | nil => simp
  | cons x l ih =>
    simp only [List.mapM_cons, Sem.run_bind, h x (by simp), Result.andThen_ok, ih (fun y hy => h y (List.mem_cons_of_mem _ hy))]
    rfl
theorem run_places {fields : Array Field} (hall : (fields.toList.all fun f => (P.info? f.type).isSome) = true) (w : World) :
    (fields.mapM fun f => (do pure (f.offset, ← sizeOf f.type) : Sem (Nat × Nat))).run P w = .ok (fields.map fun f => (f.offset, ((P.info? f.type).map (·.size)).getD 0)) w := by
  have e : fields = fields.toList.toArray := by simp
  rw [e, List.mapM_toArray]
  simp only [Sem.run_map]
  rw [run_mapM_list _ (fun f => (f.offset, ((P.info? f.type).map (·.size)).getD 0))]
  · simp only [Result.andThen_ok]
    congr 1
    rw [← Array.toList_inj]; simp
  · intro f hf
    have := List.all_eq_true.1 hall f hf
    obtain ⟨i, hi⟩ := Option.isSome_iff_exists.1 this
    simp [sizeOf, typeInfo, hi]
theorem places_eq {fields : Array Field} (hall : (fields.toList.all fun f => (P.info? f.type).isSome) = true) :
    (fun i => (fields.map fun f => (f.offset, ((P.info? f.type).map (·.size)).getD 0))[i]?) = structPlace P fields := by
  funext i
  simp only [Array.getElem?_map, structPlace]
  cases hi : fields[i]? with
  | none => rfl
  | some f =>
    have hm : f ∈ fields.toList := by
      obtain ⟨h1, h2⟩ := Array.getElem?_eq_some_iff.1 hi
      rw [← h2]; simp
    have := List.all_eq_true.1 hall f hm
    obtain ⟨j, hj⟩ := Option.isSome_iff_exists.1 this
    simp [hj]
theorem zeros_rel (g : Gh) (w : World) (h : Hp) (z : Value) : z.cells.size = (z.cells.toList.map ofVal).length ∧ ∀ j, j < (z.cells.toList.map ofVal).length → VR g w h ((z.cells.toList.map ofVal).getD j .un) (z.cells.getD j undef) := by
  refine ⟨by simp, fun j hj => ?_⟩
  simp only [List.length_map, Array.length_toList] at hj
  rw [getD_map_ofVal _ _ (by simpa using hj)]
  have : z.cells.getD j undef = z.cells.toList.getD j undef := by simp [Array.getD, hj, List.getD_eq_getElem?_getD]
  rw [this]; exact VR.ofVal ..
theorem mem_parts {parts : Array (Nat × Operand)} {q : Nat × Operand} (h : q ∈ parts.toList) : q.2 ∈ ((parts.toList.map (·.2)).toArray : Array Operand) := by
  simp only [List.mem_toArray, List.mem_map]; exact ⟨q, h, rfl⟩
theorem qs_build_struct {t : TypeId} {parts : Array (Nat × Operand)} {fields : Array Field} {i : TypeInfo} {z : Value} {k : A → List Blk → Prop} (ho : o.op = .build t parts) (hu : P.underlying t = some (.struct fields))
    (hall : (fields.toList.all fun f => (P.info? f.type).isSome) = true) (hi : P.info? t = some i) (hz : i.zero = some z)
    (hk : fillK (structPlace P fields) ts (z.cells.toList.map ofVal) parts.toList fun cs => k (.agg cs) []) : ∃ a, k a [] ∧ QS P B0 w0 c p o (ev ts) a [] := by
  obtain ⟨cs, h1, h2⟩ := fillK_sound hk
  refine ⟨_, h1, QS.value (by simp [ho]) fun g w h act hs hc hop => ?_⟩
  obtain ⟨z1, z2⟩ := zeros_rel g w h z
  obtain ⟨arr, f1, f2, f3⟩ := h2 g w h act.eval z.cells z1 z2 (fun q hq => hop q.2 (by rw [ho]; exact mem_parts hq))
  have hpl := run_places (P := P) hall w
  refine ⟨.agg arr, ?_, .agg _ _ f2.symm f3⟩
  have e1 : (parts.map fun (q : Nat × Operand) => (q.1, act.eval q.2)).toList = parts.toList.map fun q => (q.1, act.eval q.2) := by simp
  simp only [execOp, ho, Instr.build, Sem.run_bind, zeroValue, typeInfo, run_program, Result.andThen_ok, hi, Sem.run_pure, hz, run_underlying hu, hpl, places_eq hall, e1, f1]
theorem qs_build_arr {t e : TypeId} {n : Nat} {parts : Array (Nat × Operand)} {i inf : TypeInfo} {z : Value} {k : A → List Blk → Prop} (ho : o.op = .build t parts) (hu : P.underlying t = some (.array n e))
    (hinf : P.info? e = some inf) (hi : P.info? t = some i) (hz : i.zero = some z)
    (hk : fillK (fun i => some (i * inf.size, inf.size)) ts (z.cells.toList.map ofVal) parts.toList fun cs => k (.agg cs) []) : ∃ a, k a [] ∧ QS P B0 w0 c p o (ev ts) a [] := by
  obtain ⟨cs, h1, h2⟩ := fillK_sound hk
  refine ⟨_, h1, QS.value (by simp [ho]) fun g w h act hs hc hop => ?_⟩
  obtain ⟨z1, z2⟩ := zeros_rel g w h z
  obtain ⟨arr, f1, f2, f3⟩ := h2 g w h act.eval z.cells z1 z2 (fun q hq => hop q.2 (by rw [ho]; exact mem_parts hq))
  refine ⟨.agg arr, ?_, .agg _ _ f2.symm f3⟩
  have e1 : (parts.map fun (q : Nat × Operand) => (q.1, act.eval q.2)).toList = parts.toList.map fun q => (q.1, act.eval q.2) := by simp
  simp only [execOp, ho, Instr.build, Sem.run_bind, zeroValue, typeInfo, run_program, Result.andThen_ok, hi, Sem.run_pure, hz, run_underlying hu, sizeOf, hinf, e1, f1]

/-- The parts of a slice's literal, laid out. -/
theorem partsK_sound {es j : Nat} {ps : List (Nat × Operand)} {k : List (List A) → List Nat → Prop} (hk : partsK hp ts es j ps k) :
    ∃ els bs, k els bs ∧ els.length = ps.length ∧ (∀ c ∈ els, c.length = es ∧ ∀ x ∈ c, plainA x = true) ∧
      ∀ (g : Gh) (w : World) (h : Hp) (ρ : Operand → Value) (arr : Array Value), SW B0 w0 g w h → (∀ b, Live h b → Live (hf hp) b → h b = hf hp b) → (∀ q ∈ ps, VR g w h (ev ts q.2) (ρ q.2)) → (j + ps.length) * es ≤ arr.size →
        ∃ arr', Instr.fill (fun i => some (i * es, es)) arr (ps.map fun q => (q.1, ρ q.2)) = some arr' ∧ arr'.size = arr.size ∧ (∀ m, m < j * es → arr'.getD m undef = arr.getD m undef) ∧
          ∀ (g2 : Gh) (h2 : Hp), (∀ x, g.I x → g2.I x) → (∀ b ∈ bs, Live h b → g2.I (g.m b)) → ∀ i l, i < els.length → l < es → VR g2 w h2 ((els.getD i []).getD l .un) (arr'.getD ((j + i) * es + l) undef) := by
  induction ps generalizing j k with
  | nil => exact ⟨[], [], hk, rfl, by simp, fun g w h ρ arr _ _ _ _ => ⟨arr, rfl, rfl, fun _ _ => rfl, fun _ _ _ _ i l hi => by simp at hi⟩⟩
  | cons q ps ih =>
    obtain ⟨hq, hk2⟩ := chk_elim (show chk (q.1 == j && boxable (ev ts q.2)) _ from hk)
    simp only [Bool.and_eq_true, beq_iff_eq] at hq
    obtain ⟨hqj, hbx⟩ := hq
    obtain ⟨cs, k1, k2, k3, k5⟩ := convL_sound (B0 := B0) (w0 := w0) hk2
    obtain ⟨hlen, k6⟩ := chk_elim k1
    simp only [beq_iff_eq] at hlen
    obtain ⟨els, bs, m1, m2, m3, m4⟩ := ih (k := fun els bs => k (cs :: els) (blocksL (cellsOf (ev ts q.2)) ++ bs)) k6
    refine ⟨cs :: els, blocksL (cellsOf (ev ts q.2)) ++ bs, m1, by simp [m2], ?_, ?_⟩
    · intro c hc
      rcases List.mem_cons.1 hc with rfl | hc
      · exact ⟨hlen, k3⟩
      · exact m3 c hc
    · intro g w h ρ arr hs hag hop hfit
      simp only [List.length_cons] at hfit
      have hvr := hop q (by simp)
      obtain ⟨q1, q2⟩ := hvr.cells (fun e => by rw [e] at hbx; cases hbx) (fun xs e => by rw [e] at hbx; cases hbx)
      have hcsz : (ρ q.2).cells.size = es := by omega
      have hje : (j + 1) * es ≤ arr.size := Nat.le_trans (Nat.mul_le_mul_right _ (by omega)) hfit
      have hje' : j * es + es ≤ arr.size := by rw [Nat.add_mul, Nat.one_mul] at hje; exact hje
      have hf := foldSet (ρ q.2).cells.toList 0 (j * es) arr (by simp; omega)
      have hfill := fill_cons (fun i => some (i * es, es)) arr q.1 (ρ q.2) (ps.map fun q => (q.1, ρ q.2)) (off := j * es) (size := es) (by rw [hqj]) hcsz hje'
      obtain ⟨arr', n1, n2, n3, n4⟩ := m4 g w h ρ _ hs hag (fun q' hq' => hop q' (List.mem_cons_of_mem _ hq')) (by rw [hf.1]; rw [show j + 1 + ps.length = j + (ps.length + 1) by omega]; exact hfit)
      refine ⟨arr', by rw [List.map_cons, hfill]; exact n1, by rw [n2, hf.1], fun m hm => ?_, fun g2 h2 hI hb i l hi hl => ?_⟩
      · rw [n3 m (by rw [Nat.add_mul]; omega), hf.2, if_neg (by omega)]
      · have hbs : ∀ b, b ∈ blocksL (cellsOf (ev ts q.2)) ++ bs → Live h b → g2.I (g.m b) := hb
        cases i with
        | zero =>
          have e1 : (j + 0) * es + l < (j + 1) * es := by rw [Nat.add_zero, Nat.add_mul]; omega
          rw [n3 _ e1, hf.2]
          simp only [Nat.add_zero, Array.length_toList]
          rw [if_pos (by omega), Nat.add_sub_cancel_left]
          have := k5 g w h (fun i => (ρ q.2).cells.getD i undef) hs hag q2 g2 h2 hI (fun b hb' => hbs b (List.mem_append_left _ hb')) l (by omega)
          have e : (ρ q.2).cells.toList.getD l undef = (ρ q.2).cells.getD l undef := by
            have : l < (ρ q.2).cells.size := by omega
            simp [List.getD_eq_getElem?_getD, Array.getD, this]
          rw [e]; exact this
        | succ i =>
          have := n4 g2 h2 hI (fun b hb' => hbs b (List.mem_append_right _ hb')) i l (by simpa using hi) hl
          rw [show j + (i + 1) = j + 1 + i by omega]; exact this
/-- The same, where references stay references. -/
theorem keptK_sound {es j : Nat} {ps : List (Nat × Operand)} {k : List (List A) → Prop} (hk : keptK ts es j ps k) :
    ∃ els, k els ∧ els.length = ps.length ∧ (∀ c ∈ els, c.length = es) ∧
      ∀ (g : Gh) (w : World) (h : Hp) (ρ : Operand → Value) (arr : Array Value), (∀ q ∈ ps, VR g w h (ev ts q.2) (ρ q.2)) → (j + ps.length) * es ≤ arr.size →
        ∃ arr', Instr.fill (fun i => some (i * es, es)) arr (ps.map fun q => (q.1, ρ q.2)) = some arr' ∧ arr'.size = arr.size ∧ (∀ m, m < j * es → arr'.getD m undef = arr.getD m undef) ∧
          ∀ i l, i < els.length → l < es → VR g w h ((els.getD i []).getD l .un) (arr'.getD ((j + i) * es + l) undef) := by
  induction ps generalizing j k with
  | nil => exact ⟨[], hk, rfl, by simp, fun g w h ρ arr _ _ => ⟨arr, rfl, rfl, fun _ _ => rfl, fun i l hi => by simp at hi⟩⟩
  | cons q ps ih =>
    have hk0 : force (ev ts q.2) fun a => chk (q.1 == j && boxable a && allB oneA (cellsOf a)) (chk ((cellsOf a).length == es) (keptK ts es (j + 1) ps fun els => k (cellsOf a :: els))) := hk
    rw [force_eq] at hk0
    obtain ⟨hq, hk2⟩ := chk_elim hk0
    simp only [Bool.and_eq_true, beq_iff_eq] at hq
    obtain ⟨⟨hqj, hbx⟩, hone⟩ := hq
    obtain ⟨hlen, k6⟩ := chk_elim hk2
    simp only [beq_iff_eq] at hlen
    obtain ⟨els, m1, m2, m3, m4⟩ := ih k6
    refine ⟨cellsOf (ev ts q.2) :: els, m1, by simp [m2], ?_, ?_⟩
    · intro c hc
      rcases List.mem_cons.1 hc with rfl | hc
      · exact hlen
      · exact m3 c hc
    · intro g w h ρ arr hop hfit
      simp only [List.length_cons] at hfit
      have hvr := hop q (by simp)
      obtain ⟨q1, q2⟩ := hvr.cells (fun e => by rw [e] at hbx; cases hbx) (fun xs e => by rw [e] at hbx; cases hbx)
      have hcsz : (ρ q.2).cells.size = es := by omega
      have hje : (j + 1) * es ≤ arr.size := Nat.le_trans (Nat.mul_le_mul_right _ (by omega)) hfit
      have hje' : j * es + es ≤ arr.size := by rw [Nat.add_mul, Nat.one_mul] at hje; exact hje
      have hf := foldSet (ρ q.2).cells.toList 0 (j * es) arr (by simp; omega)
      have hfill := fill_cons (fun i => some (i * es, es)) arr q.1 (ρ q.2) (ps.map fun q => (q.1, ρ q.2)) (off := j * es) (size := es) (by rw [hqj]) hcsz hje'
      obtain ⟨arr', n1, n2, n3, n4⟩ := m4 g w h ρ _ (fun q' hq' => hop q' (List.mem_cons_of_mem _ hq')) (by rw [hf.1]; rw [show j + 1 + ps.length = j + (ps.length + 1) by omega]; exact hfit)
      refine ⟨arr', by rw [List.map_cons, hfill]; exact n1, by rw [n2, hf.1], fun m hm => ?_, fun i l hi hl => ?_⟩
      · rw [n3 m (by rw [Nat.add_mul]; omega), hf.2, if_neg (by omega)]
      · cases i with
        | zero =>
          have e1 : (j + 0) * es + l < (j + 1) * es := by rw [Nat.add_zero, Nat.add_mul]; omega
          rw [n3 _ e1, hf.2]
          simp only [Nat.add_zero, Array.length_toList]
          rw [if_pos (by omega), Nat.add_sub_cancel_left]
          have := q2 l (by omega)
          have e : (ρ q.2).cells.toList.getD l undef = (ρ q.2).cells.getD l undef := by
            have : l < (ρ q.2).cells.size := by omega
            simp [List.getD_eq_getElem?_getD, Array.getD, this]
          rw [e]; exact this
        | succ i =>
          have := n4 i l (by simpa using hi) hl
          rw [show j + (i + 1) = j + 1 + i by omega]; exact this
theorem partsK_blocks {es j : Nat} {ps : List (Nat × Operand)} {k : List (List A) → List Nat → Prop} (hk : partsK hp ts es j ps k) : True := trivial
theorem run_buildSlice {t e : TypeId} {inf : TypeInfo} {z : Value} {len : Nat} {parts : Array (Nat × Value)} {arr : Array Value} (hu : P.underlying t = some (.slice e)) (hi : P.info? e = some inf) (hz : inf.zero = some z) (hlim : len * inf.size ≤ 4096) (w : World)
    (hf : len * inf.size ≠ 0 → Instr.fill (fun i => some (i * inf.size, inf.size)) ((Array.range (len * inf.size)).map (z.cells[· % z.cells.size]!)) parts.toList = some arr)
    (hf0 : len * inf.size = 0 → Instr.fill (fun i => some (i * inf.size, inf.size)) #[] parts.toList = some arr) :
    (Instr.buildSlice t len parts).run P w = .ok (.slice (some ⟨w.heap.size, 0, none⟩) len len) (w.alloc (.cells arr e)) := by
  have hl : ¬ (16777216 < len * inf.size) := by omega
  by_cases h0 : len * inf.size = 0
  · have h1 := hf0 h0
    have e0 : (Array.range (len * inf.size)).map (fun x : Nat => (#[] : Array Value)[x % (#[] : Array Value).size]!) = #[] := by rw [h0, Array.range_zero']; simp
    simp only [Instr.buildSlice, Sem.run_bind, run_underlying hu, Result.andThen_ok, sizeOf, typeInfo, run_program, hi, Sem.run_pure, Sem.run_ite, if_pos h0, e0, h1]
    simp [hl, newRow]
  · have h1 := hf h0
    simp only [Instr.buildSlice, Sem.run_bind, run_underlying hu, Result.andThen_ok, sizeOf, typeInfo, run_program, hi, Sem.run_pure, Sem.run_ite, if_neg h0, zeroValue, hz, h1]
    simp [hl, newRow]

end Go.YtoeophdffhmpmaaE
