/- The engine: more of the quiet operations: places, parts, function values, lengths, boxes. -/
import Derived.Test.YtoeophdffhmpmaaE6
set_option linter.unusedVariables false
set_option linter.unusedSimpArgs false
namespace Go.YtoeophdffhmpmaaE
open Go Go.RowKit

variable {P : Program} {B0 : Nat} {w0 : Wz} {c : Hp} {p : Nat} {o : Oper} {ts : List A} {hp : List Blk}

theorem structPlace_elim {fields : Array Field} {f : Nat} {q : Nat × Nat} (h : structPlace P fields f = some q) : ∃ fd i, fields[f]? = some fd ∧ P.info? fd.type = some i ∧ q = (fd.offset, i.size) := by
  unfold structPlace at h
  split at h
  · rename_i fd hf
    split at h
    · rename_i i hi
      cases h
      exact ⟨fd, i, hf, hi, rfl⟩
    · cases h
  · cases h
theorem run_fieldAt {s : TypeId} {fields : Array Field} {f : Nat} {fd : Field} {i : TypeInfo} (hu : P.underlying s = some (.struct fields)) (hf : fields[f]? = some fd) (hi : P.info? fd.type = some i) (h0 : i.size ≠ 0) (w : World) (a : Addr) :
    (Instr.fieldAt s (.pointer (some a)) f).run P w = .ok (.pointer (some (a.add fd.offset))) w := by
  simp [Instr.fieldAt, run_underlying hu, hf, Instr.sureAddr, fieldPlace, sizeOf, typeInfo, hi, h0]
theorem qs_fieldAddr_pt {s : TypeId} {x : Operand} {f : Nat} {fields : Array Field} {off size : Nat} {b ver es i fo : Nat} (ho : o.op = .fieldAddr s x f) (hu : P.underlying s = some (.struct fields))
    (hq : structPlace P fields f = some (off, size)) (hs0 : size ≠ 0) (hx : ev ts x = .pt b ver es i fo) (hb0 : hp.getD b .hole ≠ .hole) (hv0 : ver = (hp.getD b .hole).ver) : QS P B0 w0 (hf hp) p o (ev ts) (.pt b ver es i (fo + off)) [] :=
  QS.value (by simp [ho]) fun g w h act hs hc hop => by
    obtain ⟨fd, inf, h1, h2, h3⟩ := structPlace_elim hq
    cases h3
    have h4 := hop x (by simp [ho, Op.operands])
    rw [hx] at h4
    obtain ⟨hh, he, hxx⟩ := pt_now h4 hc rfl hv0 hb0
    obtain ⟨_, hl, hv, hes, _⟩ := h4.pt_inv
    refine ⟨_, by simp [execOp, ho, hxx, run_fieldAt hu h1 h2 hs0]; rfl, .pt b ver es i _ _ rfl hl hv hes (fun _ => ?_)⟩
    rw [add_none, Nat.add_assoc]
theorem qs_fieldAddr_rp {s : TypeId} {x : Operand} {f : Nat} {fields : Array Field} {off size : Nat} {cells : List A} (ho : o.op = .fieldAddr s x f) (hu : P.underlying s = some (.struct fields))
    (hq : structPlace P fields f = some (off, size)) (hs0 : size ≠ 0) (hx : ev ts x = .rp cells) : QS P B0 w0 c p o (ev ts) (.rp (cells.drop off)) [] :=
  QS.value (by simp [ho]) fun g w h act hs hc hop => by
    obtain ⟨fd, inf, h1, h2, h3⟩ := structPlace_elim hq
    cases h3
    have h4 := hop x (by simp [ho, Op.operands])
    rw [hx] at h4
    obtain ⟨blk, o0, vals, he, hI, hc2, hv, hn⟩ := h4.rp_inv
    refine ⟨_, by simp [execOp, ho, he, run_fieldAt hu h1 h2 hs0]; rfl, ?_⟩
    rw [add_none]
    refine .rp _ blk (o0 + fd.offset) (fun j => vals (fd.offset + j)) hI (fun j hj => ?_) (fun j hj => ?_) (fun x hx => hn x (List.mem_of_mem_drop hx))
    · simp only [List.length_drop] at hj
      rw [Nat.add_assoc]; exact hc2 _ (by omega)
    · simp only [List.length_drop] at hj
      have := hv (fd.offset + j) (by omega)
      simpa [List.getD_eq_getElem?_getD, List.getElem?_drop] using this
theorem VR.agg_inv {g : Gh} {w : World} {h : Hp} {xs : List A} {x : Value} (r : VR g w h (.agg xs) x) : ∃ vs, x = .agg vs ∧ xs.length = vs.size ∧ ∀ i, i < xs.length → VR g w h (xs.getD i .un) (vs.getD i undef) := by
  cases r with
  | agg _ vs hl hv => exact ⟨vs, rfl, hl, hv⟩
theorem qs_field {s : TypeId} {x : Operand} {f : Nat} {fields : Array Field} {fd : Field} {d : TypeDesc} {i : TypeInfo} {cells : List A} {k : A → List Blk → Prop} (ho : o.op = .field s x f) (hu : P.underlying s = some (.struct fields))
    (hf : fields[f]? = some fd) (hd : P.underlying fd.type = some d) (hi : P.info? fd.type = some i) (hx : ev ts x = .agg cells) (hk : loadB (isAggD d) i.size cells fd.offset fun a => k a []) :
    ∃ a, k a [] ∧ QS P B0 w0 c p o (ev ts) a [] := by
  obtain ⟨a, ha, hl⟩ := part_sound hd hi hk
  refine ⟨a, ha, QS.value (by simp [ho]) fun g w h act hs hc hop => ?_⟩
  have h4 := hop x (by simp [ho, Op.operands])
  rw [hx] at h4
  obtain ⟨vs, he, _⟩ := h4.agg_inv
  rw [he] at h4
  obtain ⟨v, h5, h6⟩ := hl g w h vs h4
  exact ⟨v, by simp [execOp, ho, he, Instr.field, run_underlying hu, hf, asAgg, h5], h6⟩
theorem qs_index {t e : TypeId} {x ix : Operand} {k1 : IntKind} {n : Int} {len : Nat} {d : TypeDesc} {i : TypeInfo} {cells : List A} {k : A → List Blk → Prop} (ho : o.op = .index t x ix) (hu : P.underlying t = some (.array len e))
    (hd : P.underlying e = some d) (hi : P.info? e = some i) (hn : ev ts ix = .v (.int k1 n)) (hx : ev ts x = .agg cells) (hb : 0 ≤ n ∧ n < len) (hk : loadB (isAggD d) i.size cells (n.toNat * i.size) fun a => k a []) :
    ∃ a, k a [] ∧ QS P B0 w0 c p o (ev ts) a [] := by
  obtain ⟨a, ha, hl⟩ := part_sound hd hi hk
  refine ⟨a, ha, QS.value (by simp [ho]) fun g w h act hs hc hop => ?_⟩
  have h4 := hop x (by simp [ho, Op.operands])
  have h3 := hop ix (by simp [ho, Op.operands])
  rw [hx] at h4
  rw [hn] at h3
  obtain ⟨vs, he, _⟩ := h4.agg_inv
  rw [he] at h4
  obtain ⟨v, h5, h6⟩ := hl g w h vs h4
  exact ⟨v, by simp [execOp, ho, he, h3.int_inv, Instr.index, asIntOf, run_underlying hu, hb, sizeOf, typeInfo, hi, h5], h6⟩
theorem qs_indexAddr_sl {t e : TypeId} {x ix : Operand} {k1 : IntKind} {n : Int} {inf : TypeInfo} {b ver es i len : Nat} (ho : o.op = .indexAddr t x ix) (hu : P.underlying t = some (.slice e)) (hi : P.info? e = some inf)
    (hn : ev ts ix = .v (.int k1 n)) (hx : ev ts x = .sl b ver es i len) (hes : inf.size = es) (hb : 0 ≤ n ∧ n < len) (hb0 : hp.getD b .hole ≠ .hole) (hv0 : ver = (hp.getD b .hole).ver) :
    QS P B0 w0 (hf hp) p o (ev ts) (.pt b ver es (i + n.toNat) 0) [] :=
  QS.value (by simp [ho]) fun g w h act hs hc hop => by
    have h4 := hop x (by simp [ho, Op.operands])
    have h3 := hop ix (by simp [ho, Op.operands])
    rw [hx] at h4
    rw [hn] at h3
    obtain ⟨_, hl, hv, he, hxx⟩ := h4.sl_inv
    have hh : h b = hp.getD b .hole := hc b hl (by unfold Live hf; exact hb0)
    obtain ⟨a, cap, h5, h6, h7, h8⟩ := hxx (by rw [hh]; exact hv0)
    have ha := h8 (by omega)
    subst ha
    refine ⟨_, by simp [execOp, ho, h5, h3.int_inv, Instr.indexAt, asIntOf, run_underlying hu, hb, sizeOf, typeInfo, hi]; rfl, .pt b ver es _ 0 _ rfl hl hv he (fun _ => ?_)⟩
    rw [hes, add_none, Nat.add_mul, Nat.add_zero]
theorem qs_indexAddr_ro {t e : TypeId} {x ix : Operand} {k1 : IntKind} {n : Int} {inf : TypeInfo} {els : List (List A)} {cl : List A} (ho : o.op = .indexAddr t x ix) (hu : P.underlying t = some (.slice e)) (hi : P.info? e = some inf)
    (hn : ev ts ix = .v (.int k1 n)) (hx : ev ts x = .ro els) (hb : 0 ≤ n ∧ n < els.length) (hcl : els[n.toNat]? = some cl) (hsz : cl.length = inf.size) :
    QS P B0 w0 c p o (ev ts) (.rp cl) [] :=
  QS.value (by simp [ho]) fun g w h act hs hc hop => by
    have h4 := hop x (by simp [ho, Op.operands])
    have h3 := hop ix (by simp [ho, Op.operands])
    rw [hx] at h4
    rw [hn] at h3
    obtain ⟨a, cap, es, blk, off, vals, he, h0, hes, hc2, hv, hpl, hcap⟩ := h4.ro_inv
    have hne : els ≠ [] := fun hh => by subst hh; simp at hcl
    obtain ⟨ha, hI⟩ := h0 hne
    subst ha
    obtain ⟨hi1, hi2⟩ := List.getElem?_eq_some_iff.1 hcl
    have hmem : cl ∈ els := by rw [← hi2]; exact List.getElem_mem _
    have hse : inf.size = es := by rw [← hsz]; exact hes cl hmem
    have hge : els.getD n.toNat [] = cl := by rw [List.getD_eq_getElem?_getD, hcl]; rfl
    refine ⟨_, by simp [execOp, ho, he, h3.int_inv, Instr.indexAt, asIntOf, run_underlying hu, hb, sizeOf, typeInfo, hi]; rfl, ?_⟩
    rw [hse, add_none]
    refine .rp cl blk _ (fun j => vals n.toNat j) hI (fun j hj => hc2 _ _ hi1 (by omega)) (fun j hj => ?_) (hpl cl hmem)
    have := hv n.toNat j hi1 (by omega)
    rwa [hge] at this
theorem qs_indexAddr_arr {t e : TypeId} {x ix : Operand} {k1 : IntKind} {n : Int} {len : Nat} {inf : TypeInfo} {b ver es i fo : Nat} (ho : o.op = .indexAddr t x ix) (hu : P.underlying t = some (.array len e)) (hi : P.info? e = some inf)
    (hn : ev ts ix = .v (.int k1 n)) (hx : ev ts x = .pt b ver es i fo) (hb : 0 ≤ n ∧ n < len) (hb0 : hp.getD b .hole ≠ .hole) (hv0 : ver = (hp.getD b .hole).ver) :
    QS P B0 w0 (hf hp) p o (ev ts) (.pt b ver es i (fo + n.toNat * inf.size)) [] :=
  QS.value (by simp [ho]) fun g w h act hs hc hop => by
    have h4 := hop x (by simp [ho, Op.operands])
    have h3 := hop ix (by simp [ho, Op.operands])
    rw [hx] at h4
    rw [hn] at h3
    obtain ⟨hh, he, hxx⟩ := pt_now h4 hc rfl hv0 hb0
    obtain ⟨_, hl, hv, hes, _⟩ := h4.pt_inv
    refine ⟨_, by simp [execOp, ho, hxx, h3.int_inv, Instr.indexAt, asIntOf, run_underlying hu, hb, sizeOf, typeInfo, hi, Instr.sureAddr]; rfl, .pt b ver es i _ _ rfl hl hv hes (fun _ => ?_)⟩
    rw [add_none, Nat.add_assoc]
theorem qs_indexAddr_arp {t e : TypeId} {x ix : Operand} {k1 : IntKind} {n : Int} {len : Nat} {inf : TypeInfo} {cells : List A} (ho : o.op = .indexAddr t x ix) (hu : P.underlying t = some (.array len e)) (hi : P.info? e = some inf)
    (hn : ev ts ix = .v (.int k1 n)) (hx : ev ts x = .rp cells) (hb : 0 ≤ n ∧ n < len) :
    QS P B0 w0 c p o (ev ts) (.rp (cells.drop (n.toNat * inf.size))) [] :=
  QS.value (by simp [ho]) fun g w h act hs hc hop => by
    have h4 := hop x (by simp [ho, Op.operands])
    have h3 := hop ix (by simp [ho, Op.operands])
    rw [hx] at h4
    rw [hn] at h3
    obtain ⟨blk, o0, vals, he, hI, hc2, hv, hnn⟩ := h4.rp_inv
    refine ⟨_, by simp [execOp, ho, he, h3.int_inv, Instr.indexAt, asIntOf, run_underlying hu, hb, sizeOf, typeInfo, hi, Instr.sureAddr]; rfl, ?_⟩
    rw [add_none]
    refine .rp _ blk (o0 + n.toNat * inf.size) (fun j => vals (n.toNat * inf.size + j)) hI (fun j hj => ?_) (fun j hj => ?_) (fun x hx => hnn x (List.mem_of_mem_drop hx))
    · simp only [List.length_drop] at hj
      rw [Nat.add_assoc]; exact hc2 _ (by omega)
    · simp only [List.length_drop] at hj
      have := hv (n.toNat * inf.size + j) (by omega)
      simpa [List.getD_eq_getElem?_getD, List.getElem?_drop] using this
theorem VRs_map {g : Gh} {w : World} {h : Hp} {ρ : Operand → Value} (xs : Array Operand) (hop : ∀ x ∈ xs, VR g w h (ev ts x) (ρ x)) :
    (xs.toList.map (ev ts)).length = (xs.map ρ).size ∧ ∀ i, i < (xs.toList.map (ev ts)).length → VR g w h ((xs.toList.map (ev ts)).getD i .un) ((xs.map ρ).getD i undef) := by
  refine ⟨by simp, fun i hi => ?_⟩
  simp only [List.length_map, Array.length_toList] at hi
  have := hop xs[i] (Array.getElem_mem hi)
  simpa [List.getD_eq_getElem?_getD, hi, Array.getD] using this
theorem qs_makeFunc {f : FuncId} {first captured : Array Operand} (ho : o.op = .makeFunc (.func f) first captured) : QS P B0 w0 c p o (ev ts) (.fn f (first.toList.map (ev ts)) (captured.toList.map (ev ts))) [] :=
  QS.value (by simp [ho]) fun g w h act hs hc hop => by
    refine ⟨.func (.func f) (first.map act.eval) (captured.map act.eval), by simp [execOp, ho, Instr.makeFunc], ?_⟩
    obtain ⟨h1, h2⟩ := VRs_map (ts := ts) (g := g) (w := w) (h := h) (ρ := act.eval) captured (fun x hx => hop x (by simp [ho, Op.operands, hx]))
    obtain ⟨h3, h4⟩ := VRs_map (ts := ts) (g := g) (w := w) (h := h) (ρ := act.eval) first (fun x hx => hop x (by simp [ho, Op.operands, hx]))
    exact .fn f _ _ _ _ h3 h1 h4 h2
theorem nowB_elim {b ver : Nat} (h : nowB hp b ver = true) : hp.getD b .hole ≠ .hole ∧ ver = (hp.getD b .hole).ver := by
  unfold nowB at h
  cases hb : hp.getD b .hole <;> rw [hb] at h
  · cases h
  · exact ⟨Blk.noConfusion, by simpa [Blk.ver] using h⟩
  · exact ⟨Blk.noConfusion, by simpa [Blk.ver] using h⟩
theorem qs_len {cl : Call} {x : Operand} {e : TypeId} {n : Nat} (ho : o.op = .call cl) (hcl : cl.callee = .builtin .len) (ha : cl.args.toList = [x]) {T : TypeId} (h1 : cl.argTypes[0]? = some T) (hu : P.underlying T = some (.slice e))
    (hx : ∀ (g : Gh) (w : World) (h : Hp) (v : Value), VR g w h (ev ts x) v → (∀ b, Live h b → Live c b → h b = c b) → ∃ a m, v = .slice a n m) : QS P B0 w0 c p o (ev ts) (.v (.int .i64 n)) [] :=
  QS.value (by simp [ho]) fun g w h act hs hc hop => by
    have haa : cl.args = #[x] := by rw [← Array.toList_inj, ha]
    have hx1 := hop x (by simp [ho, Op.operands, Call.operands, hcl, haa])
    obtain ⟨a, m, hv⟩ := hx g w h _ hx1 hc
    exact ⟨_, by simp [execOp, ho, resolve, hcl, invoke, builtin, Builtin.len_, haa, hv, h1, run_underlying hu, goInt], .v _ rfl⟩
theorem qs_nil_pt {x : Operand} {b ver es i fo : Nat} (ho : o.op = .nilCheck x) (hx : ev ts x = .pt b ver es i fo) (hn : nowB hp b ver = true) : QS P B0 w0 (hf hp) p o (ev ts) (.pt b ver es i fo) [] :=
  QS.value (by simp [ho]) fun g w h act hs hc hop => by
    have h1 := hop x (by simp [ho, Op.operands])
    rw [hx] at h1
    obtain ⟨hb0, hv0⟩ := nowB_elim hn
    obtain ⟨_, _, he⟩ := pt_now h1 hc rfl hv0 hb0
    rw [he] at h1
    exact ⟨_, by simp [execOp, ho, he], h1⟩
theorem qs_max {cl : Call} {x y : Operand} {k1 k2 : IntKind} {a b : Int} (ho : o.op = .call cl) (hcl : cl.callee = .builtin .max) (ha : cl.args.toList = [x, y]) (hx : ev ts x = .v (.int k1 a)) (hy : ev ts y = .v (.int k2 b)) :
    QS P B0 w0 c p o (ev ts) (.v (.int k1 (if b > a then b else a))) [] :=
  QS.value (by simp [ho]) fun g w h act hs hc hop => by
    have haa : cl.args = #[x, y] := by rw [← Array.toList_inj, ha]
    have hx1 := hop x (by simp [ho, Op.operands, Call.operands, hcl, haa])
    have hy1 := hop y (by simp [ho, Op.operands, Call.operands, hcl, haa])
    rw [hx] at hx1
    rw [hy] at hy1
    exact ⟨_, by simp [execOp, ho, resolve, hcl, invoke, builtin, haa, hx1.int_inv, hy1.int_inv, run_max_int2], .v _ rfl⟩
theorem qs_min {cl : Call} {x y : Operand} {k1 k2 : IntKind} {a b : Int} (ho : o.op = .call cl) (hcl : cl.callee = .builtin .min) (ha : cl.args.toList = [x, y]) (hx : ev ts x = .v (.int k1 a)) (hy : ev ts y = .v (.int k2 b)) :
    QS P B0 w0 c p o (ev ts) (.v (.int k1 (if b < a then b else a))) [] :=
  QS.value (by simp [ho]) fun g w h act hs hc hop => by
    have haa : cl.args = #[x, y] := by rw [← Array.toList_inj, ha]
    have hx1 := hop x (by simp [ho, Op.operands, Call.operands, hcl, haa])
    have hy1 := hop y (by simp [ho, Op.operands, Call.operands, hcl, haa])
    rw [hx] at hx1
    rw [hy] at hy1
    exact ⟨_, by simp [execOp, ho, resolve, hcl, invoke, builtin, haa, hx1.int_inv, hy1.int_inv, run_min_int2], .v _ rfl⟩

/-! ### New blocks -/
theorem QS.block {a : A} {k : Blk} (hd : ∀ d, o.op ≠ .defer d)
    (hrun : ∀ (g : Gh) (w : World) (h : Hp) (act : Act), SW B0 w0 g w h → (∀ b, Live h b → Live c b → h b = c b) → (∀ x ∈ o.op.operands, VR g w h (ev ts x) (act.eval x)) →
      ∃ v arr E cp, (execOp act.eval o).run P w = .ok (.value v) (w.alloc (.cells arr E)) ∧ NB g w h arr cp k ∧ (∀ (w' : World) (h' : Hp), h' p = k → VR (g.at p w.heap.size cp) w' h' a v)) : QS P B0 w0 c p o (ev ts) a [k] := by
  intro r g w h act N next Q hs hc hfree hop hnext
  obtain ⟨v, arr, E, cp, hr, hnb, hv⟩ := hrun g w h act hs hc hop
  refine ⟨fun f _ => trivial, ?_⟩
  rw [Oper.semAt_eq _ _ _ hd, hr]
  have hb : Below w.heap.size w (w.alloc (.cells arr E)) := (Below.refl _ _).alloc (Nat.le_refl _) _
  obtain ⟨e, s⟩ := hs.add hb (Nat.le_refl _) (heap_alloc_new w _) (hfree p (Nat.le_refl _) (by simp)) hnb
  exact hnext v _ _ e s (hv _ _ (by rw [addH_one, if_pos rfl]))
theorem VR.cells {g : Gh} {w : World} {h : Hp} {a : A} {x : Value} (r : VR g w h a x) (hu : a ≠ .un) (ht : ∀ xs, a ≠ .tup xs) : (cellsOf a).length = x.cells.size ∧ ∀ j, j < (cellsOf a).length → VR g w h ((cellsOf a).getD j .un) (x.cells.getD j undef) := by
  have one : ∀ {a : A} {x : Value}, VR g w h a x → x.oneCell' = true → cellsOf a = [a] → (cellsOf a).length = x.cells.size ∧ ∀ j, j < (cellsOf a).length → VR g w h ((cellsOf a).getD j .un) (x.cells.getD j undef) := by
    intro a x r h1 h2
    rw [h2]
    have : x.cells = #[x] := by cases x <;> first | rfl | simp [Value.oneCell'] at h1
    rw [this]
    refine ⟨rfl, fun j hj => ?_⟩
    simp only [List.length_cons, List.length_nil] at hj
    obtain rfl : j = 0 := by omega
    exact r
  cases r with
  | un => exact absurd rfl hu
  | tup xs => exact absurd rfl (ht xs)
  | agg xs vs hl hv => exact ⟨hl, hv⟩
  | v x h1 => exact one (.v x h1) h1 rfl
  | pt b ver es i fo x h1 hb hv he hx => exact one (.pt b ver es i fo x h1 hb hv he hx) h1 rfl
  | sl b ver es i len x h1 hb hv he hx => exact one (.sl b ver es i len x h1 hb hv he hx) h1 rfl
  | ro els a cap es blk off vals h0 hes hc hv hn hcap => exact one (.ro els a cap es blk off vals h0 hes hc hv hn hcap) rfl rfl
  | rp cells blk off vals hI hc hv hn => exact one (.rp cells blk off vals hI hc hv hn) rfl rfl
  | cz a => exact one (.cz a) rfl rfl
  | fn f fst cap fs vs hl0 hl hv0 hv => exact one (.fn f fst cap fs vs hl0 hl hv0 hv) rfl rfl
  | yl i l hl => exact one (.yl i l hl) rfl rfl
theorem qs_box {t : TypeId} {x : Operand} (ho : o.op = .box t x) (hb : boxable (ev ts x) = true) : QS P B0 w0 c p o (ev ts) (.pt p 0 0 0 0) [.bx false (cellsOf (ev ts x))] :=
  QS.block (by simp [ho]) fun g w h act hs hc hop => by
    have h1 := hop x (by simp [ho, Op.operands])
    obtain ⟨h2, h3⟩ := h1.cells (fun e => by rw [e] at hb; cases hb) (fun xs e => by rw [e] at hb; cases hb)
    refine ⟨_, (act.eval x).cells, t, 0, by simp [execOp, ho, Instr.box, newVar, newRow]; rfl, ⟨rfl, h2.symm, h3⟩, fun w' h' hh => ?_⟩
    exact .pt p 0 0 0 0 _ rfl (by unfold Live; rw [hh]; exact Blk.noConfusion) (Nat.zero_le _) (by rw [hh]; rfl) (fun _ => by simp [Gh.at])
theorem qs_alloc {t : TypeId} {i : TypeInfo} {z : Value} (ho : o.op = .alloc t) (hi : P.info? t = some i) (hz : i.zero = some z) : QS P B0 w0 c p o (ev ts) (.pt p 0 0 0 0) [.bx false (z.cells.toList.map ofVal)] :=
  QS.block (by simp [ho]) fun g w h act hs hc hop => by
    refine ⟨_, z.cells, t, 0, by simp [execOp, ho, Instr.alloc, zeroValue, typeInfo, hi, hz, newVar, newRow]; rfl, ⟨rfl, by simp, fun j hj => ?_⟩, fun w' h' hh => ?_⟩
    · simp only [List.length_map, Array.length_toList] at hj
      rw [getD_map_ofVal _ _ (by simpa using hj)]
      have : z.cells.getD j undef = z.cells.toList.getD j undef := by simp [Array.getD, hj, List.getD_eq_getElem?_getD]
      rw [this]; exact VR.ofVal ..
    · exact .pt p 0 0 0 0 _ rfl (by unfold Live; rw [hh]; exact Blk.noConfusion) (Nat.zero_le _) (by rw [hh]; rfl) (fun _ => by simp [Gh.at])

end Go.YtoeophdffhmpmaaE
