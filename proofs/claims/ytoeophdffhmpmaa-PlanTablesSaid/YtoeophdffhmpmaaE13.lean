/- The engine: operations that write or lay: stores, literals with what is frozen, nil, appends, calls by contract. -/
import Derived.Test.YtoeophdffhmpmaaE12
set_option linter.unusedVariables false
set_option linter.unusedSimpArgs false
namespace Go.YtoeophdffhmpmaaE
open Go Go.RowKit

variable {P : Program} {B0 : Nat} {w0 : Wz} {c : Hp} {p : Nat} {o : Oper} {ts : List A} {hp : List Blk}

/-- WHAT AN OPERATION COMES TO IN ITS TEXT'S ORDER. -/
def OS (P : Program) (B0 : Nat) (w0 : Wz) (hp : List Blk) (o : Oper) (E : Operand → A) (k : A → List Blk → Prop) : Prop :=
  ∀ (r : Option Nat) (g : Gh) (w : World) (act : Act) (N : Nat) (next : Act → World → Prop) (Q : Exit → Act → World → Prop),
    SW B0 w0 g w (hf hp) → (∀ x ∈ o.op.operands, VR g w (hf hp) (E x) (act.eval x)) →
    (∀ a hp' v w' g', k a hp' → EB g w (hf hp) g' w' (hf hp') → SW B0 w0 g' w' (hf hp') → VR g' w' (hf hp') a v → next (act.put o.dst v) w') →
    o.wpIn (FW r) N P act w next Q
theorem OS.mono {E : Operand → A} {k k' : A → List Blk → Prop} (h : OS P B0 w0 hp o E k) (hk : ∀ a hp', k a hp' → k' a hp') : OS P B0 w0 hp o E k' :=
  fun r g w act N next Q hs hop hn => h r g w act N next Q hs hop fun a hp' v w' g' hkk => hn a hp' v w' g' (hk _ _ hkk)
theorem QS.toOS {a : A} {news : List Blk} {k : A → List Blk → Prop} (hk : k a (hp ++ news)) (h : QS P B0 w0 (hf hp) hp.length o (ev ts) a news) : OS P B0 w0 hp o (ev ts) k :=
  fun r g w act N next Q hs hop hn => h r g w (hf hp) act N next Q hs (fun _ _ _ => rfl) (fun b hb _ => hf_none hp b hb) hop
    fun v w' g' e s hv => by rw [addH_hf] at e s hv; exact hn a _ v w' g' hk e s hv
/-- An operation that runs through, in whatever way. -/
theorem OS.run {k : A → List Blk → Prop} (hd : ∀ d, o.op ≠ .defer d)
    (hrun : ∀ (g : Gh) (w : World) (act : Act), SW B0 w0 g w (hf hp) → (∀ x ∈ o.op.operands, VR g w (hf hp) (ev ts x) (act.eval x)) →
      ∃ v w' a hp' g', (execOp act.eval o).run P w = .ok (.value v) w' ∧ k a hp' ∧ EB g w (hf hp) g' w' (hf hp') ∧ SW B0 w0 g' w' (hf hp') ∧ VR g' w' (hf hp') a v) : OS P B0 w0 hp o (ev ts) k := by
  intro r g w act N next Q hs hop hnext
  obtain ⟨v, w', a, hp', g', hr, hk, e, s, hv⟩ := hrun g w act hs hop
  refine ⟨fun f _ => trivial, ?_⟩
  rw [Oper.semAt_eq _ _ _ hd, hr]
  exact hnext a hp' v w' g' hk e s hv

/-- One that yields nothing. -/
theorem OS.skip {k : A → List Blk → Prop} (hd : ∀ d, o.op ≠ .defer d)
    (hrun : ∀ (g : Gh) (w : World) (act : Act), SW B0 w0 g w (hf hp) → (∀ x ∈ o.op.operands, VR g w (hf hp) (ev ts x) (act.eval x)) →
      ∃ w' hp' g', (execOp act.eval o).run P w = .ok .skip w' ∧ k .un hp' ∧ EB g w (hf hp) g' w' (hf hp') ∧ SW B0 w0 g' w' (hf hp')) : OS P B0 w0 hp o (ev ts) k := by
  intro r g w act N next Q hs hop hnext
  obtain ⟨w', hp', g', hr, hk, e, s⟩ := hrun g w act hs hop
  refine ⟨fun f _ => trivial, ?_⟩
  rw [Oper.semAt_eq _ _ _ hd, hr]
  exact hnext .un hp' undef w' g' hk e s (.un _)
theorem wr_getD (l : List Value) (news : List Value) (n m j : Nat) (hm : news.length = m) (h : n + m ≤ l.length) :
    (l.take n ++ news ++ l.drop (n + m)).toArray.getD j undef = if n ≤ j ∧ j < n + m then news.getD (j - n) undef else l.toArray.getD j undef := by
  subst hm
  have e : ∀ (m : List Value), m.toArray.getD j undef = m.getD j undef := fun m => by
    by_cases hj : j < m.length <;> simp [Array.getD, List.getD_eq_getElem?_getD, hj]
  rw [e, e]
  have ht : (l.take n).length = n := by simp; omega
  simp only [List.getD_eq_getElem?_getD, List.append_assoc]
  by_cases h1 : j < n
  · rw [if_neg (by omega), List.getElem?_append_left (by omega), List.getElem?_take_of_lt h1]
  · rw [List.getElem?_append_right (by omega), ht]
    by_cases h2 : j < n + news.length
    · rw [if_pos (by omega), List.getElem?_append_left (by omega)]
    · rw [if_neg (by omega), List.getElem?_append_right (by omega), List.getElem?_drop]
      congr 2; omega
theorem wr_size (l : List Value) (news : List Value) (n m : Nat) (hm : news.length = m) (h : n + m ≤ l.length) : (l.take n ++ news ++ l.drop (n + m)).toArray.size = l.length := by
  simp; omega
theorem toList_getD (x : Array Value) (j : Nat) : x.toList.getD j undef = x.getD j undef := by
  by_cases h : j < x.size <;> simp [List.getD_eq_getElem?_getD, Array.getD, h]
theorem toList_toArray_getD (x : Array Value) (j : Nat) : x.toList.toArray.getD j undef = x.getD j undef := by simp
theorem grownBy_setRow {w : World} {g : Nat} (cur : Array Value) (hg : g < w.heap.size) : w.grownBy (w.setRow g cur) (some g) :=
  ⟨rfl, rfl, rfl, by simp [World.setRow], fun k _ hk => setRow_other w g k _ (fun e => hk (by rw [e]))⟩

theorem VR.all_one {g : Gh} {w : World} {h : Hp} {xs : List A} {vs : Array Value} (hl : xs.length = vs.size) (hv : ∀ i, i < xs.length → VR g w h (xs.getD i .un) (vs.getD i undef)) (ho : ∀ x ∈ xs, oneA x = true) : ∀ v ∈ vs.toList, v.oneCell' = true := by
  intro v hvm
  obtain ⟨i, hi, rfl⟩ := List.getElem_of_mem hvm
  have hi2 : i < vs.size := by simpa using hi
  have := hv i (by omega)
  have h1 := VR.one this (ho _ (getD_mem _ _ _ (by omega)))
  simpa [Array.getD, hi2] using h1
theorem one_of_plain {a : A} (h : plainA a = true) : oneA a = true := by cases a <;> simp_all [plainA, oneA]

/-! ### Stores -/
theorem os_store_bx {t : TypeId} {x y : Operand} {d : TypeDesc} {i : TypeInfo} {b ver es fo : Nat} {cells : List A} {k : A → List Blk → Prop} (ho : o.op = .store t x y) (hi : P.info? t = some i)
    (hx : ev ts x = .pt b ver es 0 fo) (hb : hp.getD b .hole = .bx false cells) (hcl : (cellsOf (ev ts y)).length = i.size) (h1 : ∀ c ∈ cellsOf (ev ts y), oneA c = true) (hun : boxable (ev ts y) = true ∨ True) (hfit : fo + i.size ≤ cells.length)
    (hk : k .un (hp.set b (.bx false (ovl cells fo (cellsOf (ev ts y)))))) : OS P B0 w0 hp o (ev ts) k :=
  OS.skip (by simp [ho]) fun g w act hs hop => by
    have h4 := hop x (by simp [ho, Op.operands])
    have h3 := hop y (by simp [ho, Op.operands])
    rw [hx] at h4
    have hh : hf hp b = .bx false cells := hb
    obtain ⟨_, hlive, hvr, hes, hxx⟩ := h4.pt_inv
    rw [hh] at hvr hes hxx
    have hv0 : ver = 0 := by simpa [Blk.ver] using hvr
    have hx1 := hxx hv0
    simp only [Nat.zero_mul, Nat.zero_add] at hx1
    have hun2 : ev ts y ≠ .un := fun e => by rw [e] at h1; have := h1 .un (by simp [cellsOf]); simp [oneA] at this
    have htu : ∀ xs, ev ts y ≠ .tup xs := fun xs e => by rw [e] at h1; have := h1 (.tup xs) (by simp [cellsOf]); simp [oneA] at this
    obtain ⟨c1, c2⟩ := h3.cells hun2 htu
    have hr := hs.sh.blk b
    rw [hh] at hr
    obtain ⟨arr, E, r1, r2, r3⟩ := hr
    have hone := VR.all_one c1 c2 h1
    have hrun := run_storeVar (P := P) hi w (g.m b) fo (act.eval y) arr E r1 (by omega) (by omega) hone
    have hw := grownBy_setRow (w := w) (arr.toList.take fo ++ (act.eval y).cells.toList ++ arr.toList.drop (fo + i.size)).toArray (Array.getElem?_eq_some_iff.1 r1).1
    have hsz : (act.eval y).cells.toList.length = i.size := by simp; omega
    obtain ⟨e, s⟩ := hs.write (k' := .bx false (ovl cells fo (cellsOf (ev ts y)))) hh Blk.noConfusion rfl rfl Blk.noConfusion rfl rfl hw (fun h' e => by
      refine ⟨_, E, setRow_heap w (g.m b) arr _ E _ r1, ?_, fun j hj => ?_⟩
      · rw [wr_size _ _ _ _ hsz (by simp; omega), ovl_length]; simpa using r2
      · rw [ovl_length] at hj
        rw [wr_getD _ _ _ _ _ hsz (by simp; omega), ovl_get _ _ _ (by omega)]
        by_cases hj2 : fo ≤ j ∧ j < fo + (cellsOf (ev ts y)).length
        · rw [if_pos hj2, if_pos (by omega), toList_getD]
          exact (c2 (j - fo) (by omega)).mono e
        · rw [if_neg hj2, if_neg (by omega), toList_toArray_getD]
          exact (r3 j hj).mono e)
    rw [setH_hf hp b _ (lt_of_getD (by rw [hb]; exact Blk.noConfusion))] at e s
    exact ⟨_, _, g, by simp [execOp, ho, hx1, Instr.storeAt, Instr.sureAddr, hrun], hk, e, s⟩

theorem os_store_rw {t : TypeId} {x y : Operand} {d : TypeDesc} {i : TypeInfo} {b ver es ii fo : Nat} {els : List (List A)} {cells : List A} {k : A → List Blk → Prop} (ho : o.op = .store t x y) (hi : P.info? t = some i)
    (hx : ev ts x = .pt b ver es ii fo) (hb : hp.getD b .hole = .rw false false ver es els) (hcl : (cellsOf (ev ts y)).length = i.size) (hel : els[ii]? = some cells) (hfit : fo + i.size ≤ cells.length)
    (hk : convL hp (cellsOf (ev ts y)) fun cs => setMany cells fo cs fun cells => freezeK hp (blocksL (cellsOf (ev ts y))) fun hp => match hp.getD b .hole with
                | .rw false _ _ _ _ => setK hp b (.rw false false ver es (els.set ii cells)) fun hp => k .un hp
                | _ => False) : OS P B0 w0 hp o (ev ts) k := by
  obtain ⟨cs, hk2, q2, q3, q4⟩ := convL_sound (B0 := B0) (w0 := w0) hk
  rw [setMany_eq] at hk2
  obtain ⟨hp1, hk3, hlen1, hfz1, hf1⟩ := freezeK_sound (B0 := B0) (w0 := w0) hk2
  have hne : hp.getD b .hole ≠ .hole := by rw [hb]; exact Blk.noConfusion
  have hb1 : hp1.getD b .hole = .rw false false ver es els := by
    rcases hfz1 b with he | he
    · rw [he, hb]
    · exfalso
      cases hb1 : hp1.getD b .hole <;> rw [hb1] at hk3 he <;> try exact hk3.elim
      rename_i fz _ _ _ _
      cases fz
      · cases he
      · exact hk3.elim
  rw [hb1] at hk3
  dsimp only at hk3
  rw [setK_eq] at hk3
  refine OS.skip (by simp [ho]) fun g w act hs hop => ?_
  have h4 := hop x (by simp [ho, Op.operands])
  have h3 := hop y (by simp [ho, Op.operands])
  rw [hx] at h4
  have hh : hf hp b = .rw false false ver es els := hb
  obtain ⟨_, hlive, hvr, hes, hxx⟩ := h4.pt_inv
  rw [hh] at hxx
  have hx1 := hxx rfl
  have hun2 : ev ts y ≠ .un := fun e => by
    rw [e] at hk; exact hk.elim
  have htu : ∀ xs, ev ts y ≠ .tup xs := fun xs e => by rw [e] at hk; exact hk.elim
  obtain ⟨c1, c2⟩ := h3.cells hun2 htu
  obtain ⟨g1, e1, s1, m1, i1, j1⟩ := hf1 g w hs
  have hh1 : hf hp1 b = .rw false false ver es els := hb1
  have c3 := q4 g w (hf hp) (fun i => (act.eval y).cells.getD i undef) hs (fun _ _ _ => rfl) c2 g1 (hf hp1) (fun x hx => (e1.imm x hx).1) (fun b hb _ => i1 b hb)
  obtain ⟨arr, E, r1, r2, r3, r4, r5, r6, r7⟩ := rw_facts s1 hh1
  obtain ⟨hi1, hi2⟩ := List.getElem?_eq_some_iff.1 hel
  have hmem : cells ∈ els := by rw [← hi2]; exact List.getElem_mem _
  have hce : cells.length = es := (r6 cells hmem).1
  have hone := VR.all_one (xs := cs) (vs := (act.eval y).cells) (by omega) c3 (fun x hx => one_of_plain (q3 x hx))
  have hoff : ii * es + es ≤ arr.size := by
    rw [r3]
    calc ii * es + es = (ii + 1) * es := by rw [Nat.add_mul, Nat.one_mul]
      _ ≤ _ := Nat.mul_le_mul_right _ (by omega)
  have hsz : (act.eval y).cells.toList.length = i.size := by simp; omega
  have hrun := run_storeVar (P := P) hi w (g1.m b) (ii * es + fo) (act.eval y) arr E r1 (by omega) (by omega) hone
  have hw := grownBy_setRow (w := w) (arr.toList.take (ii * es + fo) ++ (act.eval y).cells.toList ++ arr.toList.drop (ii * es + fo + i.size)).toArray (Array.getElem?_eq_some_iff.1 r1).1
  obtain ⟨e, s⟩ := s1.write (k' := .rw false false ver es (els.set ii (ovl cells fo cs))) hh1 Blk.noConfusion rfl rfl Blk.noConfusion rfl rfl hw (fun h' e => by
    refine ⟨_, E, setRow_heap w (g1.m b) arr _ E _ r1, r2, ?_, by simpa using r4, r5, ?_, ?_⟩
    · rw [wr_size _ _ _ _ hsz (by simp; omega)]; simpa using r3
    · intro c hc
      rcases List.mem_or_eq_of_mem_set hc with hc | rfl
      · exact r6 c hc
      · refine ⟨by rw [ovl_length]; exact hce, fun _ x hx => ?_⟩
        obtain ⟨j, hj, rfl⟩ := List.getElem_of_mem hx
        rw [ovl_length] at hj
        have := ovl_get cells fo cs (by omega) j
        rw [List.getD_eq_getElem?_getD, List.getElem?_eq_getElem (by rw [ovl_length]; exact hj)] at this
        simp only [Option.getD_some] at this
        rw [this]
        by_cases hj2 : fo ≤ j ∧ j < fo + cs.length
        · rw [if_pos hj2]; exact q3 _ (getD_mem _ _ _ (by omega))
        · rw [if_neg hj2]; exact (r6 cells hmem).2 rfl _ (getD_mem _ _ _ hj)
    · intro i' j hi' hj
      simp only [List.length_set] at hi'
      rw [wr_getD _ _ _ _ _ hsz (by simp; omega)]
      by_cases hii : i' = ii
      · subst hii
        have e2 : (els.set i' (ovl cells fo cs)).getD i' [] = ovl cells fo cs := by simp [List.getD_eq_getElem?_getD, hi1]
        rw [e2, ovl_get _ _ _ (by omega)]
        by_cases hj2 : fo ≤ j ∧ j < fo + cs.length
        · rw [if_pos hj2, if_pos (by omega), toList_getD, show i' * es + j - (i' * es + fo) = j - fo by omega]
          exact (c3 (j - fo) (by omega)).mono e
        · rw [if_neg hj2, if_neg (by omega), toList_toArray_getD]
          have := r7 i' j hi1 hj
          have e3 : els.getD i' [] = cells := by rw [List.getD_eq_getElem?_getD, hel]; rfl
          rw [e3] at this
          exact this.mono e
      · have e2 : (els.set ii (ovl cells fo cs)).getD i' [] = els.getD i' [] := by simp [List.getD_eq_getElem?_getD, List.getElem?_set_ne (fun e => hii e.symm)]
        have hd : ¬ (ii * es + fo ≤ i' * es + j ∧ i' * es + j < ii * es + fo + i.size) := by
          rintro ⟨d1, d2⟩
          rcases Nat.lt_or_gt_of_ne hii with hlt | hgt
          · have : (i' + 1) * es ≤ ii * es := Nat.mul_le_mul_right _ (by omega)
            rw [Nat.add_mul, Nat.one_mul] at this; omega
          · have : (ii + 1) * es ≤ i' * es := Nat.mul_le_mul_right _ (by omega)
            rw [Nat.add_mul, Nat.one_mul] at this; omega
        rw [e2, if_neg hd, toList_toArray_getD]
        exact (r7 i' j hi' hj).mono e)
  rw [setH_hf hp1 b _ (lt_of_getD (by rw [hb1]; exact Blk.noConfusion))] at e s
  exact ⟨_, _, g1, by rw [m1] at hrun ⊢; simp [execOp, ho, hx1, Instr.storeAt, Instr.sureAddr, hrun], hk3, e1.trans e, s⟩

/-- A store into a row that keeps references. -/
theorem os_store_nx {t : TypeId} {x y : Operand} {d : TypeDesc} {i : TypeInfo} {b ver es ii fo : Nat} {els : List (List A)} {cells : List A} {k : A → List Blk → Prop} (ho : o.op = .store t x y) (hi : P.info? t = some i)
    (hx : ev ts x = .pt b ver es ii fo) (hb : hp.getD b .hole = .rw false true ver es els) (hcl : (cellsOf (ev ts y)).length = i.size) (h1 : ∀ c ∈ cellsOf (ev ts y), oneA c = true) (hel : els[ii]? = some cells) (hfit : fo + i.size ≤ cells.length)
    (hk : k .un (hp.set b (.rw false true ver es (els.set ii (ovl cells fo (cellsOf (ev ts y))))))) : OS P B0 w0 hp o (ev ts) k := by
  refine OS.skip (by simp [ho]) fun g w act hs hop => ?_
  have h4 := hop x (by simp [ho, Op.operands])
  have h3 := hop y (by simp [ho, Op.operands])
  rw [hx] at h4
  have hh : hf hp b = .rw false true ver es els := hb
  obtain ⟨_, hlive, hvr, hes, hxx⟩ := h4.pt_inv
  rw [hh] at hxx
  have hx1 := hxx rfl
  have hun2 : ev ts y ≠ .un := fun e => by rw [e] at h1; have := h1 .un (by simp [cellsOf]); simp [oneA] at this
  have htu : ∀ xs, ev ts y ≠ .tup xs := fun xs e => by rw [e] at h1; have := h1 (.tup xs) (by simp [cellsOf]); simp [oneA] at this
  obtain ⟨c1, c2⟩ := h3.cells hun2 htu
  obtain ⟨arr, E, r1, r2, r3, r4, r5, r6, r7⟩ := rw_facts hs hh
  obtain ⟨hi1, hi2⟩ := List.getElem?_eq_some_iff.1 hel
  have hmem : cells ∈ els := by rw [← hi2]; exact List.getElem_mem _
  have hce : cells.length = es := (r6 cells hmem).1
  have hone := VR.all_one c1 c2 h1
  have hoff : ii * es + es ≤ arr.size := by
    rw [r3]
    calc ii * es + es = (ii + 1) * es := by rw [Nat.add_mul, Nat.one_mul]
      _ ≤ _ := Nat.mul_le_mul_right _ (by omega)
  have hsz : (act.eval y).cells.toList.length = i.size := by simp; omega
  have hrun := run_storeVar (P := P) hi w (g.m b) (ii * es + fo) (act.eval y) arr E r1 (by omega) (by omega) hone
  have hw := grownBy_setRow (w := w) (arr.toList.take (ii * es + fo) ++ (act.eval y).cells.toList ++ arr.toList.drop (ii * es + fo + i.size)).toArray (Array.getElem?_eq_some_iff.1 r1).1
  obtain ⟨e, s⟩ := hs.write (k' := .rw false true ver es (els.set ii (ovl cells fo (cellsOf (ev ts y))))) hh Blk.noConfusion rfl rfl Blk.noConfusion rfl rfl hw (fun h' e => by
    refine ⟨_, E, setRow_heap w (g.m b) arr _ E _ r1, r2, ?_, by simpa using r4, r5, ?_, ?_⟩
    · rw [wr_size _ _ _ _ hsz (by simp; omega)]; simpa using r3
    · intro c hc
      rcases List.mem_or_eq_of_mem_set hc with hc | rfl
      · exact r6 c hc
      · exact ⟨by rw [ovl_length]; exact hce, fun h => by cases h⟩
    · intro i' j hi' hj
      simp only [List.length_set] at hi'
      rw [wr_getD _ _ _ _ _ hsz (by simp; omega)]
      by_cases hii : i' = ii
      · subst hii
        have e2 : (els.set i' (ovl cells fo (cellsOf (ev ts y)))).getD i' [] = ovl cells fo (cellsOf (ev ts y)) := by simp [List.getD_eq_getElem?_getD, hi1]
        rw [e2, ovl_get _ _ _ (by omega)]
        by_cases hj2 : fo ≤ j ∧ j < fo + (cellsOf (ev ts y)).length
        · rw [if_pos hj2, if_pos (by omega), toList_getD, show i' * es + j - (i' * es + fo) = j - fo by omega]
          exact (c2 (j - fo) (by omega)).mono e
        · rw [if_neg hj2, if_neg (by omega), toList_toArray_getD]
          have := r7 i' j hi1 hj
          have e3 : els.getD i' [] = cells := by rw [List.getD_eq_getElem?_getD, hel]; rfl
          rw [e3] at this
          exact this.mono e
      · have e2 : (els.set ii (ovl cells fo (cellsOf (ev ts y)))).getD i' [] = els.getD i' [] := by simp [List.getD_eq_getElem?_getD, List.getElem?_set_ne (fun e => hii e.symm)]
        have hd : ¬ (ii * es + fo ≤ i' * es + j ∧ i' * es + j < ii * es + fo + i.size) := by
          rintro ⟨d1, d2⟩
          rcases Nat.lt_or_gt_of_ne hii with hlt | hgt
          · have : (i' + 1) * es ≤ ii * es := Nat.mul_le_mul_right _ (by omega)
            rw [Nat.add_mul, Nat.one_mul] at this; omega
          · have : (ii + 1) * es ≤ i' * es := Nat.mul_le_mul_right _ (by omega)
            rw [Nat.add_mul, Nat.one_mul] at this; omega
        rw [e2, if_neg hd, toList_toArray_getD]
        exact (r7 i' j hi' hj).mono e)
  rw [setH_hf hp b _ (lt_of_getD (by rw [hb]; exact Blk.noConfusion))] at e s
  exact ⟨_, _, g, by simp [execOp, ho, hx1, Instr.storeAt, Instr.sureAddr, hrun], hk, e, s⟩

end Go.YtoeophdffhmpmaaE
