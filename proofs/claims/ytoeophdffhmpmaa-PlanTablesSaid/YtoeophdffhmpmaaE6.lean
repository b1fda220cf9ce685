/- The engine: the quiet operations, one by one. -/
import Derived.Test.YtoeophdffhmpmaaE5
set_option linter.unusedVariables false
set_option linter.unusedSimpArgs false
namespace Go.YtoeophdffhmpmaaE
open Go Go.RowKit

variable {P : Program} {B0 : Nat} {w0 : Wz} {c : Hp} {p : Nat} {o : Oper} {ts : List A} {hp : List Blk}

theorem qs_move {x : Operand} (ho : o.op = .move x ∨ o.op = .assign x) : QS P B0 w0 c p o (ev ts) (ev ts x) [] :=
  QS.value (by rcases ho with h | h <;> simp [h]) fun g w h act hs hc hop => by
    refine ⟨act.eval x, ?_, hop x (by rcases ho with h | h <;> simp [h, Op.operands])⟩
    rcases ho with h | h <;> simp [execOp, h]
theorem qs_pick {cd a b : Operand} {t : Bool} (ho : o.op = .pick cd a b) (hc0 : ev ts cd = .v (.bool t)) : QS P B0 w0 c p o (ev ts) (if t then ev ts a else ev ts b) [] :=
  QS.value (by simp [ho]) fun g w h act hs hc hop => by
    have h1 := hop cd (by simp [ho, Op.operands])
    rw [hc0] at h1
    have h1 := h1.bool_inv
    cases t with
    | true => exact ⟨act.eval a, by simp [execOp, ho, h1, asBool], hop a (by simp [ho, Op.operands])⟩
    | false => exact ⟨act.eval b, by simp [execOp, ho, h1, asBool], hop b (by simp [ho, Op.operands])⟩
theorem qs_not {x : Operand} {t : TypeId} {b : Bool} (ho : o.op = .unOp .not t x) (hc0 : ev ts x = .v (.bool b)) : QS P B0 w0 c p o (ev ts) (.v (.bool (!b))) [] :=
  QS.value (by simp [ho]) fun g w h act hs hc hop => by
    have h1 := hop x (by simp [ho, Op.operands])
    rw [hc0] at h1
    exact ⟨_, by simp [execOp, ho, h1.bool_inv, Op.unary], .v _ rfl⟩
theorem qs_neg {x : Operand} {t : TypeId} {k : IntKind} {n : Int} (ho : o.op = .unOp .neg t x) (hc0 : ev ts x = .v (.int k n)) : QS P B0 w0 c p o (ev ts) (.v (.int k (k.wrap (0 - n)))) [] :=
  QS.value (by simp [ho]) fun g w h act hs hc hop => by
    have h1 := hop x (by simp [ho, Op.operands])
    rw [hc0] at h1
    exact ⟨_, by simp [execOp, ho, h1.int_inv, Op.unary, Op.intArith], .v _ rfl⟩
theorem qs_conv {src dst : TypeId} {x : Operand} {k1 k k2 : IntKind} {n : Int} (ho : o.op = .convert src dst x) (hc0 : ev ts x = .v (.int k n)) (h1 : P.underlying src = some (.int k1)) (h2 : P.underlying dst = some (.int k2)) :
    QS P B0 w0 c p o (ev ts) (.v (.int k2 (k2.wrap n))) [] :=
  QS.value (by simp [ho]) fun g w h act hs hc hop => by
    have h3 := hop x (by simp [ho, Op.operands])
    rw [hc0] at h3
    exact ⟨_, by simp [execOp, ho, h3.int_inv, convert, run_underlying h1, run_underlying h2, Conv.intToInt], .v _ rfl⟩
theorem qs_extract {x : Operand} {i : Nat} {xs : List A} {a : A} (ho : o.op = .extract x i) (hx : ev ts x = .tup xs) (ha : xs[i]? = some a) : QS P B0 w0 c p o (ev ts) a [] :=
  QS.value (by simp [ho]) fun g w h act hs hc hop => by
    have h1 := hop x (by simp [ho, Op.operands])
    rw [hx] at h1
    obtain ⟨vs, he, hl, hv⟩ : ∃ vs, act.eval x = .tuple vs ∧ xs.length = vs.size ∧ ∀ i, i < xs.length → VR g w h (xs.getD i .un) (vs.getD i undef) := by
      generalize act.eval x = y at h1
      cases h1 with
      | tup _ vs hl hv => exact ⟨vs, rfl, hl, hv⟩
    have hi : i < xs.length := (List.getElem?_eq_some_iff.1 ha).1
    have h2 : i < vs.size := by omega
    refine ⟨vs[i], by simp [execOp, ho, he, Instr.extract, h2], ?_⟩
    have := hv i hi
    rw [List.getD_eq_getElem?_getD, ha] at this
    simpa [Array.getD, h2] using this
theorem VR.pt_inv {g : Gh} {w : World} {h : Hp} {b ver es i fo : Nat} {x : Value} (r : VR g w h (.pt b ver es i fo) x) :
    x.oneCell' = true ∧ Live h b ∧ ver ≤ (h b).ver ∧ es = (h b).es ∧ (ver = (h b).ver → x = .pointer (some ⟨g.m b, i * es + fo, none⟩)) := by
  cases r; exact ⟨by assumption, by assumption, by assumption, by assumption, by assumption⟩
theorem VR.sl_inv {g : Gh} {w : World} {h : Hp} {b ver es i len : Nat} {x : Value} (r : VR g w h (.sl b ver es i len) x) :
    x.oneCell' = true ∧ Live h b ∧ ver ≤ (h b).ver ∧ es = (h b).es ∧ (ver = (h b).ver → ∃ a cap, x = .slice a len cap ∧ len ≤ cap ∧ i + cap ≤ g.cp b ∧ (0 < cap → a = some ⟨g.m b, i * es, none⟩)) := by
  cases r; exact ⟨by assumption, by assumption, by assumption, by assumption, by assumption⟩
theorem VR.rp_inv {g : Gh} {w : World} {h : Hp} {cells : List A} {x : Value} (r : VR g w h (.rp cells) x) :
    ∃ (blk off : Nat) (vals : Nat → Value), x = .pointer (some ⟨blk, off, none⟩) ∧ g.I blk ∧ (∀ j, j < cells.length → w.cell? ⟨blk, off + j, none⟩ = some (vals j)) ∧ (∀ j, j < cells.length → VR g w h (cells.getD j .un) (vals j)) ∧ ∀ x ∈ cells, plainA x = true := by
  cases r with
  | rp _ blk off vals hI hc hv hn => exact ⟨blk, off, vals, rfl, hI, hc, hv, hn⟩
theorem VR.ro_inv {g : Gh} {w : World} {h : Hp} {els : List (List A)} {x : Value} (r : VR g w h (.ro els) x) :
    ∃ (a : Option Addr) (cap es blk off : Nat) (vals : Nat → Nat → Value), x = .slice a els.length cap ∧ (els ≠ [] → a = some ⟨blk, off, none⟩ ∧ g.I blk) ∧ (∀ c ∈ els, c.length = es) ∧
      (∀ i j, i < els.length → j < es → w.cell? ⟨blk, off + i * es + j, none⟩ = some (vals i j)) ∧ (∀ i j, i < els.length → j < es → VR g w h ((els.getD i []).getD j .un) (vals i j)) ∧
      (∀ c ∈ els, ∀ x ∈ c, plainA x = true) ∧ els.length ≤ cap ∧ els.length ≤ maxLen := by
  cases r with
  | ro _ a cap es blk off vals h0 hes hc hv hn hcap => exact ⟨a, cap, es, blk, off, vals, rfl, h0, hes, hc, hv, hn, hcap⟩
theorem qs_nil_rp {x : Operand} {cells : List A} (ho : o.op = .nilCheck x) (hx : ev ts x = .rp cells) : QS P B0 w0 c p o (ev ts) (.rp cells) [] :=
  QS.value (by simp [ho]) fun g w h act hs hc hop => by
    have h1 := hop x (by simp [ho, Op.operands])
    rw [hx] at h1
    obtain ⟨blk, off, vals, he, _⟩ := h1.rp_inv
    rw [he] at h1
    exact ⟨_, by simp [execOp, ho, he], h1⟩
/-- A pointer that is current. -/
theorem pt_now {g : Gh} {w : World} {h : Hp} {b ver es i fo : Nat} {x : Value} (r : VR g w h (.pt b ver es i fo) x) {k : Blk} (hc : ∀ b, Live h b → Live (hf hp) b → h b = hf hp b) (hk : hp.getD b .hole = k) (hv : ver = k.ver) (hne : k ≠ .hole) :
    h b = k ∧ es = k.es ∧ x = .pointer (some ⟨g.m b, i * es + fo, none⟩) := by
  obtain ⟨h1, hb, h2, h3, h4⟩ := r.pt_inv
  have hh : h b = k := by rw [hc b hb (by unfold Live hf; rw [hk]; exact hne)]; exact hk
  exact ⟨hh, by rw [h3, hh], h4 (by rw [hh]; exact hv)⟩
theorem bx_ver {g : Gh} {w : World} {h : Hp} {b ver es i fo : Nat} {x : Value} (r : VR g w h (.pt b ver es i fo) x) {fz : Bool} {cells : List A} (hc : ∀ b, Live h b → Live (hf hp) b → h b = hf hp b) (hk : hp.getD b .hole = .bx fz cells) :
    h b = .bx fz cells ∧ ver = 0 ∧ es = 0 := by
  obtain ⟨h1, hb, h2, h3, h4⟩ := r.pt_inv
  have hh : h b = .bx fz cells := by rw [hc b hb (by unfold Live hf; rw [hk]; exact Blk.noConfusion)]; exact hk
  rw [hh] at h2 h3
  exact ⟨hh, Nat.le_zero.1 h2, h3⟩
theorem qs_load {t : TypeId} {x : Operand} {k : A → List Blk → Prop} {d : TypeDesc} {inf : TypeInfo} (ho : o.op = .load t x) (hu : P.underlying t = some d) (hi : P.info? t = some inf) :
    (match ev ts x with
    | .rp cells => loadB (isAggD d) inf.size cells 0 fun a => k a []
    | .pt b ver es i fo => match hp.getD b .hole with
      | .bx _ cells => match i with
        | 0 => loadB (isAggD d) inf.size cells fo fun a => k a []
        | _ + 1 => False
      | .rw _ _ ver' es' els => chk (ver == ver' && es == es') (optK els[i]? fun cells => loadB (isAggD d) inf.size cells fo fun a => k a [])
      | .hole => False
    | _ => False) → ∃ a, k a [] ∧ QS P B0 w0 (hf hp) p o (ev ts) a [] := by
  intro hk
  have fin : ∀ (g : Gh) (w : World) (h : Hp) (act : Act) (a : A) (ad : Addr), act.eval x = .pointer (some ad) → (∃ v, (loadVar t ad).run P w = .ok v w ∧ VR g w h a v) →
      ∃ v, (execOp act.eval o).run P w = .ok (.value v) w ∧ VR g w h a v := by
    rintro g w h act a ad he ⟨v, h1, h2⟩
    exact ⟨v, by simp [execOp, ho, Instr.loadAt, he, Instr.sureAddr, h1], h2⟩
  cases hx : ev ts x <;> rw [hx] at hk <;> try exact hk.elim
  · rename_i b ver es i fo
    dsimp only at hk
    cases hb : hp.getD b .hole <;> rw [hb] at hk <;> try exact hk.elim
    · rename_i fz cells
      cases i with
      | succ i => exact hk.elim
      | zero =>
        obtain ⟨a, ha, hl⟩ := loadB_sound hu hi hk
        refine ⟨a, ha, QS.value (by simp [ho]) fun g w h act hs hc hop => ?_⟩
        have h1 := hop x (by simp [ho, Op.operands])
        rw [hx] at h1
        obtain ⟨hh, rfl, rfl⟩ := bx_ver h1 hc hb
        obtain ⟨_, _, he⟩ := pt_now h1 hc hb rfl Blk.noConfusion
        refine fin g w h act a _ he ?_
        have hr := hs.sh.blk b
        rw [hh] at hr
        obtain ⟨arr, E, h3, h4, h5⟩ := hr
        have := hl g w h (g.m b) 0 (fun j => arr.getD j undef) (fun j hj => ?_) h5
        · simpa using this
        · simp [World.cell?, h3, Array.getD, show j < arr.size from by omega]
    · rename_i fz ver' es' els
      obtain ⟨hv, hk2⟩ := chk_elim hk
      simp only [Bool.and_eq_true, beq_iff_eq] at hv
      obtain ⟨rfl, rfl⟩ := hv
      obtain ⟨cells, hcell, hk3⟩ := optK_elim hk2
      obtain ⟨a, ha, hl⟩ := loadB_sound hu hi hk3
      refine ⟨a, ha, QS.value (by simp [ho]) fun g w h act hs hc hop => ?_⟩
      have h1 := hop x (by simp [ho, Op.operands])
      rw [hx] at h1
      obtain ⟨hh, _, he⟩ := pt_now h1 hc hb rfl Blk.noConfusion
      refine fin g w h act a _ he ?_
      have hr := hs.sh.blk b
      rw [hh] at hr
      obtain ⟨arr, E, h3, h4, h5, h6, h7, h8, h9⟩ := hr
      obtain ⟨hi1, hi2⟩ := List.getElem?_eq_some_iff.1 hcell
      have hlen : cells.length = es := (h8 cells (by rw [← hi2]; exact List.getElem_mem _)).1
      have hge : els.getD i [] = cells := by rw [List.getD_eq_getElem?_getD, hcell]; rfl
      have hsz : ∀ j, j < es → i * es + j < arr.size := fun j hj => by
        rw [h5]
        calc i * es + j < i * es + es := by omega
          _ = (i + 1) * es := by rw [Nat.add_mul, Nat.one_mul]
          _ ≤ _ := Nat.mul_le_mul_right _ (by omega)
      have := hl g w h (g.m b) (i * es) (fun j => arr.getD (i * es + j) undef) (fun j hj => ?_) (fun j hj => by have := h9 i j hi1 (by omega); rwa [hge] at this)
      · exact this
      · simp [World.cell?, h3, Array.getD, hsz j (by omega)]
  · rename_i cells
    obtain ⟨a, ha, hl⟩ := loadB_sound hu hi hk
    refine ⟨a, ha, QS.value (by simp [ho]) fun g w h act hs hc hop => ?_⟩
    have h1 := hop x (by simp [ho, Op.operands])
    rw [hx] at h1
    obtain ⟨blk, off, vals, he, hI, h2, h3, h4⟩ := h1.rp_inv
    exact fin g w h act a _ he (hl g w h blk off vals h2 h3)

end Go.YtoeophdffhmpmaaE
