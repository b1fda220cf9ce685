/- The engine: slices, makes, and what callees see. -/
import Derived.Test.YtoeophdffhmpmaaE7
set_option linter.unusedVariables false
set_option linter.unusedSimpArgs false
namespace Go.YtoeophdffhmpmaaE
open Go Go.RowKit

variable {P : Program} {B0 : Nat} {w0 : Wz} {c : Hp} {p : Nat} {o : Oper} {ts : List A} {hp : List Blk}

theorem boundK_elim {x : Option Operand} {dflt : Int} {k : Int → Prop} (hk : boundK ts x dflt k) : (x = none ∧ k dflt) ∨ ∃ y k1 n, x = some y ∧ ev ts y = .v (.int k1 n) ∧ k n := by
  cases x with
  | none => exact .inl ⟨rfl, hk⟩
  | some y =>
    right
    simp only [boundK] at hk
    cases hy : ev ts y <;> rw [hy] at hk <;> try exact hk.elim
    rename_i v
    cases v <;> try exact hk.elim
    rename_i k1 n
    exact ⟨y, k1, n, rfl, hy, hk⟩
/-- A bound as the machine has it. -/
def bv (ρ : Operand → Value) : Option Operand → Option Value := Option.map ρ
theorem run_slice_gen {t e : TypeId} {inf : TypeInfo} (hu : P.underlying t = some (.slice e)) (hi : P.info? e = some inf) (w : World) (a : Option Addr) (len cap : Nat) (lo hi' mx : Option Value) (l h m : Int)
    (hl : lo = none ∧ l = 0 ∨ ∃ k, lo = some (.int k l)) (hh : hi' = none ∧ h = len ∧ mx = none ∨ ∃ k, hi' = some (.int k h)) (hm : mx = none ∧ m = cap ∨ ∃ k, mx = some (.int k m))
    (h1 : 0 ≤ l) (h2 : l ≤ h) (h3 : h ≤ m) (h4 : m ≤ cap) :
    (Instr.sliceAt t (.slice a len cap) lo hi' mx).run P w = .ok (.slice (if m.toNat = l.toNat then a else a.map (·.add (l.toNat * inf.size))) (h.toNat - l.toNat) (m.toNat - l.toNat)) w := by
  have hb : (Instr.sliceBounds true len cap lo hi' mx).run P w = .ok (l.toNat, h.toNat, m.toNat) w := by
    have e1 : ((cap : Nat) : Int).toNat = cap := by simp
    have e2 : ((len : Nat) : Int).toNat = len := by simp
    rcases hm with ⟨rfl, rfl⟩ | ⟨km, rfl⟩
    · rcases hh with ⟨rfl, rfl, _⟩ | ⟨kh, rfl⟩
      · rcases hl with ⟨rfl, rfl⟩ | ⟨kl, rfl⟩
        · simp [Instr.sliceBounds]
        · have q : 0 ≤ l ∧ l ≤ (len : Int) := ⟨h1, h2⟩
          simp [Instr.sliceBounds, Instr.sliceBound, asIntOf, q]
      · have q2 : 0 ≤ h ∧ h ≤ (cap : Int) := ⟨by omega, h3⟩
        rcases hl with ⟨rfl, rfl⟩ | ⟨kl, rfl⟩
        · simp [Instr.sliceBounds, Instr.sliceBound, asIntOf, q2]
        · have q : 0 ≤ l ∧ l ≤ ((h.toNat : Nat) : Int) := ⟨h1, by omega⟩
          simp only [Instr.sliceBounds, Instr.sliceBound, asIntOf, Sem.run_bind, Sem.run_pure, Result.andThen_ok, Sem.run_ite, if_pos q2, if_pos q]
          try simp
    · rcases hh with ⟨_, _, hc⟩ | ⟨kh, rfl⟩
      · cases hc
      · have q3 : 0 ≤ m ∧ m ≤ (cap : Int) := ⟨by omega, h4⟩
        have q2 : 0 ≤ h ∧ h ≤ ((m.toNat : Nat) : Int) := ⟨by omega, by omega⟩
        rcases hl with ⟨rfl, rfl⟩ | ⟨kl, rfl⟩
        · simp only [Instr.sliceBounds, Instr.sliceBound, asIntOf, Sem.run_bind, Sem.run_pure, Result.andThen_ok, Sem.run_ite, if_pos q3, if_pos q2]
          try simp
        · have q : 0 ≤ l ∧ l ≤ ((h.toNat : Nat) : Int) := ⟨h1, by omega⟩
          simp only [Instr.sliceBounds, Instr.sliceBound, asIntOf, Sem.run_bind, Sem.run_pure, Result.andThen_ok, Sem.run_ite, if_pos q3, if_pos q2, if_pos q]
          try simp
  simp [Instr.sliceAt, run_underlying hu, Instr.slice, hb, sizeOf, typeInfo, hi]

theorem qs_slice_sl {t e : TypeId} {x : Operand} {lo hi' mx : Option Operand} {inf : TypeInfo} {b ver es i len : Nat} {k : A → List Blk → Prop} (ho : o.op = .slice t x lo hi' mx) (hu : P.underlying t = some (.slice e)) (hi : P.info? e = some inf)
    (hx : ev ts x = .sl b ver es i len) (hn : nowB hp b ver = true) (hes : inf.size = es)
    (hk : boundK ts lo 0 fun l => boundK ts hi' len fun h => boundK ts mx h fun m => (0 ≤ l ∧ l ≤ h ∧ h ≤ m ∧ m ≤ len) ∧ k (.sl b ver es (i + l.toNat) (h.toNat - l.toNat)) []) :
    (mx.isSome = true → hi'.isSome = true) → ∃ a, k a [] ∧ QS P B0 w0 (hf hp) p o (ev ts) a [] := by
  intro hmh
  have key : ∃ l h m : Int, ((lo = none ∧ l = 0) ∨ ∃ y k1, lo = some y ∧ ev ts y = .v (.int k1 l)) ∧ ((hi' = none ∧ h = len) ∨ ∃ y k1, hi' = some y ∧ ev ts y = .v (.int k1 h)) ∧
      ((mx = none ∧ m = h) ∨ ∃ y k1, mx = some y ∧ ev ts y = .v (.int k1 m)) ∧ (0 ≤ l ∧ l ≤ h ∧ h ≤ m ∧ m ≤ len) ∧ k (.sl b ver es (i + l.toNat) (h.toNat - l.toNat)) [] := by
    rcases boundK_elim hk with ⟨e1, hk⟩ | ⟨y1, k1, l, e1, q1, hk⟩
    · rcases boundK_elim hk with ⟨e2, hk⟩ | ⟨y2, k2, h, e2, q2, hk⟩
      · rcases boundK_elim hk with ⟨e3, hk⟩ | ⟨y3, k3, m, e3, q3, hk⟩
        · exact ⟨0, len, len, .inl ⟨e1, rfl⟩, .inl ⟨e2, rfl⟩, .inl ⟨e3, rfl⟩, hk⟩
        · exact ⟨0, len, m, .inl ⟨e1, rfl⟩, .inl ⟨e2, rfl⟩, .inr ⟨y3, k3, e3, q3⟩, hk⟩
      · rcases boundK_elim hk with ⟨e3, hk⟩ | ⟨y3, k3, m, e3, q3, hk⟩
        · exact ⟨0, h, h, .inl ⟨e1, rfl⟩, .inr ⟨y2, k2, e2, q2⟩, .inl ⟨e3, rfl⟩, hk⟩
        · exact ⟨0, h, m, .inl ⟨e1, rfl⟩, .inr ⟨y2, k2, e2, q2⟩, .inr ⟨y3, k3, e3, q3⟩, hk⟩
    · rcases boundK_elim hk with ⟨e2, hk⟩ | ⟨y2, k2, h, e2, q2, hk⟩
      · rcases boundK_elim hk with ⟨e3, hk⟩ | ⟨y3, k3, m, e3, q3, hk⟩
        · exact ⟨l, len, len, .inr ⟨y1, k1, e1, q1⟩, .inl ⟨e2, rfl⟩, .inl ⟨e3, rfl⟩, hk⟩
        · exact ⟨l, len, m, .inr ⟨y1, k1, e1, q1⟩, .inl ⟨e2, rfl⟩, .inr ⟨y3, k3, e3, q3⟩, hk⟩
      · rcases boundK_elim hk with ⟨e3, hk⟩ | ⟨y3, k3, m, e3, q3, hk⟩
        · exact ⟨l, h, h, .inr ⟨y1, k1, e1, q1⟩, .inr ⟨y2, k2, e2, q2⟩, .inl ⟨e3, rfl⟩, hk⟩
        · exact ⟨l, h, m, .inr ⟨y1, k1, e1, q1⟩, .inr ⟨y2, k2, e2, q2⟩, .inr ⟨y3, k3, e3, q3⟩, hk⟩
  obtain ⟨l, h, m, q1, q2, q3, ⟨r1, r2, r3, r4⟩, hk⟩ := key
  refine ⟨_, hk, QS.value (by simp [ho]) fun g w hh act hs hc hop => ?_⟩
  have h4 := hop x (by simp [ho, Op.operands])
  rw [hx] at h4
  obtain ⟨hb0, hv0⟩ := nowB_elim hn
  obtain ⟨_, hl, hv, he, hxx⟩ := h4.sl_inv
  have hhb : hh b = hp.getD b .hole := hc b hl (by unfold Live hf; exact hb0)
  obtain ⟨a, cap, h5, h6, h7, h8⟩ := hxx (by rw [hhb]; exact hv0)
  have opv : ∀ y k1 n, y ∈ o.op.operands → ev ts y = .v (.int k1 n) → act.eval y = .int k1 n := fun y k1 n hy hyy => by
    have := hop y hy
    rw [hyy] at this
    exact this.int_inv
  have b1 : lo.map act.eval = none ∧ l = 0 ∨ ∃ k, lo.map act.eval = some (.int k l) := by
    rcases q1 with ⟨rfl, rfl⟩ | ⟨y, k1, rfl, hy⟩
    · exact .inl ⟨rfl, rfl⟩
    · exact .inr ⟨k1, by simp [opv y k1 l (by simp [ho, Op.operands]) hy]⟩
  have b2 : hi'.map act.eval = none ∧ h = len ∧ mx.map act.eval = none ∨ ∃ k, hi'.map act.eval = some (.int k h) := by
    rcases q2 with ⟨rfl, rfl⟩ | ⟨y, k1, rfl, hy⟩
    · refine .inl ⟨rfl, rfl, ?_⟩
      cases mx with
      | none => rfl
      | some y => exact absurd (hmh rfl) (by simp)
    · exact .inr ⟨k1, by simp [opv y k1 h (by simp [ho, Op.operands]) hy]⟩
  obtain ⟨m', b3, b4, b5⟩ : ∃ m' : Int, (mx.map act.eval = none ∧ m' = cap ∨ ∃ k, mx.map act.eval = some (.int k m')) ∧ h ≤ m' ∧ m' ≤ cap := by
    rcases q3 with ⟨rfl, rfl⟩ | ⟨y, k1, rfl, hy⟩
    · exact ⟨cap, .inl ⟨rfl, rfl⟩, by omega, by omega⟩
    · exact ⟨m, .inr ⟨k1, by simp [opv y k1 m (by simp [ho, Op.operands]) hy]⟩, r3, by omega⟩
  have hrun := run_slice_gen hu hi w a len cap _ _ _ l h m' b1 b2 b3 r1 r2 b4 b5
  refine ⟨_, by simp only [execOp, ho, h5, Sem.run_bind, hrun, Result.andThen_ok, Sem.run_pure]; rfl, .sl b ver es _ _ _ rfl hl hv he (fun _ => ⟨_, _, rfl, by omega, by omega, fun hcap => ?_⟩)⟩
  have ha := h8 (by omega)
  subst ha
  rw [if_neg (by omega), hes]
  simp only [Option.map_some, add_none, Nat.add_mul]

theorem ro_part {g : Gh} {w : World} {hh : Hp} {els : List (List A)} {v : Value} (r : VR g w hh (.ro els) v) {l h : Int} {size : Nat} (r1 : 0 ≤ l) (r2 : l ≤ h) (r3 : h ≤ els.length) (r4 : ∀ c ∈ els, c.length = size) :
    ∃ a cap, v = .slice a els.length cap ∧ els.length ≤ cap ∧ ∀ (c2 : Nat) (a2 : Option Addr), h.toNat - l.toNat ≤ c2 → (0 < c2 → a2 = a.map fun p => p.add (l.toNat * size)) →
      VR g w hh (.ro ((els.drop l.toNat).take (h.toNat - l.toNat))) (.slice a2 (h.toNat - l.toNat) c2) := by
  obtain ⟨a, cap, es, blk, off, vals, he, h0, hes, hc2, hv, hpl, hcap⟩ := r.ro_inv
  have hlen : ((els.drop l.toNat).take (h.toNat - l.toNat)).length = h.toNat - l.toNat := by simp; omega
  refine ⟨a, cap, he, hcap.1, fun c2 a2 hc hz => ?_⟩
  have hcap2 : ((els.drop l.toNat).take (h.toNat - l.toNat)).length ≤ c2 ∧ ((els.drop l.toNat).take (h.toNat - l.toNat)).length ≤ maxLen := by rw [hlen]; obtain ⟨hc1, hc2⟩ := hcap; exact ⟨by omega, by omega⟩
  refine (show ∀ n, n = ((els.drop l.toNat).take (h.toNat - l.toNat)).length → VR g w hh (.ro ((els.drop l.toNat).take (h.toNat - l.toNat))) (.slice _ n _) from ?_) _ hlen.symm
  rintro n rfl
  have mem : ∀ c, c ∈ (els.drop l.toNat).take (h.toNat - l.toNat) → c ∈ els := fun c hc => List.mem_of_mem_drop (List.mem_of_mem_take hc)
  have idx : ∀ i, i < ((els.drop l.toNat).take (h.toNat - l.toNat)).length → ((els.drop l.toNat).take (h.toNat - l.toNat)).getD i [] = els.getD (l.toNat + i) [] := fun i hi => by
    rw [hlen] at hi
    simp [List.getD_eq_getElem?_getD, List.getElem?_take, hi, List.getElem?_drop]
  refine .ro _ _ _ es blk (off + l.toNat * es) (fun i j => vals (l.toNat + i) j) (fun hne => ?_) (fun c hc => hes c (mem c hc)) (fun i j hi hj => ?_) (fun i j hi hj => ?_) (fun c hc => hpl c (mem c hc)) hcap2
  · have hl0 : 0 < h.toNat - l.toNat := by rw [← hlen]; exact List.length_pos_iff.2 hne
    have hne' : els ≠ [] := fun e => by rw [e] at r3; simp at r3; omega
    obtain ⟨ha, hI⟩ := h0 hne'
    subst ha
    obtain ⟨cl, hcl⟩ : ∃ cl, cl ∈ els := List.exists_mem_of_ne_nil els hne'
    rw [hz (by omega)]
    simp only [Option.map_some, add_none]
    exact ⟨by rw [← hes cl hcl, r4 cl hcl], hI⟩
  · rw [hlen] at hi
    have := hc2 (l.toNat + i) j (by omega) hj
    rw [← this, Nat.add_mul]; congr 2; omega
  · rw [idx i hi]
    rw [hlen] at hi
    exact hv _ j (by omega) hj

theorem qs_slice_ro {t e : TypeId} {x : Operand} {lo hi' : Option Operand} {inf : TypeInfo} {els : List (List A)} {k : A → List Blk → Prop} (ho : o.op = .slice t x lo hi' none) (hu : P.underlying t = some (.slice e)) (hi : P.info? e = some inf)
    (hx : ∀ (g : Gh) (w : World) (h : Hp) (v : Value), VR g w h (ev ts x) v → VR g w h (.ro els) v)
    (hk : boundK ts lo 0 fun l => boundK ts hi' els.length fun h => (0 ≤ l ∧ l ≤ h ∧ h ≤ els.length ∧ ∀ c ∈ els, c.length = inf.size) ∧ k (.ro ((els.drop l.toNat).take (h.toNat - l.toNat))) []) :
    ∃ a, k a [] ∧ QS P B0 w0 c p o (ev ts) a [] := by
  have key : ∃ l h : Int, ((lo = none ∧ l = 0) ∨ ∃ y k1, lo = some y ∧ ev ts y = .v (.int k1 l)) ∧ ((hi' = none ∧ h = els.length) ∨ ∃ y k1, hi' = some y ∧ ev ts y = .v (.int k1 h)) ∧
      (0 ≤ l ∧ l ≤ h ∧ h ≤ els.length ∧ ∀ c ∈ els, c.length = inf.size) ∧ k (.ro ((els.drop l.toNat).take (h.toNat - l.toNat))) [] := by
    rcases boundK_elim hk with ⟨e1, hk⟩ | ⟨y1, k1, l, e1, q1, hk⟩
    · rcases boundK_elim hk with ⟨e2, hk⟩ | ⟨y2, k2, h, e2, q2, hk⟩
      · exact ⟨0, els.length, .inl ⟨e1, rfl⟩, .inl ⟨e2, rfl⟩, hk⟩
      · exact ⟨0, h, .inl ⟨e1, rfl⟩, .inr ⟨y2, k2, e2, q2⟩, hk⟩
    · rcases boundK_elim hk with ⟨e2, hk⟩ | ⟨y2, k2, h, e2, q2, hk⟩
      · exact ⟨l, els.length, .inr ⟨y1, k1, e1, q1⟩, .inl ⟨e2, rfl⟩, hk⟩
      · exact ⟨l, h, .inr ⟨y1, k1, e1, q1⟩, .inr ⟨y2, k2, e2, q2⟩, hk⟩
  obtain ⟨l, h, q1, q2, ⟨r1, r2, r3, r4⟩, hk⟩ := key
  refine ⟨_, hk, QS.value (by simp [ho]) fun g w hh act hs hc hop => ?_⟩
  obtain ⟨a, cap, he, hcap, hpart⟩ := ro_part (hx _ _ _ _ (hop x (by simp [ho, Op.operands]))) r1 r2 r3 r4
  have opv : ∀ y k1 n, y ∈ o.op.operands → ev ts y = .v (.int k1 n) → act.eval y = .int k1 n := fun y k1 n hy hyy => by
    have := hop y hy
    rw [hyy] at this
    exact this.int_inv
  have b1 : lo.map act.eval = none ∧ l = 0 ∨ ∃ k, lo.map act.eval = some (.int k l) := by
    rcases q1 with ⟨rfl, rfl⟩ | ⟨y, k1, rfl, hy⟩
    · exact .inl ⟨rfl, rfl⟩
    · exact .inr ⟨k1, by simp [opv y k1 l (by simp [ho, Op.operands]) hy]⟩
  have b2 : hi'.map act.eval = none ∧ h = els.length ∧ (none : Option Value) = none ∨ ∃ k, hi'.map act.eval = some (.int k h) := by
    rcases q2 with ⟨rfl, rfl⟩ | ⟨y, k1, rfl, hy⟩
    · exact .inl ⟨rfl, rfl, rfl⟩
    · exact .inr ⟨k1, by simp [opv y k1 h (by simp [ho, Op.operands]) hy]⟩
  have hrun := run_slice_gen hu hi w a els.length cap _ _ none l h cap b1 b2 (.inl ⟨rfl, rfl⟩) r1 r2 (by omega) (Int.le_refl _)
  refine ⟨_, by simp only [execOp, ho, he, Option.map_none, Sem.run_bind, hrun, Result.andThen_ok, Sem.run_pure]; rfl, ?_⟩
  exact hpart _ _ (by omega) (fun h0 => if_neg (by omega))

theorem qs_slice_mx {t e : TypeId} {x : Operand} {lo hi' : Option Operand} {y : Operand} {inf : TypeInfo} {els : List (List A)} {k : A → List Blk → Prop} (ho : o.op = .slice t x lo hi' (some y)) (hu : P.underlying t = some (.slice e)) (hi : P.info? e = some inf)
    (hx : ∀ (g : Gh) (w : World) (h : Hp) (v : Value), VR g w h (ev ts x) v → VR g w h (.ro els) v) (hhi : hi'.isSome = true)
    (hk : boundK ts lo 0 fun l => boundK ts hi' els.length fun h => boundK ts (some y) 0 fun m => ((0 ≤ l ∧ h = l ∧ m = l ∧ l ≤ els.length) ∧ k .cz []) ∨
      ((0 ≤ l ∧ l ≤ h ∧ h ≤ m ∧ m ≤ els.length ∧ ∀ c ∈ els, c.length = inf.size) ∧ k (.ro ((els.drop l.toNat).take (h.toNat - l.toNat))) [])) :
    ∃ a, k a [] ∧ QS P B0 w0 c p o (ev ts) a [] := by
  cases hi' with
  | none => cases hhi
  | some y2 =>
    have key : ∃ l h m : Int, ((lo = none ∧ l = 0) ∨ ∃ y k1, lo = some y ∧ ev ts y = .v (.int k1 l)) ∧ (∃ k1, ev ts y2 = .v (.int k1 h)) ∧ (∃ k1, ev ts y = .v (.int k1 m)) ∧ (((0 ≤ l ∧ h = l ∧ m = l ∧ l ≤ els.length) ∧ k .cz []) ∨
      ((0 ≤ l ∧ l ≤ h ∧ h ≤ m ∧ m ≤ els.length ∧ ∀ c ∈ els, c.length = inf.size) ∧ k (.ro ((els.drop l.toNat).take (h.toNat - l.toNat))) [])) := by
      rcases boundK_elim hk with ⟨e1, hk⟩ | ⟨y1, k1, l, e1, q1, hk⟩
      · rcases boundK_elim hk with ⟨e2, _⟩ | ⟨z2, k2, h, e2, q2, hk⟩
        · cases e2
        · cases e2
          rcases boundK_elim hk with ⟨e3, _⟩ | ⟨z3, k3, m, e3, q3, hk⟩
          · cases e3
          · cases e3; exact ⟨0, h, m, .inl ⟨e1, rfl⟩, ⟨_, q2⟩, ⟨_, q3⟩, hk⟩
      · rcases boundK_elim hk with ⟨e2, _⟩ | ⟨z2, k2, h, e2, q2, hk⟩
        · cases e2
        · cases e2
          rcases boundK_elim hk with ⟨e3, _⟩ | ⟨z3, k3, m, e3, q3, hk⟩
          · cases e3
          · cases e3; exact ⟨l, h, m, .inr ⟨y1, k1, e1, q1⟩, ⟨_, q2⟩, ⟨_, q3⟩, hk⟩
    obtain ⟨l, h, m, q1, ⟨k2, q2⟩, ⟨k3, q3⟩, hk⟩ := key
    have opv : ∀ (act : Act) (g : Gh) (w : World) (hh : Hp), (∀ x ∈ o.op.operands, VR g w hh (ev ts x) (act.eval x)) → ∀ y k1 n, y ∈ o.op.operands → ev ts y = .v (.int k1 n) → act.eval y = .int k1 n := fun act g w hh hop y k1 n hy hyy => by
      have := hop y hy
      rw [hyy] at this
      exact this.int_inv
    have b1 : ∀ (act : Act) (g : Gh) (w : World) (hh : Hp), (∀ x ∈ o.op.operands, VR g w hh (ev ts x) (act.eval x)) → (lo.map act.eval = none ∧ l = 0 ∨ ∃ k, lo.map act.eval = some (.int k l)) := fun act g w hh hop => by
      rcases q1 with ⟨rfl, rfl⟩ | ⟨y, k1, rfl, hy⟩
      · exact .inl ⟨rfl, rfl⟩
      · exact .inr ⟨k1, by simp [opv act g w hh hop y k1 l (by simp [ho, Op.operands]) hy]⟩
    rcases hk with ⟨⟨r1, r2, r3, r4⟩, hk⟩ | ⟨⟨r1, r2, r3, r4, r5⟩, hk⟩
    · refine ⟨_, hk, QS.value (by simp [ho]) fun g w hh act hs hc hop => ?_⟩
      obtain ⟨a, cap, es, blk, off, vals, he, h0, hes, hc2, hv, hpl, hcap⟩ := (hx _ _ _ _ (hop x (by simp [ho, Op.operands]))).ro_inv
      have b2 : (some y2).map act.eval = some (.int k2 h) := by simp [opv act g w hh hop y2 k2 h (by simp [ho, Op.operands]) q2]
      have b3 : (some y).map act.eval = some (.int k3 m) := by simp [opv act g w hh hop y k3 m (by simp [ho, Op.operands]) q3]
      have hrun := run_slice_gen hu hi w a els.length cap _ _ _ l h m (b1 act g w hh hop) (.inr ⟨k2, b2⟩) (.inr ⟨k3, b3⟩) r1 (by omega) (by omega) (by omega)
      refine ⟨_, by simp only [execOp, ho, he, Sem.run_bind, hrun, Result.andThen_ok, Sem.run_pure]; rfl, ?_⟩
      rw [show h.toNat - l.toNat = 0 by omega, show m.toNat - l.toNat = 0 by omega]
      exact .cz _
    · refine ⟨_, hk, QS.value (by simp [ho]) fun g w hh act hs hc hop => ?_⟩
      obtain ⟨a, cap, he, hcap, hpart⟩ := ro_part (hx _ _ _ _ (hop x (by simp [ho, Op.operands]))) r1 r2 (by omega) r5
      have b2 : (some y2).map act.eval = some (.int k2 h) := by simp [opv act g w hh hop y2 k2 h (by simp [ho, Op.operands]) q2]
      have b3 : (some y).map act.eval = some (.int k3 m) := by simp [opv act g w hh hop y k3 m (by simp [ho, Op.operands]) q3]
      have hrun := run_slice_gen hu hi w a els.length cap _ _ _ l h m (b1 act g w hh hop) (.inr ⟨k2, b2⟩) (.inr ⟨k3, b3⟩) r1 (by omega) (by omega) (by omega)
      refine ⟨_, by simp only [execOp, ho, he, Sem.run_bind, hrun, Result.andThen_ok, Sem.run_pure]; rfl, ?_⟩
      exact hpart _ _ (by omega) (fun h0 => if_neg (by omega))

theorem madeCells_getD (zero : Array Value) (n j : Nat) (h : j < n) : (madeCells zero n).getD j undef = zero[j % zero.size]! := by
  simp [madeCells, Array.getD, h]
theorem qs_makeSlice (nx : Bool) {t e : TypeId} {l cc : Operand} {k1 k2 : IntKind} {n m : Int} {inf : TypeInfo} {z : Value} (ho : o.op = .makeSlice t l cc) (hu : P.underlying t = some (.slice e)) (hi : P.info? e = some inf) (hz : inf.zero = some z)
    (hl : ev ts l = .v (.int k1 n)) (hcc : ev ts cc = .v (.int k2 m)) (hs0 : 0 < inf.size) (hb0 : 0 < inf.bytes) (hb : 0 ≤ n ∧ n ≤ m ∧ m * inf.bytes ≤ 70368744177664) (hzs : (z.cells.toList.map ofVal).length = inf.size) (hpl : ∀ x ∈ z.cells.toList.map ofVal, plainA x = true) :
    QS P B0 w0 c p o (ev ts) (.sl p 0 inf.size 0 n.toNat) [.rw false nx 0 inf.size (List.replicate n.toNat (z.cells.toList.map ofVal))] :=
  QS.block (by simp [ho]) fun g w h act hs hc hop => by
    have h1 := hop l (by simp [ho, Op.operands])
    have h2 := hop cc (by simp [ho, Op.operands])
    rw [hl] at h1
    rw [hcc] at h2
    have hm : m ≤ 70368744177664 := by
      have : m * 1 ≤ m * inf.bytes := Int.mul_le_mul_of_nonneg_left (by omega) (by omega)
      omega
    have hrun := run_make (P := P) w t e inf z hu hi hz k1 k2 n m hb.1 hb.2.1 (by rw [Int.mul_comm]; omega) (by omega)
    simp only [List.length_map, Array.length_toList] at hzs
    refine ⟨_, _, e, m.toNat, by simp only [execOp, ho, h1.int_inv, h2.int_inv, Sem.run_bind, hrun, Result.andThen_ok, Sem.run_pure]; rfl, ⟨rfl, hs0, by simp [madeCells], by simp; omega, by simp [maxLen]; omega, fun cl hcl => ?_, fun i j hi2 hj => ?_⟩, fun w' h' hh => ?_⟩
    · obtain ⟨_, rfl⟩ := List.mem_replicate.1 hcl
      exact ⟨by simpa using hzs, fun _ => hpl⟩
    · simp only [List.length_replicate] at hi2
      have hij : i * inf.size + j < m.toNat * inf.size := by
        calc i * inf.size + j < i * inf.size + inf.size := by omega
          _ = (i + 1) * inf.size := by rw [Nat.add_mul, Nat.one_mul]
          _ ≤ _ := Nat.mul_le_mul_right _ (by omega)
      rw [madeCells_getD _ _ _ hij, hzs]
      have e1 : (i * inf.size + j) % inf.size = j := by rw [Nat.mul_comm, Nat.mul_add_mod, Nat.mod_eq_of_lt hj]
      rw [e1]
      have e2 : (List.replicate n.toNat (z.cells.toList.map ofVal)).getD i [] = z.cells.toList.map ofVal := by simp [List.getD_eq_getElem?_getD, hi2]
      rw [e2, getD_map_ofVal _ _ (by simpa using by omega)]
      have e3 : z.cells[j]! = z.cells.toList.getD j undef := by
        have : j < z.cells.size := by omega
        simp [List.getD_eq_getElem?_getD, this]
      rw [e3]; exact VR.ofVal ..
    · exact .sl p 0 inf.size 0 _ _ rfl (by unfold Live; rw [hh]; exact Blk.noConfusion) (Nat.zero_le _) (by rw [hh]; rfl) (fun _ => ⟨_, _, rfl, by omega, by simp [Gh.at], fun _ => by simp [Gh.at]⟩)

end Go.YtoeophdffhmpmaaE
