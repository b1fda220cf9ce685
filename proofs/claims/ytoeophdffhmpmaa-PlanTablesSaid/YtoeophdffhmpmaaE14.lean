/- The engine: nil, literals of slices with what is frozen, other names, calls by contract. -/
import Derived.Test.YtoeophdffhmpmaaE13
set_option linter.unusedVariables false
set_option linter.unusedSimpArgs false
namespace Go.YtoeophdffhmpmaaE
open Go Go.RowKit

variable {P : Program} {B0 : Nat} {w0 : Wz} {c : Hp} {p : Nat} {o : Oper} {ts : List A} {hp : List Blk}

theorem run_equalIn_slice_nil (w : World) (d : Nat) (t e : TypeId) (a : Option Addr) (l c : Nat) (h : P.underlying t = some (.slice e)) : (Op.equalIn (d + 1) t (.slice a l c) (.slice none 0 0)).run P w = .ok a.isNone w := by
  cases a <;> simp [Op.equalIn, run_underlying h]
theorem run_equal_slice_nil (w : World) (t e : TypeId) (a : Option Addr) (l c : Nat) (h : P.underlying t = some (.slice e)) : (Op.equal t (.slice a l c) (.slice none 0 0)).run P w = .ok a.isNone w := run_equalIn_slice_nil w 9999 t e a l c h
theorem run_eql_slice_nil {t e : TypeId} (h : P.underlying t = some (.slice e)) (w : World) (a : Option Addr) (l c : Nat) : (binOp .eql t (.slice a l c) (.slice none 0 0)).run P w = .ok (.bool a.isNone) w := by
  simp [binOp, run_equal_slice_nil w t e a l c h]
theorem run_neq_slice_nil {t e : TypeId} (h : P.underlying t = some (.slice e)) (w : World) (a : Option Addr) (l c : Nat) : (binOp .neq t (.slice a l c) (.slice none 0 0)).run P w = .ok (.bool (!a.isNone)) w := by
  simp [binOp, run_equal_slice_nil w t e a l c h]
theorem os_nil_ro {op : BinOp} {t yt : TypeId} {x : Operand} {els : List (List A)} {k : A → List Blk → Prop} (ho : o.op = .binOp op t x (.const (.slice none 0 0)) yt) (hx : ev ts x = .ro els)
    (hk : nilK P op t els fun z => k z hp) : OS P B0 w0 hp o (ev ts) k := by
  unfold nilK at hk
  cases hu : P.underlying t <;> rw [hu] at hk <;> try exact hk.elim
  rename_i d
  cases d <;> try exact hk.elim
  have key : ∀ (g : Gh) (w : World) (act : Act), (∀ y ∈ o.op.operands, VR g w (hf hp) (ev ts y) (act.eval y)) → ∃ a cap, act.eval x = .slice a els.length cap ∧ (a.isNone = true → els = []) := by
    intro g w act hop
    have h4 := hop x (by simp [ho, Op.operands])
    rw [hx] at h4
    obtain ⟨a, cap, es, blk, off, vals, he, h0, _⟩ := h4.ro_inv
    refine ⟨a, cap, he, fun hn => ?_⟩
    by_cases hne : els = []
    · exact hne
    · rw [(h0 hne).1] at hn; cases hn
  cases op <;> try exact hk.elim
  · refine OS.run (by simp [ho]) fun g w act hs hop => ?_
    obtain ⟨a, cap, he, hn⟩ := key g w act hop
    exact ⟨_, w, _, hp, g, execOp_bin ho (by rw [he]; exact eqGuard_slice ..) (by rw [he]; exact run_eql_slice_nil hu w a _ cap), hk _ hn, EB.refl _ _ _, hs, .v _ rfl⟩
  · refine OS.run (by simp [ho]) fun g w act hs hop => ?_
    obtain ⟨a, cap, he, hn⟩ := key g w act hop
    exact ⟨_, w, _, hp, g, execOp_bin ho (by rw [he]; exact eqGuard_slice ..) (by rw [he]; exact run_neq_slice_nil hu w a _ cap), hk _ (by simpa using hn), EB.refl _ _ _, hs, .v _ rfl⟩
theorem os_nil_nil {op : BinOp} {t yt e : TypeId} {x : Operand} {k : A → List Blk → Prop} (ho : o.op = .binOp op t x (.const (.slice none 0 0)) yt) (hx : ev ts x = .v (.slice none 0 0)) (hu : P.underlying t = some (.slice e))
    (hk : match op with | .eql => k (.v (.bool true)) hp | .neq => k (.v (.bool false)) hp | _ => False) : OS P B0 w0 hp o (ev ts) k := by
  have key : ∀ (g : Gh) (w : World) (act : Act), (∀ y ∈ o.op.operands, VR g w (hf hp) (ev ts y) (act.eval y)) → act.eval x = .slice none 0 0 := by
    intro g w act hop
    have h4 := hop x (by simp [ho, Op.operands])
    rw [hx] at h4
    exact h4.v_inv.1
  cases op <;> try exact hk.elim
  · refine OS.run (by simp [ho]) fun g w act hs hop => ?_
    have he := key g w act hop
    exact ⟨_, w, _, hp, g, execOp_bin ho (by rw [he]; exact eqGuard_slice ..) (by rw [he]; exact run_eql_slice_nil hu w none _ 0), hk, EB.refl _ _ _, hs, .v _ rfl⟩
  · refine OS.run (by simp [ho]) fun g w act hs hop => ?_
    have he := key g w act hop
    exact ⟨_, w, _, hp, g, execOp_bin ho (by rw [he]; exact eqGuard_slice ..) (by rw [he]; exact run_neq_slice_nil hu w none _ 0), hk, EB.refl _ _ _, hs, .v _ rfl⟩

theorem os_buildSlice {t e : TypeId} {inf : TypeInfo} {z : Value} {len : Nat} {parts : Array (Nat × Operand)} {k : A → List Blk → Prop} (ho : o.op = .buildSlice t len parts) (hu : P.underlying t = some (.slice e)) (hi : P.info? e = some inf) (hz : inf.zero = some z)
    (hlen : parts.size = len) (hs0 : 0 < inf.size) (hlim : len * inf.size ≤ 4096)
    (hk : partsK hp ts inf.size 0 parts.toList fun els bs => match bs with
      | [] => lenK hp 0 fun p => snocK hp [.rw false false 0 inf.size els] fun hp => k (.sl p 0 inf.size 0 len) hp
      | b :: bs => (freezeK hp (b :: bs) fun hp => lenK hp 0 fun p => snocK hp [.rw false false 0 inf.size els] fun hp => k (.sl p 0 inf.size 0 len) hp) ∨
          keptK ts inf.size 0 parts.toList fun els => lenK hp 0 fun p => snocK hp [.rw false true 0 inf.size els] fun hp => k (.sl p 0 inf.size 0 len) hp) :
    OS P B0 w0 hp o (ev ts) k := by
  obtain ⟨els, bs, k1, k2, k3, k4⟩ := partsK_sound (B0 := B0) (w0 := w0) hk
  have hm : len ≤ 4096 := Nat.le_trans (Nat.le_mul_of_pos_right _ hs0) hlim
  have k6 : (freezeK hp bs fun hp => lenK hp 0 fun p => snocK hp [.rw false false 0 inf.size els] fun hp => k (.sl p 0 inf.size 0 len) hp) ∨
          keptK ts inf.size 0 parts.toList fun els => lenK hp 0 fun p => snocK hp [.rw false true 0 inf.size els] fun hp => k (.sl p 0 inf.size 0 len) hp := by
    cases bs with
    | nil => exact .inl k1
    | cons b bs => exact k1
  rcases k6 with k6 | k6
  rotate_left
  · obtain ⟨els, k1, k2, k3, k4⟩ := keptK_sound k6
    rw [lenK_eq, Nat.zero_add, snocK_eq] at k1
    refine OS.run (by simp [ho]) fun g w act hs hop => ?_
    obtain ⟨arr, r1, r2, r3⟩ := lit_kept (els := els) (ρ := act.eval) hu hi hz hs0 hlim hlen (fun arr hfit => (k4 g w (hf hp) act.eval arr (fun q hq => hop q.2 (by rw [ho]; exact mem_parts hq)) hfit).imp fun arr' q => ⟨q.1, q.2.1, q.2.2.2⟩) w
    have hl2 : els.length = len := by rw [k2]; simpa using hlen
    have hb : Below w.heap.size w (w.alloc (.cells arr e)) := (Below.refl _ _).alloc (Nat.le_refl _) _
    have hnb : NB g w (hf hp) arr len (.rw false true 0 inf.size els) := ⟨rfl, hs0, r2, by omega, by simp only [maxLen]; omega, fun c hc => ⟨k3 c hc, fun h => by cases h⟩, r3⟩
    obtain ⟨e2, s2⟩ := hs.add hb (Nat.le_refl _) (heap_alloc_new w _) (hf_none hp hp.length (Nat.le_refl _)) hnb
    have hh : addH (hf hp) hp.length [Blk.rw false true 0 inf.size els] hp.length = .rw false true 0 inf.size els := by rw [addH_one, if_pos rfl]
    have hv : VR (g.at hp.length w.heap.size len) (w.alloc (.cells arr e)) (addH (hf hp) hp.length [.rw false true 0 inf.size els]) (.sl hp.length 0 inf.size 0 len) (.slice (some ⟨w.heap.size, 0, none⟩) len len) :=
      .sl hp.length 0 inf.size 0 _ _ rfl (by unfold Live; rw [hh]; exact Blk.noConfusion) (Nat.zero_le _) (by rw [hh]; rfl) (fun _ => ⟨_, _, rfl, by omega, by simp [Gh.at], fun _ => by simp [Gh.at]⟩)
    rw [addH_hf] at e2 s2 hv
    exact ⟨_, _, _, _, _, by simp only [execOp, ho, Sem.run_bind, r1, Result.andThen_ok, Sem.run_pure], k1, e2, s2, hv⟩
  obtain ⟨hp1, k5, hlen1, _, hf1⟩ := freezeK_sound (B0 := B0) (w0 := w0) k6
  rw [lenK_eq, Nat.zero_add, snocK_eq] at k5
  refine OS.run (by simp [ho]) fun g w act hs hop => ?_
  obtain ⟨arr, r1, r2, r3⟩ := lit_fill (ρ := act.eval) hu hi hz hs0 hlim hlen k2 k3 hs (fun _ _ _ => rfl) (fun q hq => hop q.2 (by rw [ho]; exact mem_parts hq)) k4
  obtain ⟨g1, e1, s1, m1, i1, j1⟩ := hf1 g w hs
  have hl2 : els.length = len := by rw [k2]; simpa using hlen
  have hb : Below w.heap.size w (w.alloc (.cells arr e)) := (Below.refl _ _).alloc (Nat.le_refl _) _
  have hnb : NB g1 w (hf hp1) arr len (.rw false false 0 inf.size els) := ⟨rfl, hs0, r2, by omega, by simp only [maxLen]; omega, fun c hc => ⟨(k3 c hc).1, fun _ => (k3 c hc).2⟩, r3 g1 (hf hp1) (fun x hx => (e1.imm x hx).1) (fun b hb _ => i1 b hb)⟩
  obtain ⟨e2, s2⟩ := s1.add hb (Nat.le_refl _) (heap_alloc_new w _) (hf_none hp1 hp1.length (Nat.le_refl _)) hnb
  have hh : addH (hf hp1) hp1.length [Blk.rw false false 0 inf.size els] hp1.length = .rw false false 0 inf.size els := by rw [addH_one, if_pos rfl]
  have hv : VR (g1.at hp1.length w.heap.size len) (w.alloc (.cells arr e)) (addH (hf hp1) hp1.length [.rw false false 0 inf.size els]) (.sl hp1.length 0 inf.size 0 len) (.slice (some ⟨w.heap.size, 0, none⟩) len len) :=
    .sl hp1.length 0 inf.size 0 _ _ rfl (by unfold Live; rw [hh]; exact Blk.noConfusion) (Nat.zero_le _) (by rw [hh]; rfl) (fun _ => ⟨_, _, rfl, by omega, by simp [Gh.at], fun _ => by simp [Gh.at]⟩)
  rw [addH_hf] at e2 s2 hv
  exact ⟨_, _, _, _, _, by simp only [execOp, ho, Sem.run_bind, r1, Result.andThen_ok, Sem.run_pure], k5, e1.trans e2, s2, hv⟩

end Go.YtoeophdffhmpmaaE
