/- The engine: a condition generator over abstract values, in continuation passing style. Definitions alone, by explicit recursors, so that the kernel and the elaborator reach the same terms. -/
import Derived.RangeFuncNested
import Derived.RangeFuncBound
import Derived.RangeFuncCalls
import Derived.RangeFuncLeaves
import Derived.Laws.MakeOwn
import Derived.Laws.AppendOwn
import Derived.Laws.Small
import Derived.Laws.StructEq
import Derived.WalkKit
import Derived.KernelRfl
import Derived.OrdersIn
set_option linter.unusedVariables false
namespace Go.YtoeophdffhmpmaaE
open Go Go.RowKit

/-- Abstract values. `pt`, `sl`: into a block of the call's own heap (block, version, element size, element, offset | length). `ro`, `rp`: what is only read. `ar`: the slice of an array in a box. -/
inductive A where
  | v (x : Value)
  | agg (xs : List A)
  | tup (xs : List A)
  | pt (b ver es i fo : Nat)
  | sl (b ver es i len : Nat)
  | ro (els : List (List A))
  | rp (cells : List A)
  | cz
  | ar (b fo n : Nat)
  | fn (f : Nat) (fst cap : List A)
  | yl (i : Nat)
  | un

inductive Blk where
  | hole
  | bx (fz : Bool) (cells : List A)
  | rw (fz nx : Bool) (ver es : Nat) (els : List (List A))

def Blk.ver : Blk → Nat | .rw _ _ v _ _ => v | _ => 0
def Blk.es : Blk → Nat | .rw _ _ _ es _ => es | _ => 0

inductive Ex where
  | normal | exit (id : Nat) | ret

/-- A loop over a function: what a round runs. -/
structure Rd where
  params : List Nat
  assign : Code
  body : Code
  ts : List A

/-- How a loop over a function stands. -/
inductive Lp where
  | ready (rd : Rd) | busy (rd : Rd) | done (e : Ex) | over

structure Res where
  v : A
  hs : List Blk

abbrev K := Ex → List A → List Blk → List Lp → Prop

/-! ### Small steps, each in continuation passing style, so that states come out in normal form -/
def optK {α : Type} (o : Option α) (k : α → Prop) : Prop := match o with | some a => k a | none => False
def cndK (b : Bool) (p q : Prop) : Prop := match b with | true => p | false => q
def chk (b : Bool) (p : Prop) : Prop := match b with | true => p | false => False
def natK (n : Nat) (k : Nat → Prop) : Prop := match n with | 0 => k 0 | m + 1 => k (m + 1)
theorem optK_intro {α : Type} {o : Option α} {k : α → Prop} (a : α) (h : o = some a) (hk : k a) : optK o k := by subst h; exact hk
theorem optK_elim {α : Type} {o : Option α} {k : α → Prop} (h : optK o k) : ∃ a, o = some a ∧ k a := by
  cases o with
  | none => exact h.elim
  | some a => exact ⟨a, rfl, h⟩
theorem cndK_intro {b : Bool} {p q : Prop} (hp : b = true → p) (hq : b = false → q) : cndK b p q := by cases b <;> simp_all [cndK]
theorem chk_intro {b : Bool} {p : Prop} (h : b = true) (hp : p) : chk b p := by subst h; exact hp
theorem chk_elim {b : Bool} {p : Prop} (h : chk b p) : b = true ∧ p := by cases b with
  | false => exact h.elim
  | true => exact ⟨rfl, h⟩
theorem natK_eq (n : Nat) (k : Nat → Prop) : natK n k = k n := by cases n <;> rfl

def ofVal : Value → A
  | .agg cs => match cs.toList.all Value.oneCell' with
    | true => .agg (cs.toList.map .v)
    | false => .un
  | .tuple _ => .un
  | x => .v x
def ev (ts : List A) : Operand → A
  | .tmp t => ts.getD t .un
  | .const v => ofVal v
  | .global _ => .un
  | .func f => .fn f [] []
def force (a : A) (k : A → Prop) : Prop :=
  match a with
  | .v x => k (.v x)
  | .agg xs => k (.agg xs)
  | .tup xs => k (.tup xs)
  | .pt b ver es i fo => k (.pt b ver es i fo)
  | .sl b ver es i len => k (.sl b ver es i len)
  | .ro els => k (.ro els)
  | .rp c => k (.rp c)
  | .cz => k .cz
  | .ar b fo n => k (.ar b fo n)
  | .fn f b c => k (.fn f b c)
  | .yl i => k (.yl i)
  | .un => k .un
theorem force_eq (a : A) (k : A → Prop) : force a k = k a := by cases a <;> rfl

section
variable {α : Type}
/-- A list with a new element at n. -/
def setK (xs : List α) (n : Nat) (v : α) (k : List α → Prop) : Prop :=
  List.rec (motive := fun _ => Nat → (List α → Prop) → Prop) (fun _ k => k [])
    (fun x xs ih n k => match n with | 0 => k (v :: xs) | m + 1 => ih m fun ys => k (x :: ys)) xs n k
def dropK (xs : List α) (n : Nat) (k : List α → Prop) : Prop :=
  Nat.rec (motive := fun _ => List α → Prop) (fun xs => k xs)
    (fun _ ih xs => match xs with | [] => k [] | _ :: xs => ih xs) n xs
def takeK (n : Nat) (xs : List α) (k : List α → Prop) : Prop :=
  Nat.rec (motive := fun _ => List α → (List α → Prop) → Prop) (fun _ k => k [])
    (fun _ ih xs k => match xs with | [] => False | x :: xs => ih xs fun ys => k (x :: ys)) n xs k
def lenK (xs : List α) (n : Nat) (k : Nat → Prop) : Prop :=
  List.rec (motive := fun _ => Nat → Prop) (fun n => k n) (fun _ _ ih n => ih (n + 1)) xs n
def snocK (xs news : List α) (k : List α → Prop) : Prop := match news with
  | [] => k xs
  | y :: news => List.rec (motive := fun _ => (List α → Prop) → Prop) (fun k => k (y :: news)) (fun x _ ih k => ih fun ys => k (x :: ys)) xs k
end
/-- `setMany cells fo new`: the cells from fo on are new. -/
def setMany (cells : List A) (fo : Nat) (new : List A) (k : List A → Prop) : Prop :=
  List.rec (motive := fun _ => List A → Nat → Prop) (fun cells _ => k cells) (fun a _ ih cells fo => setK cells fo a fun cs => ih cs (fo + 1)) new cells fo
def putK (ts : List A) (dst : Option Nat) (a : A) (k : List A → Prop) : Prop :=
  match dst with
  | none => k ts
  | some d => force a fun a => setK ts d a k
def cellsOf : A → List A
  | .agg xs => xs
  | a => [a]
/-- One cell, and something of which memory may hold it. -/
def oneA : A → Bool
  | .agg _ | .tup _ | .un => false
  | _ => true
/-- No reference into the own heap, at sight. -/
def plainA : A → Bool
  | .v _ | .ro _ | .rp _ => true
  | _ => false
def scal1 : A → Bool
  | .v _ => true
  | _ => false
noncomputable def allB (p : A → Bool) (xs : List A) : Bool := List.rec (motive := fun _ => Bool) true (fun a _ ih => p a && ih) xs
noncomputable def allR (p : A → Bool) (els : List (List A)) : Bool := List.rec (motive := fun _ => Bool) true (fun c _ ih => allB p c && ih) els
def isAggD : TypeDesc → Bool
  | .struct _ | .array _ _ => true
  | _ => false

/-- A load of a type of `size` cells out of `cells` from `fo` on. -/
def loadB (agg : Bool) (size : Nat) (cells : List A) (fo : Nat) (k : A → Prop) : Prop :=
  match agg with
  | true => dropK cells fo fun cs => takeK size cs fun cs => k (.agg cs)
  | false => optK cells[fo]? k
def mapK (vs : List Value) (k : List A → Prop) : Prop :=
  List.rec (motive := fun _ => (List A → Prop) → Prop) (fun k => k []) (fun v _ ih k => force (ofVal v) fun a => ih fun as => k (a :: as)) vs k
def tyK (P : Program) (t : Nat) (k : TypeDesc → Nat → Prop) : Prop :=
  optK (P.underlying t) fun d => optK (P.info? t) fun i => natK i.size fun s => k d s
def zeroK (P : Program) (t : Nat) (k : List A → Prop) : Prop :=
  optK (P.info? t) fun i => optK i.zero fun z => mapK z.cells.toList k

def binI (op : BinOp) (k1 : IntKind) (a b : Int) (k : Value → Prop) : Prop :=
  match op with
  | .add => k (.int k1 (k1.wrap (a + b)))
  | .sub => k (.int k1 (k1.wrap (a - b)))
  | .mul => k (.int k1 (k1.wrap (a * b)))
  | .quo => b ≠ 0 ∧ k (.int k1 (k1.wrap (a.tdiv b)))
  | .rem => b ≠ 0 ∧ k (.int k1 (a.tmod b))
  | .and => k (.int k1 (k1.wrap (BitVec.ofInt k1.bits a &&& BitVec.ofInt k1.bits b).toNat))
  | .or => k (.int k1 (k1.wrap (BitVec.ofInt k1.bits a ||| BitVec.ofInt k1.bits b).toNat))
  | .xor => k (.int k1 (k1.wrap (BitVec.ofInt k1.bits a ^^^ BitVec.ofInt k1.bits b).toNat))
  | .andNot => k (.int k1 (k1.wrap (BitVec.ofInt k1.bits a &&& ~~~BitVec.ofInt k1.bits b).toNat))
  | .eql => k (.bool (a == b))
  | .neq => k (.bool (a != b))
  | .lss => k (.bool (decide (a < b)))
  | .leq => k (.bool (decide (a ≤ b)))
  | .gtr => k (.bool (decide (a > b)))
  | .geq => k (.bool (decide (a ≥ b)))
  | _ => False
/-- '==' of two cells: of whole numbers of a kind, or of bools. -/
def eqC (ck : Option IntKind) (x y : A) (k : Bool → Prop) : Prop :=
  match ck with
  | some kk => match x with
    | .v (.int k1 a) => match y with
      | .v (.int k2 b) => chk (decide (k1 = kk) && decide (k2 = kk)) (k (a == b))
      | _ => False
    | _ => False
  | none => match x with
    | .v (.bool a) => match y with
      | .v (.bool b) => k (a == b)
      | _ => False
    | _ => False
/-- '==' of lists of cells. -/
def eqCells (cks : List (Option IntKind)) (xs ys : List A) (k : Bool → Prop) : Prop :=
  List.rec (motive := fun _ => List A → List A → (Bool → Prop) → Prop)
    (fun xs ys k => match xs with
      | [] => match ys with
        | [] => k true
        | _ :: _ => False
      | _ :: _ => False)
    (fun ck _ ih xs ys k => match xs with
      | [] => False
      | x :: xs => match ys with
        | [] => False
        | y :: ys => eqC ck x y fun b => ih xs ys fun c => k (b && c)) cks xs ys k
def shiftN (k1 : IntKind) (op : BinOp) (a b : Int) (k : Value → Prop) : Prop :=
  match op with
  | .shl => 0 ≤ b ∧ k (.int k1 (k1.wrap (a * 2 ^ (min b.toNat k1.bits))))
  | .shr => 0 ≤ b ∧ k (.int k1 (a.fdiv (2 ^ (min b.toNat k1.bits))))
  | _ => False
def isShift : BinOp → Bool
  | .shl | .shr => true
  | _ => false
/-- Types whose '==' goes by all cells, in order: their kinds, told by the caller. -/
abbrev EqT := Nat → Option (List (Option IntKind))
def binK (P : Program) (E : EqT) (op : BinOp) (t : Nat) (x y : A) (k : A → Prop) : Prop :=
  match x, y with
  | .v (.int k1 a), .v (.int k2 b) =>
    match isShift op with
    | true => shiftN k1 op a b fun z => k (.v z)
    | false => chk (decide (k1 = k2)) (binI op k1 a b fun z => k (.v z))
  | .v (.bool a), .v (.bool b) =>
    match P.underlying t with
    | some .bool => match op with
      | .eql => k (.v (.bool (a == b)))
      | .neq => k (.v (.bool (!(a == b))))
      | _ => False
    | _ => False
  | .v (.string a), .v (.string b) =>
    match op with
    | .eql => k (.v (.bool (a.toList == b.toList)))
    | .neq => k (.v (.bool (!(a.toList == b.toList))))
    | _ => False
  | .agg xs, .agg ys =>
    optK (E t) fun cks => match op with
      | .eql => eqCells cks xs ys fun b => k (.v (.bool b))
      | .neq => eqCells cks xs ys fun b => k (.v (.bool (!b)))
      | _ => False
  | _, _ => False
/-- A slice against nil. -/
def nilK (P : Program) (op : BinOp) (t : Nat) (els : List (List A)) (k : A → Prop) : Prop :=
  match P.underlying t with
  | some (.slice _) => match op with
    | .eql => ∀ b : Bool, (b = true → els = []) → k (.v (.bool b))
    | .neq => ∀ b : Bool, (b = false → els = []) → k (.v (.bool b))
    | _ => False
  | _ => False

/-- What an operand of one cell is in the eyes of a callee (or of a row that it becomes a part of): what is only read. -/
def conv1 (hp : List Blk) (a : A) (k : A → Prop) : Prop :=
  match a with
  | .v (.slice none 0 0) => k (.ro [])
  | .v x => k (.v x)
  | .cz => k (.ro [])
  | .ro els => k (.ro els)
  | .rp c => k (.rp c)
  | .sl b ver es i len =>
    match hp.getD b .hole with
    | .rw _ nx ver' es' els => match nx with
      | false => chk (ver == ver' && es == es') (i + len ≤ els.length ∧ k (.ro ((els.drop i).take len)))
      | true => False
    | _ => False
  | _ => False
/-- The cells of some rows, each in another form. -/
def cellsK (f : A → (A → Prop) → Prop) (xs : List A) (k : List A → Prop) : Prop :=
  List.rec (motive := fun _ => (List A → Prop) → Prop) (fun k => k []) (fun x _ ih k => f x fun a => ih fun as => k (a :: as)) xs k
def rowsK (f : A → (A → Prop) → Prop) (els : List (List A)) (k : List (List A) → Prop) : Prop :=
  List.rec (motive := fun _ => (List (List A) → Prop) → Prop) (fun k => k []) (fun c _ ih k => cellsK f c fun c => ih fun cs => k (c :: cs)) els k
/-- The same, told by what comes out. -/
structure RowsF (f : A → (A → Prop) → Prop) (els rows : List (List A)) : Prop where
  len : rows.length = els.length
  row : ∀ i, i < els.length → (rows.getD i []).length = (els.getD i []).length ∧ ∀ j, j < (els.getD i []).length → f ((els.getD i []).getD j .un) (fun x => x = (rows.getD i []).getD j .un)
/-- The same, of rows whose cells are references into the own heap, too (d deep). -/
def convD (d : Nat) (hp : List Blk) (a : A) (k : A → Prop) : Prop :=
  Nat.rec (motive := fun _ => A → (A → Prop) → Prop) (fun a k => conv1 hp a k)
    (fun _ ih a k => match a with
      | .sl b ver es i len => match hp.getD b .hole with
        | .rw _ nx ver' es' els => match nx with
          | false => chk (ver == ver' && es == es') (i + len ≤ els.length ∧ k (.ro ((els.drop i).take len)))
          | true => chk (ver == ver' && es == es') (i + len ≤ els.length ∧ ((rowsK ih ((els.drop i).take len) fun rows => k (.ro rows)) ∨ ∃ rows, RowsF ih ((els.drop i).take len) rows ∧ k (.ro rows)))
        | _ => False
      | a => conv1 hp a k) d a k
def convL (hp : List Blk) (xs : List A) (k : List A → Prop) : Prop :=
  List.rec (motive := fun _ => (List A → Prop) → Prop) (fun k => k []) (fun x _ ih k => conv1 hp x fun a => ih fun as => k (a :: as)) xs k
def convA (hp : List Blk) (a : A) (k : A → Prop) : Prop :=
  match a with
  | .v (.slice none 0 0) => k (.ro []) ∨ k (.v (.slice none 0 0))
  | .agg xs => convL hp xs fun ys => k (.agg ys)
  | .fn f [] [] => k (.fn f [] [])
  | .pt b _ _ 0 0 => match hp.getD b .hole with
    | .bx _ cells => convL hp cells fun ys => k (.rp ys)
    | _ => False
  | a => convD 3 hp a k
def convs (hp : List Blk) (xs : List A) (k : List A → Prop) : Prop :=
  List.rec (motive := fun _ => (List A → Prop) → Prop) (fun k => k []) (fun x _ ih k => convA hp x fun a => ih fun as => k (a :: as)) xs k
/-- Whole numbers, bools, strings alone. -/
noncomputable def scalarA : A → Bool
  | .v _ => true
  | .agg xs => allB scal1 xs
  | _ => false
noncomputable def scalarR : Res → Bool
  | ⟨.v _, []⟩ => true
  | ⟨.agg xs, []⟩ => allB scal1 xs
  | ⟨.tup xs, []⟩ => allB scalarA xs
  | _ => false
def blocks1 : A → List Nat
  | .sl b _ _ _ _ => [b]
  | _ => []
noncomputable def blocksC (f : A → List Nat) (xs : List A) : List Nat := List.rec (motive := fun _ => List Nat) [] (fun a _ ih => f a ++ ih) xs
noncomputable def blocksW (f : A → List Nat) (els : List (List A)) : List Nat := List.rec (motive := fun _ => List Nat) [] (fun c _ ih => blocksC f c ++ ih) els
noncomputable def blocksD (d : Nat) (hp : List Blk) (a : A) : List Nat :=
  Nat.rec (motive := fun _ => A → List Nat) blocks1
    (fun _ ih a => match a with
      | .sl b _ _ i len => match hp.getD b .hole with
        | .rw _ nx _ _ els => match nx with
          | false => [b]
          | true => b :: blocksW ih ((els.drop i).take len)
        | _ => [b]
      | a => blocks1 a) d a
noncomputable def blocksL (xs : List A) : List Nat := List.rec (motive := fun _ => List Nat) [] (fun a _ ih => blocks1 a ++ ih) xs
noncomputable def blocksA (hp : List Blk) : A → List Nat
  | .agg xs => blocksL xs
  | .pt b _ _ _ _ => match hp.getD b .hole with
    | .bx _ cells => b :: blocksL cells
    | _ => []
  | a => blocksD 3 hp a
noncomputable def blocksAs (hp : List Blk) (xs : List A) : List Nat := List.rec (motive := fun _ => List Nat) [] (fun a _ ih => blocksA hp a ++ ih) xs
def freeze1 : Blk → Blk
  | .rw _ nx ver es els => .rw true nx ver es els
  | .bx _ cells => .bx true cells
  | .hole => .hole
def freezeK (hp : List Blk) (bs : List Nat) (k : List Blk → Prop) : Prop :=
  List.rec (motive := fun _ => List Blk → Prop) (fun hp => k hp)
    (fun b _ ih hp => match hp.getD b .hole with
      | .rw _ nx ver es els => setK hp b (.rw true nx ver es els) ih
      | .bx _ cells => setK hp b (.bx true cells) ih
      | .hole => False) bs hp
/-- References under other names: rn: blocks (with the version that is meant); yn: which loops stay. -/
def ren0 (rn : Nat → Nat → Option (Nat × Nat)) (yn : Nat → Bool) (a : A) : A :=
  match a with
  | .pt b ver es i fo => match rn b ver with
    | some (b, ver) => .pt b ver es i fo
    | none => .un
  | .sl b ver es i len => match rn b ver with
    | some (b, ver) => .sl b ver es i len
    | none => .un
  | .yl i => match yn i with
    | true => .yl i
    | false => .un
  | .agg _ => .un
  | .tup _ => .un
  | .ar _ _ _ => .un
  | .fn f fst cap => match fst with
    | [] => match cap with
      | [] => .fn f [] []
      | _ :: _ => .un
    | _ :: _ => .un
  | .v x => .v x
  | .ro els => .ro els
  | .rp c => .rp c
  | .cz => .cz
  | .un => .un
def renL0 (rn : Nat → Nat → Option (Nat × Nat)) (yn : Nat → Bool) (xs : List A) (k : List A → Prop) : Prop :=
  List.rec (motive := fun _ => (List A → Prop) → Prop) (fun k => k []) (fun x _ ih k => force (ren0 rn yn x) fun a => ih fun as => k (a :: as)) xs k
def ren1 (rn : Nat → Nat → Option (Nat × Nat)) (yn : Nat → Bool) (a : A) (k : A → Prop) : Prop :=
  match a with
  | .agg xs => renL0 rn yn xs fun xs => k (.agg xs)
  | .fn f fst cap => renL0 rn yn fst fun ys => renL0 rn yn cap fun xs => k (.fn f ys xs)
  | a => force (ren0 rn yn a) k
def renL1 (rn : Nat → Nat → Option (Nat × Nat)) (yn : Nat → Bool) (xs : List A) (k : List A → Prop) : Prop :=
  List.rec (motive := fun _ => (List A → Prop) → Prop) (fun k => k []) (fun x _ ih k => ren1 rn yn x fun a => ih fun as => k (a :: as)) xs k
def ren2 (rn : Nat → Nat → Option (Nat × Nat)) (yn : Nat → Bool) (a : A) (k : A → Prop) : Prop :=
  match a with
  | .agg xs => renL1 rn yn xs fun xs => k (.agg xs)
  | .tup xs => renL1 rn yn xs fun xs => k (.tup xs)
  | .fn f fst cap => renL1 rn yn fst fun ys => renL1 rn yn cap fun xs => k (.fn f ys xs)
  | a => force (ren0 rn yn a) k
def renB (rn : Nat → Nat → Option (Nat × Nat)) (yn : Nat → Bool) (b : Blk) (k : Blk → Prop) : Prop :=
  match b with
  | .bx fz cells => renL1 rn yn cells fun cs => k (.bx fz cs)
  | .rw fz nx ver es els => match nx with
    | false => k (.rw fz false ver es els)
    | true => rowsK (ren1 rn yn) els fun els => k (.rw fz true ver es els)
  | .hole => k .hole
def renBs (rn : Nat → Nat → Option (Nat × Nat)) (yn : Nat → Bool) (bs : List Blk) (k : List Blk → Prop) : Prop :=
  List.rec (motive := fun _ => (List Blk → Prop) → Prop) (fun k => k []) (fun b _ ih k => renB rn yn b fun b => ih fun bs => k (b :: bs)) bs k
/-- A result's references, moved on by n. -/
def shN (n b ver : Nat) : Option (Nat × Nat) := some (n + b, ver)
def noY (_ : Nat) : Bool := false

/-- What is kept at a loop's head: temporaries, blocks of this frame's (rising), loops. -/
structure GC where
  tm : List Bool
  bs : List Nat
  nl : Nat
noncomputable def posOf (b : Nat) (bs : List Nat) (j : Nat) : Option Nat :=
  List.rec (motive := fun _ => Nat → Option Nat) (fun _ => none) (fun c _ ih j => match Nat.beq b c with | true => some j | false => ih (j + 1)) bs j
noncomputable def gcN (nb : Nat) (bs : List Nat) (hp : List Blk) (b ver : Nat) : Option (Nat × Nat) :=
  match Nat.blt b nb with
  | true => some (b, ver)
  | false => match posOf b bs 0 with
    | some j => match Nat.beq ver (hp.getD b .hole).ver with
      | true => some (nb + j, 0)
      | false => none
    | none => none
noncomputable def rising (lo : Nat) (bs : List Nat) : Bool :=
  List.rec (motive := fun _ => Nat → Bool) (fun _ => true) (fun b _ ih lo => Nat.ble lo b && ih (b + 1)) bs lo
def isOver : Lp → Bool
  | .over => true
  | _ => false
noncomputable def allOver (lp : List Lp) : Bool := List.rec (motive := fun _ => Bool) true (fun l _ ih => isOver l && ih) lp
def ver0 : Blk → Blk
  | .rw fz nx _ es els => .rw fz nx 0 es els
  | b => b
def forceB (b : Blk) (k : Blk → Prop) : Prop :=
  match b with
  | .bx fz cells => k (.bx fz cells)
  | .rw fz nx ver es els => k (.rw fz nx ver es els)
  | .hole => k .hole
def pickK (hp : List Blk) (bs : List Nat) (k : List Blk → Prop) : Prop :=
  List.rec (motive := fun _ => (List Blk → Prop) → Prop) (fun k => k []) (fun b _ ih k => forceB (ver0 (hp.getD b .hole)) fun x => match x with
    | .hole => False
    | x => ih fun xs => k (x :: xs)) bs k
def renTs (rn : Nat → Nat → Option (Nat × Nat)) (yn : Nat → Bool) (ts : List A) (tm : List Bool) (k : List A → Prop) : Prop :=
  List.rec (motive := fun _ => List Bool → (List A → Prop) → Prop) (fun _ k => k [])
    (fun x _ ih tm k => match tm with
      | [] => ih [] fun as => k (.un :: as)
      | true :: tm => ren2 rn yn x fun a => ih tm fun as => k (a :: as)
      | false :: tm => ih tm fun as => k (.un :: as)) ts tm k
def gcK (nb nl : Nat) (q : Option GC) (ts : List A) (hp : List Blk) (lp : List Lp) (k : List A → List Blk → List Lp → Prop) : Prop :=
  match q with
  | none => k ts hp lp
  | some q => chk (rising nb q.bs && Nat.ble nl q.nl) (dropK lp q.nl fun l2 => chk (allOver l2) (takeK q.nl lp fun lp2 =>
      renTs (gcN nb q.bs hp) (fun i => Nat.blt i q.nl) ts q.tm fun ts2 => takeK nb hp fun h1 => renBs (gcN nb q.bs hp) (fun i => Nat.blt i q.nl) h1 fun h1 =>
        pickK hp q.bs fun h2 => renBs (gcN nb q.bs hp) (fun i => Nat.blt i q.nl) h2 fun h2 => snocK h1 h2 fun hp2 => k ts2 hp2 lp2))

noncomputable def maskT (ts : List A) (tm : List Bool) : List A :=
  List.rec (motive := fun _ => List Bool → List A) (fun _ => []) (fun x _ ih tm => match tm with
    | [] => .un :: ih []
    | true :: tm => x :: ih tm
    | false :: tm => .un :: ih tm) ts tm
def plainB (els : List (List A)) : Prop := ∀ c ∈ els, ∀ x ∈ c, plainA x = true
/-- What may be done at a loop's head: less is known from then on. -/
inductive Wk (nb nl : Nat) : List A → List Blk → List Lp → List A → List Blk → List Lp → Prop
  | refl (ts hp lp) : Wk nb nl ts hp lp ts hp lp
  | gc (q : Option GC) {ts hp lp ts2 hp2 lp2} (h : gcK nb nl q ts hp lp fun ts hp lp => ts = ts2 ∧ hp = hp2 ∧ lp = lp2) : Wk nb nl ts hp lp ts2 hp2 lp2
  | mask (tm : List Bool) {ts hp lp} : Wk nb nl ts hp lp (maskT ts tm) hp lp
  /-- A row that keeps references: they become what is only read. -/
  | cv (b d : Nat) {fz fz1 nx ver es els els2} (bs : List Nat) {ts hp hp1 lp} (hb : hp.getD b .hole = .rw fz nx ver es els) (hc : RowsF (convD d hp) els els2) (hbs : ∀ x ∈ blocksW (blocksD d hp) els, x ∈ bs)
      (hf : freezeK hp bs fun hp => hp = hp1) (hb1 : hp1.getD b .hole = .rw fz1 nx ver es els) : Wk nb nl ts hp lp ts (hp1.set b (.rw fz1 false ver es els2)) lp
  | trans {ts hp lp ts1 hp1 lp1 ts2 hp2 lp2} (h1 : Wk nb nl ts hp lp ts1 hp1 lp1) (h2 : Wk nb nl ts1 hp1 lp1 ts2 hp2 lp2) : Wk nb nl ts hp lp ts2 hp2 lp2
def WkK (nb nl : Nat) (ts : List A) (hp : List Blk) (lp : List Lp) (k : List A → List Blk → List Lp → Prop) : Prop := ∃ ts2 hp2 lp2, Wk nb nl ts hp lp ts2 hp2 lp2 ∧ k ts2 hp2 lp2

/-- What is known of callees: which arguments come to what. -/
abbrev Env := Nat → Option (List A → Res → Prop)

def evs (ts : List A) (xs : List Operand) (k : List A → Prop) : Prop :=
  List.rec (motive := fun _ => (List A → Prop) → Prop) (fun k => k []) (fun x _ ih k => force (ev ts x) fun a => ih fun as => k (a :: as)) xs k
def boxable : A → Bool
  | .un | .tup _ => false
  | _ => true
/-- The parts of a literal of a slice: all of them, in order. -/
def partsK (hp : List Blk) (ts : List A) (es : Nat) (j : Nat) (ps : List (Nat × Operand)) (k : List (List A) → List Nat → Prop) : Prop :=
  List.rec (motive := fun _ => Nat → (List (List A) → List Nat → Prop) → Prop) (fun _ k => k [] [])
    (fun p _ ih j k => chk (p.1 == j && boxable (ev ts p.2)) (convL hp (cellsOf (ev ts p.2)) fun cs => chk (cs.length == es)
      (ih (j + 1) fun els bs => k (cs :: els) (blocksL (cellsOf (ev ts p.2)) ++ bs)))) ps j k
/-- The same, and references stay references. -/
def keptK (ts : List A) (es : Nat) (j : Nat) (ps : List (Nat × Operand)) (k : List (List A) → Prop) : Prop :=
  List.rec (motive := fun _ => Nat → (List (List A) → Prop) → Prop) (fun _ k => k [])
    (fun p _ ih j k => force (ev ts p.2) fun a => chk (p.1 == j && boxable a && allB oneA (cellsOf a)) (chk ((cellsOf a).length == es)
      (ih (j + 1) fun els => k (cellsOf a :: els)))) ps j k
/-- The parts of a literal of a struct or an array, over its zero. -/
def fillK (place : Nat → Option (Nat × Nat)) (ts : List A) (cells : List A) (ps : List (Nat × Operand)) (k : List A → Prop) : Prop :=
  List.rec (motive := fun _ => List A → Prop) (fun cells => k cells)
    (fun p _ ih cells => optK (place p.1) fun q => force (ev ts p.2) fun a =>
      chk (boxable a && ((cellsOf a).length == q.2 && decide (q.1 + q.2 ≤ cells.length))) (setMany cells q.1 (cellsOf a) ih)) ps cells
def structPlace (P : Program) (fields : Array Field) (i : Nat) : Option (Nat × Nat) :=
  match fields[i]? with
  | some f => match P.info? f.type with
    | some j => some (f.offset, j.size)
    | none => none
  | none => none
def boundK (ts : List A) (x : Option Operand) (dflt : Int) (k : Int → Prop) : Prop :=
  match x with
  | none => k dflt
  | some x => match ev ts x with
    | .v (.int _ n) => k n
    | _ => False

/-- Is a reference current? -/
def nowB (hp : List Blk) (b ver : Nat) : Bool :=
  match hp.getD b .hole with
  | .hole => false
  | .bx _ _ => ver == 0
  | .rw _ _ ver' _ _ => ver == ver'
/-- A slice of what is only read. -/
def sliceR (ts : List A) (size : Nat) (lo hi mx : Option Operand) (els : List (List A)) (k : A → Prop) : Prop :=
  match mx with
  | some x => chk hi.isSome <| boundK ts lo 0 fun l => boundK ts hi els.length fun h => boundK ts (some x) 0 fun m =>
      ((0 ≤ l ∧ h = l ∧ m = l ∧ l ≤ els.length) ∧ k .cz) ∨ ((0 ≤ l ∧ l ≤ h ∧ h ≤ m ∧ m ≤ els.length ∧ ∀ c ∈ els, c.length = size) ∧ k (.ro ((els.drop l.toNat).take (h.toNat - l.toNat))))
  | none => boundK ts lo 0 fun l => boundK ts hi els.length fun h =>
      (0 ≤ l ∧ l ≤ h ∧ h ≤ els.length ∧ ∀ c ∈ els, c.length = size) ∧ k (.ro ((els.drop l.toNat).take (h.toNat - l.toNat)))
/-- Rows of slices keep references. -/
def nestK (P : Program) (e : Nat) (k : Bool → Prop) : Prop :=
  match P.underlying e with
  | some (.slice _) => k true
  | _ => k false
/-- An operation that changes nothing that lies in the own heap: its value and its new blocks. -/
def opQ (P : Program) (E : EqT) (env : Env) (hp : List Blk) (ts : List A) (o : Op) (k : A → List Blk → Prop) : Prop :=
  match o with
  | .move x | .assign x => k (ev ts x) []
  | .pick c a b => match ev ts c with
    | .v (.bool t) => cndK t (k (ev ts a) []) (k (ev ts b) [])
    | _ => False
  | .binOp op t x y _ => force (ev ts x) fun x => force (ev ts y) fun y => binK P E op t x y fun z => k z []
  | .unOp op _ x => match ev ts x with
    | .v (.bool b) => match op with
      | .not => k (.v (.bool (!b))) []
      | _ => False
    | .v (.int k1 a) => match op with
      | .neg => k (.v (.int k1 (k1.wrap (0 - a)))) []
      | _ => False
    | _ => False
  | .convert src dst x => match ev ts x with
    | .v (.int _ n) => match P.underlying src with
      | some (.int _) => match P.underlying dst with
        | some (.int k2) => k (.v (.int k2 (k2.wrap n))) []
        | _ => False
      | _ => False
    | _ => False
  | .box _ x => force (ev ts x) fun a => chk (boxable a) <| lenK hp 0 fun p => k (.pt p 0 0 0 0) [.bx false (cellsOf a)]
  | .alloc t => zeroK P t fun cells => lenK hp 0 fun p => k (.pt p 0 0 0 0) [.bx false cells]
  | .extract x i => match ev ts x with
    | .tup xs => optK xs[i]? fun a => k a []
    | _ => False
  | .nilCheck x => match ev ts x with
    | .pt b ver es i fo => chk (nowB hp b ver) (k (.pt b ver es i fo) [])
    | .rp c => k (.rp c) []
    | _ => False
  | .fieldAddr s x f => match P.underlying s with
    | some (.struct fields) => optK (structPlace P fields f) fun q => natK q.1 fun off => chk (!(q.2 == 0)) (match ev ts x with
      | .pt b ver es i fo => chk (nowB hp b ver) (k (.pt b ver es i (fo + off)) [])
      | .rp cells => dropK cells off fun cs => k (.rp cs) []
      | _ => False)
    | _ => False
  | .field s x f => match P.underlying s with
    | some (.struct fields) => optK fields[f]? fun fd => tyK P fd.type fun d size => match ev ts x with
        | .agg cells => loadB (isAggD d) size cells fd.offset fun a => k a []
        | _ => False
    | _ => False
  | .indexAddr t x ix => match ev ts ix with
    | .v (.int _ n) => match P.underlying t with
      | some (.slice e) => optK (P.info? e) fun inf => match ev ts x with
          | .sl b ver es i len => chk (nowB hp b ver && inf.size == es) ((0 ≤ n ∧ n < len) ∧ k (.pt b ver es (i + n.toNat) 0) [])
          | .ro els => (0 ≤ n ∧ n < els.length) ∧ optK els[n.toNat]? fun c => chk (c.length == inf.size) (k (.rp c) [])
          | _ => False
      | some (.array len e) => optK (P.info? e) fun inf => natK inf.size fun s => match ev ts x with
          | .pt b ver es i fo => chk (nowB hp b ver) ((0 ≤ n ∧ n < len) ∧ k (.pt b ver es i (fo + n.toNat * s)) [])
          | .rp cells => (0 ≤ n ∧ n < len) ∧ dropK cells (n.toNat * s) fun cs => k (.rp cs) []
          | _ => False
      | _ => False
    | _ => False
  | .index t x ix => match ev ts ix with
    | .v (.int _ n) => match P.underlying t with
      | some (.array len e) => tyK P e fun d size => match ev ts x with
        | .agg cells => (0 ≤ n ∧ n < len) ∧ loadB (isAggD d) size cells (n.toNat * size) fun a => k a []
        | _ => False
      | _ => False
    | _ => False
  | .load t x => tyK P t fun d size => match ev ts x with
    | .rp cells => loadB (isAggD d) size cells 0 fun a => k a []
    | .pt b ver es i fo => match hp.getD b .hole with
      | .bx _ cells => match i with
        | 0 => loadB (isAggD d) size cells fo fun a => k a []
        | _ + 1 => False
      | .rw _ _ ver' es' els => chk (ver == ver' && es == es') (optK els[i]? fun cells => loadB (isAggD d) size cells fo fun a => k a [])
      | .hole => False
    | _ => False
  | .makeFunc (.func f) first captured => evs ts first.toList fun fst => evs ts captured.toList fun cap => k (.fn f fst cap) []
  | .build t parts => match P.underlying t with
    | some (.struct fields) => chk (fields.toList.all fun f => (P.info? f.type).isSome) (zeroK P t fun zs => fillK (structPlace P fields) ts zs parts.toList fun cs => k (.agg cs) [])
    | some (.array _ e) => optK (P.info? e) fun inf => zeroK P t fun zs => fillK (fun i => some (i * inf.size, inf.size)) ts zs parts.toList fun cs => k (.agg cs) []
    | _ => False
  | .buildSlice t len parts => match P.underlying t with
    | some (.slice e) => optK (P.info? e) fun inf => optK inf.zero fun _ => natK inf.size fun s => chk (parts.size == len && (decide (0 < s) && decide (len * s ≤ 4096)))
        (partsK hp ts s 0 parts.toList fun els bs => match bs with
          | [] => lenK hp 0 fun p => k (.sl p 0 s 0 len) [.rw false false 0 s els]
          | _ :: _ => keptK ts s 0 parts.toList fun els => lenK hp 0 fun p => k (.sl p 0 s 0 len) [.rw false true 0 s els])
    | _ => False
  | .makeSlice t l c => match P.underlying t with
    | some (.slice e) => optK (P.info? e) fun inf => natK inf.size fun s => match ev ts l with
        | .v (.int _ n) => match ev ts c with
          | .v (.int _ m) => chk (decide (0 < s) && decide (0 < inf.bytes)) ((0 ≤ n ∧ n ≤ m ∧ m * inf.bytes ≤ 70368744177664) ∧ zeroK P e fun zs => chk (allB plainA zs && zs.length == s)
              (nestK P e fun nx => lenK hp 0 fun p => k (.sl p 0 s 0 n.toNat) [.rw false nx 0 s (List.replicate n.toNat zs)]))
          | _ => False
        | _ => False
    | _ => False
  | .slice t x lo hi mx => match P.underlying t with
    | some (.slice e) => optK (P.info? e) fun inf => match ev ts x with
        | .sl b ver es i len => chk (nowB hp b ver && inf.size == es) (chk (!mx.isSome || hi.isSome) (boundK ts lo 0 fun l => boundK ts hi len fun h => boundK ts mx h fun m =>
              (0 ≤ l ∧ l ≤ h ∧ h ≤ m ∧ m ≤ len) ∧ k (.sl b ver es (i + l.toNat) (h.toNat - l.toNat)) []))
        | .ro els => sliceR ts inf.size lo hi mx els fun a => k a []
        | .v (.slice none 0 0) => sliceR ts inf.size lo hi mx [] fun a => k a []
        | _ => False
    | _ => False
  | .call c => match c.callee with
    | .value f => match ev ts f with
      | .fn g fst cap => optK (env g) fun T => evs ts c.args.toList fun as => convs hp (fst ++ as ++ cap) fun bs => ∃ r : Res, T bs r ∧ match scalarR r with
        | true => k r.v []
        | false => match blocksAs hp (fst ++ as ++ cap) with
          | [] => lenK hp 0 fun p => renBs (shN p) noY r.hs fun hs => ren2 (shN p) noY r.v fun a => k a hs
          | _ :: _ => False
      | _ => False
    | .builtin b => match c.args.toList with
      | [x] => match b with
        | .len => match ev ts x with
          | .sl b ver _ _ len => match P.underlying (c.argTypes.getD 0 0) with
            | some (.slice _) => chk (nowB hp b ver && !(c.argTypes.size == 0)) (k (.v (.int .i64 len)) [])
            | _ => False
          | .ro els => match P.underlying (c.argTypes.getD 0 0) with
            | some (.slice _) => chk (!(c.argTypes.size == 0)) (k (.v (.int .i64 els.length)) [])
            | _ => False
          | .v (.slice none 0 0) => match P.underlying (c.argTypes.getD 0 0) with
            | some (.slice _) => chk (!(c.argTypes.size == 0)) (k (.v (.int .i64 0)) [])
            | _ => False
          | _ => False
        | _ => False
      | [x, y] => match ev ts x with
        | .v (.int k1 a) => match ev ts y with
          | .v (.int _ b2) => match b with
            | .max => k (.v (.int k1 (if b2 > a then b2 else a))) []
            | .min => k (.v (.int k1 (if b2 < a then b2 else a))) []
            | _ => False
          | _ => False
        | _ => False
      | _ => False
    | _ => False
  | _ => False

abbrev K3 := A → List Blk → List Lp → Prop
abbrev Inl := A → List A → List Blk → List Lp → K3 → Prop
/-- What an append leaves. -/
def appK (hp : List Blk) (lp : List Lp) (s bytes : Nat) (nx : Bool) (news : List (List A)) (d : A) (k : K3) : Prop :=
  match d with
  | .v (.slice none 0 0) => (news = [] → k (.v (.slice none 0 0)) hp lp) ∧ (news ≠ [] → ((news.length : Int) * bytes ≤ 70368744177664 ∧ ∀ c ∈ news, c.length = s) ∧
      lenK hp 0 fun p => snocK hp [.rw false nx 0 s news] fun hp => k (.sl p 0 s 0 news.length) hp lp)
  | .cz => (news = [] → k .cz hp lp) ∧ (news ≠ [] → ((news.length : Int) * bytes ≤ 70368744177664 ∧ ∀ c ∈ news, c.length = s) ∧
      lenK hp 0 fun p => snocK hp [.rw false nx 0 s news] fun hp => k (.sl p 0 s 0 news.length) hp lp)
  | .sl b ver es i len => match hp.getD b .hole with
    | .rw false nx' ver' es' els => chk (ver == ver' && es == es' && s == es)
        ((i = 0 ∧ len ≤ els.length ∧ ((len + news.length : Nat) : Int) * bytes ≤ 70368744177664 ∧ (∀ c ∈ news, c.length = es)) ∧
          ∃ els2, els2 = els.take len ++ news ∧ setK hp b (.rw false (nx' || nx) (ver + 1) es els2) fun hp => k (.sl b (ver + 1) es 0 (len + news.length)) hp lp)
    | _ => False
  | _ => False
/-- An operation in a region without a draw. -/
def opS (P : Program) (E : EqT) (env : Env) (inl : Inl) (hp : List Blk) (lp : List Lp) (ts : List A) (o : Op) (k : K3) : Prop :=
  match o with
  | .store t x y => tyK P t fun _ size => force (ev ts y) fun a => chk ((cellsOf a).length == size) (match ev ts x with
      | .pt b ver es i fo => match hp.getD b .hole with
        | .bx false cells => match i with
          | 0 => chk (allB oneA (cellsOf a) && decide (fo + size ≤ cells.length)) (setMany cells fo (cellsOf a) fun cs => setK hp b (.bx false cs) fun hp => k .un hp lp)
          | _ + 1 => False
        | .rw false nx ver' es' els => match nx with
          | false => chk (ver == ver' && es == es') (optK els[i]? fun cells => chk (decide (fo + size ≤ cells.length))
              (convL hp (cellsOf a) fun cs => setMany cells fo cs fun cells => freezeK hp (blocksL (cellsOf a)) fun hp => match hp.getD b .hole with
                | .rw false _ _ _ _ => setK hp b (.rw false false ver' es' (els.set i cells)) fun hp => k .un hp lp
                | _ => False))
          | true => chk (ver == ver' && es == es' && allB oneA (cellsOf a)) (optK els[i]? fun cells => chk (decide (fo + size ≤ cells.length))
              (setMany cells fo (cellsOf a) fun cells => setK els i cells fun els => setK hp b (.rw false true ver' es' els) fun hp => k .un hp lp))
        | _ => False
      | _ => False)
  | .buildSlice t len parts => match P.underlying t with
    | some (.slice e) => optK (P.info? e) fun inf => optK inf.zero fun _ => natK inf.size fun s => chk (parts.size == len && (decide (0 < s) && decide (len * s ≤ 4096)))
        (partsK hp ts s 0 parts.toList fun els bs => match bs with
          | [] => lenK hp 0 fun p => snocK hp [.rw false false 0 s els] fun hp => k (.sl p 0 s 0 len) hp lp
          | b :: bs => (freezeK hp (b :: bs) fun hp => lenK hp 0 fun p => snocK hp [.rw false false 0 s els] fun hp => k (.sl p 0 s 0 len) hp lp) ∨
              keptK ts s 0 parts.toList fun els => lenK hp 0 fun p => snocK hp [.rw false true 0 s els] fun hp => k (.sl p 0 s 0 len) hp lp)
    | _ => False
  | .binOp op t x (.const (.slice none 0 0)) _ => match ev ts x with
    | .ro els => nilK P op t els fun z => k z hp lp
    | .v (.slice none 0 0) => match P.underlying t with
      | some (.slice _) => match op with
        | .eql => k (.v (.bool true)) hp lp
        | .neq => k (.v (.bool false)) hp lp
        | _ => False
      | _ => False
    | _ => False
  | .call c => match c.callee with
    | .value f => force (ev ts f) fun fv => evs ts c.args.toList fun as => match fv with
      | .fn g fst cap => match env g with
        | some T => convs hp (fst ++ as ++ cap) fun bs => ∃ r : Res, T bs r ∧ match scalarR r with
            | true => k r.v hp lp
            | false => freezeK hp (blocksAs hp (fst ++ as ++ cap)) fun hp => lenK hp 0 fun p => renBs (shN p) noY r.hs fun hs => snocK hp hs fun hp => ren2 (shN p) noY r.v fun a => k a hp lp
        | none => inl (.fn g fst cap) as hp lp k
      | .yl i => inl (.yl i) as hp lp k
      | _ => False
    | .builtin .append => match P.underlying (c.argTypes.getD 0 0) with
      | some (.slice e) => optK (P.info? e) fun inf => natK inf.size fun s => optK inf.zero fun z => chk (decide (c.argTypes = #[c.argTypes.getD 0 0, c.argTypes.getD 0 0]) && (decide (0 < s) && (z.cells.size == s && decide (0 < inf.bytes))))
          (evs ts c.args.toList fun as => match as with
            | [d, src] => match src with
              | .sl b ver es i len => match hp.getD b .hole with
                | .rw _ nx ver' es' els => match nx with
                  | true => chk (ver == ver' && es == es') (i + len ≤ els.length ∧ takeK len (els.drop i) fun news => chk (allR oneA news) (appK hp lp s inf.bytes true news d k))
                  | false => conv1 hp src fun x => match x with
                    | .ro news => appK hp lp s inf.bytes false news d k
                    | _ => False
                | _ => False
              | src => conv1 hp src fun x => match x with
                | .ro news => appK hp lp s inf.bytes false news d k
                | _ => False
            | _ => False)
      | _ => False
    | .builtin _ => opQ P E env hp ts o fun a news => snocK hp news fun hp => k a hp lp
    | _ => False
  | o => opQ P E env hp ts o fun a news => snocK hp news fun hp => k a hp lp

/-- A region's operations, one behind the other. -/
def opsS (P : Program) (E : EqT) (env : Env) (inl : Inl) (all os : List Oper) (ts : List A) (hp : List Blk) (lp : List Lp) (k : List A → List Blk → List Lp → Prop) : Prop :=
  List.rec (motive := fun _ => List A → List Blk → List Lp → Prop) (fun ts hp lp => k ts hp lp)
    (fun o _ ih ts hp lp => match o.guard with
      | none => opS P E env inl hp lp ts o.op fun a hp lp => putK ts o.dst a fun ts => ih ts hp lp
      | some g => optK ((all[g.1]?).bind (·.dst)) fun d => match ts.getD d .un with
        | .v (.bool b) => match g.2 with
          | true => cndK b (opS P E env inl hp lp ts o.op fun a hp lp => putK ts o.dst a fun ts => ih ts hp lp) (putK ts o.dst (.tup []) fun ts => ih ts hp lp)
          | false => cndK b (putK ts o.dst (.tup []) fun ts => ih ts hp lp) (opS P E env inl hp lp ts o.op fun a hp lp => putK ts o.dst a fun ts => ih ts hp lp)
        | .tup _ => putK ts o.dst (.tup []) fun ts => ih ts hp lp
        | _ => False) os ts hp lp

/-- Quiet operations alone, one behind the other. -/
def opsQ (P : Program) (E : EqT) (env : Env) (all os : List Oper) (ts : List A) (hp : List Blk) (k : List A → List Blk → Prop) : Prop :=
  List.rec (motive := fun _ => List A → List Blk → Prop) (fun ts hp => k ts hp)
    (fun o _ ih ts hp => match o.guard with
      | none => opQ P E env hp ts o.op fun a news => snocK hp news fun hp => putK ts o.dst a fun ts => ih ts hp
      | some g => optK ((all[g.1]?).bind (·.dst)) fun d => match ts.getD d .un with
        | .v (.bool b) => match g.2 with
          | true => cndK b (opQ P E env hp ts o.op fun a news => snocK hp news fun hp => putK ts o.dst a fun ts => ih ts hp) (putK ts o.dst (.tup []) fun ts => ih ts hp)
          | false => cndK b (putK ts o.dst (.tup []) fun ts => ih ts hp) (opQ P E env hp ts o.op fun a news => snocK hp news fun hp => putK ts o.dst a fun ts => ih ts hp)
        | .tup _ => putK ts o.dst (.tup []) fun ts => ih ts hp
        | _ => False) os ts hp
/-- What binds, along all ways: bits. -/
def maskOf (acc : List Nat) : List Edge → Nat
  | [] => 0
  | e :: es => match Region.binds .any e with
    | true => 2 ^ e.on ||| acc.getD e.on 0 ||| maskOf acc es
    | false => maskOf acc es
def masks : List Oper → List Nat → List Nat
  | [], acc => acc
  | o :: os, acc => masks os (acc ++ [maskOf acc o.after.toList])
def upto (n : Nat) (p : Nat → Bool) : Bool := (List.range n).all p
def nameB (all : Array Oper) (x y : Oper) : Bool := x.dst.any fun d => (y.looksAt all).contains d || y.dst == some d
/-- What looks at no world. -/
def worldless (o : Oper) : Bool := match o.op with
  | .move _ | .extract _ _ => true
  | _ => false
def calmOp (o : Oper) : Bool := match o.op with
  | .defer _ | .select _ _ => false
  | _ => true
/-- What may be taken as soon as it is ready. -/
def floB (os : List Oper) (ms : List Nat) (i : Nat) : Bool := (os[i]?).any fun x => worldless x && upto os.length fun j => j == i || (os[j]?).all fun y =>
  y.after.toList.any (fun e => Region.binds .any e && e.on == i) || (ms.getD i 0).testBit j || x.apart os.toArray y
/-- The first m operations may be taken in any order that the edges leave; the others come in their own order, behind them. -/
def okD (os : List Oper) (m : Nat) : Bool :=
  let ms := masks os []
  upto os.length (fun j => (os[j]?).all fun o => o.after.toList.all fun e => !Region.binds .any e || Nat.blt e.on j) &&
  upto m (fun j => upto j fun i => (os[j]?).all fun y => (os[i]?).all fun x => !(nameB os.toArray x y || nameB os.toArray y x) || (ms.getD j 0).testBit i) &&
  upto os.length (fun j => Nat.blt j m || upto j fun i => (ms.getD j 0).testBit i || (Nat.blt i m && floB os ms i)) && (Nat.ble m os.length && os.all calmOp)

/-- All of them. -/
def allK (is : List Nat) (p : Nat → Prop) : Prop := List.rec (motive := fun _ => Prop) True (fun i _ ih => p i ∧ ih) is
/-- In any order that Go leaves open, one by one: what is ready is told by the user. -/
def anyK (P : Program) (E : EqT) (env : Env) (inl : Inl) (os : List Oper) (fuel : Nat) (listed : List Bool) (ts : List A) (hp : List Blk) (lp : List Lp) (k : List A → List Blk → List Lp → Prop) : Prop :=
  Nat.rec (motive := fun _ => List Bool → List A → List Blk → List Lp → Prop)
    (fun listed ts hp lp => (Region.ready .any os.toArray listed.toArray == []) = true ∧ k ts hp lp)
    (fun _ ih listed ts hp lp => ∃ rs : List Nat, (Region.ready .any os.toArray listed.toArray == rs) = true ∧ match rs with
      | [] => k ts hp lp
      | i :: is => allK (i :: is) fun i => optK os[i]? fun o => opsS P E env inl os [o] ts hp lp fun ts hp lp => setK listed i true fun listed => ih listed ts hp lp) fuel listed ts hp lp
def drawK (P : Program) (E : EqT) (env : Env) (inl : Inl) (os : List Oper) (ts : List A) (hp : List Blk) (lp : List Lp) (k : List A → List Blk → List Lp → Prop) : Prop :=
  (∃ m, okD os m = true ∧ takeK m os fun o1 => dropK os m fun o2 => opsQ P E env os o1 ts hp fun ts hp => opsS P E env inl os o2 ts hp lp k) ∨
    anyK P E env inl os os.length (List.replicate os.length false) ts hp lp k

def resVals (P : Program) (hp : List Blk) (ts : List A) (rs : List ResultVar) (k : List A → Prop) : Prop :=
  List.rec (motive := fun _ => (List A → Prop) → Prop) (fun k => k [])
    (fun r _ ih k => match r with
      | .tmp t => force (ts.getD t .un) fun a => ih fun as => k (a :: as)
      | .cell c t => tyK P t fun d size => match ts.getD c .un with
        | .pt b _ _ 0 fo => match hp.getD b .hole with
          | .bx _ cells => loadB (isAggD d) size cells fo fun a => ih fun as => k (a :: as)
          | _ => False
        | _ => False) rs k
def resK (P : Program) (fn : Func) (ts : List A) (hp : List Blk) (k : A → Prop) : Prop :=
  resVals P hp ts fn.results.toList fun as => match as with
    | [a] => k a
    | as => k (.tup as)

def paramsK (ps : List Nat) (vs ts : List A) (k : List A → Prop) : Prop :=
  List.rec (motive := fun _ => List A → List A → Prop) (fun _ ts => k ts)
    (fun p _ ih vs ts => match vs with
      | [] => k ts
      | v :: vs => setK ts p v (ih vs)) ps vs ts
/-- A new frame's temporaries. -/
def frameK (fn : Func) (as : List A) (k : List A → Prop) : Prop :=
  snocK as (List.replicate (fn.ntmps - as.length) .un) k

/-- nb, nl: how many blocks and loops there were when the frame began. -/
abbrev RunT := Nat → Nat → Code → List A → List Blk → List Lp → K → Prop
def inlF (P : Program) (rec : RunT) : Inl := fun fv as hp lp kk =>
  match fv with
  | .fn f fst cap => optK P.funcs[f]? fun fn => optK fn.body fun c => snocK fst as fun as => snocK as cap fun as => frameK fn as fun ts => lenK hp 0 fun nb => lenK lp 0 fun nl => rec nb nl c ts hp lp fun e ts hp lp =>
      match e with
      | .exit _ => False
      | _ => resK P fn ts hp fun a => kk a hp lp
  | .yl i => optK lp[i]? fun st => match st with
    | .ready rd => chk (as.length == rd.params.length) (paramsK rd.params as rd.ts fun ts => lenK hp 0 fun nb => lenK lp 0 fun nl => rec nb nl rd.assign ts hp lp fun e ts hp lp =>
        match e with
        | .normal => optK lp[i]? fun st => match st with
          | .ready rd => setK lp i (.busy rd) fun lp => lenK hp 0 fun nb => lenK lp 0 fun nl => rec nb nl rd.body ts hp lp fun e _ hp lp =>
            match e with
            | .normal => optK lp[i]? fun st => match st with
              | .busy rd => setK lp i (.ready rd) fun lp => kk (.v (.bool true)) hp lp
              | _ => False
            | e => optK lp[i]? fun st => match st with
              | .busy rd => setK lp i (.done e) fun lp => kk (.v (.bool false)) hp lp
              | _ => False
          | _ => False
        | _ => False)
    | _ => False
  | _ => False

/-- A loop's round, and what comes behind it. -/
def loopF (rec : RunT) (nb nl : Nat) (b : Code) (ts : List A) (hp : List Blk) (lp : List Lp) (k : K) : Prop :=
  rec nb nl b ts hp lp fun e ts hp lp => match e with
    | .normal => rec nb nl (.loop b) ts hp lp k
    | e => k e ts hp lp
def runStep (P : Program) (E : EqT) (env : Env) (rec : RunT) : RunT := fun nb nl c ts hp lp k =>
  match c with
  | .skip => k .normal ts hp lp
  | .region _ os dr => match dr with
    | false => opsS P E env (inlF P rec) os.toList os.toList ts hp lp fun ts hp lp => k .normal ts hp lp
    | true => drawK P E env (inlF P rec) os.toList ts hp lp fun ts hp lp => k .normal ts hp lp
  | .seq a b => rec nb nl a ts hp lp fun e ts hp lp => match e with
    | .normal => rec nb nl b ts hp lp k
    | e => k e ts hp lp
  | .cond c a b => match ev ts c with
    | .v (.bool t) => cndK t (rec nb nl a ts hp lp k) (rec nb nl b ts hp lp k)
    | _ => False
  | .block id b => rec nb nl b ts hp lp fun e ts hp lp => match e with
    | .exit i => match i == id with
      | true => k .normal ts hp lp
      | false => k (.exit i) ts hp lp
    | e => k e ts hp lp
  | .loop b => WkK nb nl ts hp lp fun ts hp lp => loopF rec nb nl b ts hp lp k
  | .rangeFunc f ps assign body => match ev ts f with
    | .fn g [] cap => optK P.funcs[g]? fun fn => optK fn.body fun c => lenK lp 0 fun i => frameK fn (.yl i :: cap) fun ts2 => snocK lp [.ready ⟨ps.toList, assign, body, ts⟩] fun lp2 =>
        lenK hp 0 fun nb2 => rec nb2 (i + 1) c ts2 hp lp2 fun e ts3 hp lp3 =>
          match e with
          | .exit _ => False
          | _ => resK P fn ts3 hp fun _ => optK lp3[i]? fun st => match st with
            | .ready _ => setK lp3 i .over fun lp => k .normal ts hp lp
            | .done e => setK lp3 i .over fun lp => k e ts hp lp
            | _ => False
    | _ => False
  | .exit i => k (.exit i) ts hp lp
  | .ret => k .ret ts hp lp
  | _ => False
def run (P : Program) (E : EqT) (env : Env) (n : Nat) : RunT :=
  Nat.rec (motive := fun _ => RunT) (fun _ _ _ _ _ _ _ => False) (fun _ ih => runStep P E env ih) n
theorem run_succ (P : Program) (E : EqT) (env : Env) (n : Nat) : run P E env (n + 1) = runStep P E env (run P E env n) := rfl


/-! ### What a call hands back -/
def convR (hp : List Blk) (a : A) (k : A → Prop) : Prop :=
  match a with
  | .tup xs => convs hp xs fun ys => k (.tup ys)
  | .fn f [] cap => convs hp cap fun ys => k (.fn f [] ys)
  | a => convA hp a k
noncomputable def blocksR (hp : List Blk) : A → List Nat
  | .tup xs => blocksAs hp xs
  | .fn _ [] cap => blocksAs hp cap
  | a => blocksA hp a
/-- All of it for reading, or with blocks of its own (bs). -/
def expK (hp : List Blk) (a : A) (r : Res) : Prop :=
  (convR hp a fun a' => freezeK hp (blocksR hp a) fun _ => r = ⟨a', []⟩) ∨
  ∃ bs : List Nat, chk (rising 0 bs) (pickK hp bs fun h2 => renBs (gcN 0 bs hp) noY h2 fun h2 => ren2 (gcN 0 bs hp) noY a fun a => r = ⟨a, h2⟩)
def fnK (P : Program) (E : EqT) (env : Env) (f n : Nat) (as : List A) (k : A → List Blk → Prop) : Prop :=
  optK P.funcs[f]? fun fn => optK fn.body fun c => frameK fn as fun ts => run P E env n 0 0 c ts [] [] fun e ts hp lp => match e with
    | .exit _ => False
    | _ => resK P fn ts hp fun a => k a hp

/-! ### Words for those who use it -/
def loopsOf : Code → List Code
  | .seq a b => loopsOf a ++ loopsOf b
  | .cond _ a b => loopsOf a ++ loopsOf b
  | .block _ c => loopsOf c
  | .loop c => .loop c :: loopsOf c
  | .rangeFunc _ _ a b => loopsOf a ++ loopsOf b
  | _ => []
/-- The body of the k-th loop of a function. -/
def loopB (P : Program) (f k : Nat) : Code := match (((P.funcs[f]?).bind (·.body)).elim [] loopsOf)[k]? with
  | some (.loop b) => b
  | _ => .skip
theorem gc_step {nb nl : Nat} {ts : List A} {hp : List Blk} {lp : List Lp} {k : List A → List Blk → List Lp → Prop} (q : GC) (ts2 : List A) (hp2 : List Blk) (lp2 : List Lp)
    (h : ∀ k : List A → List Blk → List Lp → Prop, k ts2 hp2 lp2 → gcK nb nl (some q) ts hp lp k) (hk : k ts2 hp2 lp2) : ∃ ts2 hp2 lp2, Wk nb nl ts hp lp ts2 hp2 lp2 ∧ k ts2 hp2 lp2 := ⟨ts2, hp2, lp2, .gc (some q) (h _ ⟨rfl, rfl, rfl⟩), hk⟩
theorem wk_none {nb nl : Nat} {ts : List A} {hp : List Blk} {lp : List Lp} {k : List A → List Blk → List Lp → Prop} (hk : k ts hp lp) : ∃ ts2 hp2 lp2, Wk nb nl ts hp lp ts2 hp2 lp2 ∧ k ts2 hp2 lp2 := ⟨ts, hp, lp, .refl .., hk⟩
theorem wk_mask {nb nl : Nat} {ts : List A} {hp : List Blk} {lp : List Lp} {k : List A → List Blk → List Lp → Prop} (tm : List Bool) (ts2 : List A) (h : maskT ts tm = ts2) (hk : k ts2 hp lp) : ∃ ts2 hp2 lp2, Wk nb nl ts hp lp ts2 hp2 lp2 ∧ k ts2 hp2 lp2 := ⟨ts2, hp, lp, h ▸ .mask tm, hk⟩
/-- Temporaries, told by their numbers. -/
noncomputable def mkT (n : Nat) (l : List (Nat × A)) : List A := List.rec (motive := fun _ => List A) (List.replicate n .un) (fun q _ ih => match q with | (i, a) => ih.set i a) l

noncomputable def tabJ (n : Nat) (i : Nat) (j : Nat → A) : List A := Nat.rec (motive := fun _ => Nat → List A) (fun _ => []) (fun _ ih i => j i :: ih (i + 1)) n i
/-- Temporaries, told by their numbers; of the others nothing is said. -/
noncomputable def mkJ (n : Nat) (l : List (Nat × A)) (j : Nat → A) : List A := List.rec (motive := fun _ => List A) (tabJ n 0 j) (fun q _ ih => match q with | (i, a) => ih.set i a) l
theorem useJ {K : K} {e : Ex} {ts : List A} {hp : List Blk} {lp : List Lp} {n : Nat} {l : List (Nat × A)} (h : ∀ j, K e (mkJ n l j) hp lp) (he : ts = mkJ n l (fun i => ts.getD i .un)) : K e ts hp lp := by
  rw [he]; exact h _
noncomputable def memB (f : Nat) (L : List Nat) : Bool := List.rec (motive := fun _ => Bool) false (fun g _ ih => match Nat.beq f g with | true => true | false => ih) L
end Go.YtoeophdffhmpmaaE
