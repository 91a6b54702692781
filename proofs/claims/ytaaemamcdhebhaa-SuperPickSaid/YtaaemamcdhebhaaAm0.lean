/- Am0: part of a calculus over an abstract machine that stands beside the model, and contracts of functions by it.
Conditions: what each theorem says of its arguments. -/
import Derived.Calls
import Derived.Orders
import Derived.LoopN
namespace Go.Am

theorem beqF {n m : Nat} (h : n ≠ m) : Nat.beq n m = false := by
  cases e : Nat.beq n m with
  | false => rfl
  | true => exact absurd (Nat.eq_of_beq_eq_true e) h
theorem beqT {n m : Nat} (h : n = m) : Nat.beq n m = true := by subst h; exact Nat.beq_refl n
/- A binary trie over numbers. -/
inductive Tr (α : Type) where
  | leaf
  | node (v : Option α) (l r : Tr α)

namespace Tr
variable {α : Type}
def get : Tr α → Nat → Option α
  | .leaf, _ => none
  | .node v l r, n => cond (Nat.beq n 0) v (cond (Nat.beq (Nat.mod n 2) 1) (l.get (Nat.div n 2)) (r.get (Nat.pred (Nat.div n 2))))
def setF : Nat → Tr α → Nat → Option α → Tr α
  | 0, t, _, _ => t
  | f + 1, .leaf, n, v => cond (Nat.beq n 0) (.node v .leaf .leaf) (cond (Nat.beq (Nat.mod n 2) 1) (.node none (setF f .leaf (Nat.div n 2) v) .leaf) (.node none .leaf (setF f .leaf (Nat.pred (Nat.div n 2)) v)))
  | f + 1, .node u l r, n, v => cond (Nat.beq n 0) (.node v l r) (cond (Nat.beq (Nat.mod n 2) 1) (.node u (setF f l (Nat.div n 2) v) r) (.node u l (setF f r (Nat.pred (Nat.div n 2)) v)))
def set (t : Tr α) (n : Nat) (v : Option α) : Tr α := setF (Nat.succ n) t n v

theorem get_leaf (n : Nat) : (Tr.leaf : Tr α).get n = none := rfl
theorem get_node (v : Option α) (l r : Tr α) (n : Nat) : (Tr.node v l r).get n = if n = 0 then v else if n % 2 = 1 then l.get (n / 2) else r.get (n / 2 - 1) := by
  show cond (Nat.beq n 0) v (cond (Nat.beq (n % 2) 1) (l.get (n / 2)) (r.get (n / 2 - 1))) = _
  by_cases h : n = 0
  · subst h; rfl
  · rw [if_neg h, beqF h]
    by_cases h2 : n % 2 = 1
    · rw [if_pos h2, beqT h2]; rfl
    · rw [if_neg h2, beqF h2]; rfl

theorem setF_leaf (f n : Nat) (v : Option α) : setF (f + 1) .leaf n v = if n = 0 then .node v .leaf .leaf else if n % 2 = 1 then .node none (setF f .leaf (n / 2) v) .leaf else .node none .leaf (setF f .leaf (n / 2 - 1) v) := by
  show cond (Nat.beq n 0) (Tr.node v .leaf .leaf) (cond (Nat.beq (n % 2) 1) (.node none (setF f .leaf (n / 2) v) .leaf) (.node none .leaf (setF f .leaf (n / 2 - 1) v))) = _
  by_cases h : n = 0
  · subst h; rfl
  · rw [if_neg h, beqF h]
    by_cases h2 : n % 2 = 1
    · rw [if_pos h2, beqT h2]; rfl
    · rw [if_neg h2, beqF h2]; rfl
theorem setF_node (f n : Nat) (u v : Option α) (l r : Tr α) : setF (f + 1) (.node u l r) n v = if n = 0 then .node v l r else if n % 2 = 1 then .node u (setF f l (n / 2) v) r else .node u l (setF f r (n / 2 - 1) v) := by
  show cond (Nat.beq n 0) (Tr.node v l r) (cond (Nat.beq (n % 2) 1) (.node u (setF f l (n / 2) v) r) (.node u l (setF f r (n / 2 - 1) v))) = _
  by_cases h : n = 0
  · subst h; rfl
  · rw [if_neg h, beqF h]
    by_cases h2 : n % 2 = 1
    · rw [if_pos h2, beqT h2]; rfl
    · rw [if_neg h2, beqF h2]; rfl

theorem get_setF (f : Nat) : ∀ (t : Tr α) (n m : Nat) (v : Option α), n < f → (setF f t n v).get m = if m = n then v else t.get m := by
  induction f with
  | zero => intro t n m v h; omega
  | succ f ih =>
    intro t n m v h
    cases t with
    | leaf =>
      rw [setF_leaf]
      by_cases hn : n = 0
      · subst hn; rw [if_pos rfl, get_node]
        by_cases hm : m = 0 <;> simp [hm, get_leaf]
      · rw [if_neg hn]
        by_cases h2 : n % 2 = 1
        · rw [if_pos h2, get_node, ih _ _ _ _ (by omega), get_leaf, get_leaf, get_leaf]
          by_cases hm : m = 0
          · subst hm; simp; omega
          · rw [if_neg hm]
            by_cases hm2 : m % 2 = 1
            · rw [if_pos hm2]
              by_cases e : m = n
              · subst e; simp
              · rw [if_neg e, if_neg (by omega)]
            · rw [if_neg hm2, if_neg (by omega)]
        · rw [if_neg h2, get_node, ih _ _ _ _ (by omega), get_leaf, get_leaf, get_leaf]
          by_cases hm : m = 0
          · subst hm; simp; omega
          · rw [if_neg hm]
            by_cases hm2 : m % 2 = 1
            · rw [if_pos hm2, if_neg (by omega)]
            · rw [if_neg hm2]
              by_cases e : m = n
              · subst e; simp
              · rw [if_neg e, if_neg (by omega)]
    | node u l r =>
      rw [setF_node]
      by_cases hn : n = 0
      · subst hn; rw [if_pos rfl, get_node, get_node]
        by_cases hm : m = 0 <;> simp [hm]
      · rw [if_neg hn]
        by_cases h2 : n % 2 = 1
        · rw [if_pos h2, get_node, get_node, ih _ _ _ _ (by omega)]
          by_cases hm : m = 0
          · subst hm; rw [if_pos rfl, if_pos rfl, if_neg (by omega)]
          · rw [if_neg hm, if_neg hm]
            by_cases hm2 : m % 2 = 1
            · rw [if_pos hm2, if_pos hm2]
              by_cases e : m = n
              · subst e; simp
              · rw [if_neg e, if_neg (by omega)]
            · rw [if_neg hm2, if_neg hm2, if_neg (by omega)]
        · rw [if_neg h2, get_node, get_node, ih _ _ _ _ (by omega)]
          by_cases hm : m = 0
          · subst hm; rw [if_pos rfl, if_pos rfl, if_neg (by omega)]
          · rw [if_neg hm, if_neg hm]
            by_cases hm2 : m % 2 = 1
            · rw [if_pos hm2, if_pos hm2, if_neg (by omega)]
            · rw [if_neg hm2, if_neg hm2]
              by_cases e : m = n
              · subst e; simp
              · rw [if_neg e, if_neg (by omega)]

theorem get_set (t : Tr α) (n m : Nat) (v : Option α) : (t.set n v).get m = if m = n then v else t.get m := get_setF _ _ _ _ _ (Nat.lt_succ_self n)
theorem get_set_eq (t : Tr α) (n : Nat) (v : Option α) : (t.set n v).get n = v := by rw [get_set, if_pos rfl]
theorem get_set_ne (t : Tr α) {n m : Nat} (v : Option α) (h : m ≠ n) : (t.set n v).get m = t.get m := by rw [get_set, if_neg h]
end Tr

/- Lists. -/
def nth {α : Type} : List α → Nat → Option α
  | [], _ => none
  | x :: _, 0 => some x
  | _ :: l, n + 1 => nth l n
def takeN {α : Type} : Nat → List α → Option (List α)
  | 0, _ => some []
  | _ + 1, [] => none
  | n + 1, x :: l => match takeN n l with
    | some r => some (x :: r)
    | none => none
def dropN {α : Type} : Nat → List α → List α
  | 0, l => l
  | _ + 1, [] => []
  | n + 1, _ :: l => dropN n l
def over {α : Type} : List α → List α → Option (List α)
  | l, [] => some l
  | [], _ :: _ => none
  | _ :: l, v :: vs => match over l vs with
    | some r => some (v :: r)
    | none => none
def splice {α : Type} : List α → Nat → List α → Option (List α)
  | l, 0, vs => over l vs
  | [], _ + 1, _ => none
  | x :: l, n + 1, vs => match splice l n vs with
    | some r => some (x :: r)
    | none => none
def reps {α : Type} (z : List α) : Nat → List α
  | 0 => []
  | n + 1 => z ++ reps z n
/-- Is the list of just so many? -/
def lenIs {α : Type} : List α → Nat → Bool
  | [], 0 => true
  | _ :: l, n + 1 => lenIs l n
  | _, _ => false

theorem nth_eq {α : Type} : ∀ (l : List α) (n : Nat), nth l n = l[n]?
  | [], n => by simp [nth]
  | x :: l, 0 => by simp [nth]
  | x :: l, n + 1 => by simp [nth, nth_eq l n]
theorem takeN_eq {α : Type} : ∀ (n : Nat) (l : List α), takeN n l = if n ≤ l.length then some (l.take n) else none
  | 0, l => by simp [takeN]
  | n + 1, [] => by simp [takeN]
  | n + 1, x :: l => by
    simp only [takeN, takeN_eq n l]
    by_cases h : n ≤ l.length
    · rw [if_pos h, if_pos (by simp; omega)]; simp
    · rw [if_neg h, if_neg (by simp; omega)]
theorem dropN_eq {α : Type} : ∀ (n : Nat) (l : List α), dropN n l = l.drop n
  | 0, l => by simp [dropN]
  | n + 1, [] => by simp [dropN]
  | n + 1, x :: l => by simp [dropN, dropN_eq n l]
theorem over_eq {α : Type} : ∀ (l vs : List α), over l vs = if vs.length ≤ l.length then some (vs ++ l.drop vs.length) else none
  | l, [] => by cases l <;> simp [over]
  | [], v :: vs => by simp [over]
  | x :: l, v :: vs => by
    simp only [over, over_eq l vs]
    by_cases h : vs.length ≤ l.length
    · rw [if_pos h, if_pos (by simp; omega)]; simp
    · rw [if_neg h, if_neg (by simp; omega)]
theorem splice_eq {α : Type} : ∀ (l : List α) (n : Nat) (vs : List α), splice l n vs = if n + vs.length ≤ l.length then some (l.take n ++ vs ++ l.drop (n + vs.length)) else none
  | l, 0, vs => by cases l <;> simp [splice, over_eq]
  | [], n + 1, vs => by simp [splice]
  | x :: l, n + 1, vs => by
    simp only [splice, splice_eq l n vs]
    by_cases h : n + vs.length ≤ l.length
    · rw [if_pos h, if_pos (by simp; omega)]; simp [Nat.add_right_comm]
    · rw [if_neg h, if_neg (by simp; omega)]
theorem lenIs_iff {α : Type} : ∀ (l : List α) (n : Nat), lenIs l n = true ↔ l.length = n
  | [], 0 => by simp [lenIs]
  | [], n + 1 => by simp [lenIs]
  | x :: l, 0 => by simp [lenIs]
  | x :: l, n + 1 => by simp [lenIs, lenIs_iff l n]

/- The abstract memory: rows of cells by number. -/
structure AObj where
  cells : List Value
  own : Bool
structure Heap where
  objs : Tr AObj
  next : Nat
  low : Nat
def Heap.get (h : Heap) (i : Nat) : Option AObj := h.objs.get i
def Heap.push (h : Heap) (o : AObj) : Heap := ⟨h.objs.set h.next (some o), Nat.succ h.next, h.low⟩
def Heap.put (h : Heap) (i : Nat) (o : Option AObj) : Heap := ⟨h.objs.set i o, h.next, cond (Nat.ble h.low i) h.low i⟩

/-- Capacities: one that is known (even), one that is not, of elements of e cells (odd). -/
def exc (c : Nat) : Nat := Nat.mul 2 c
def unkc (e : Nat) : Nat := Nat.succ (Nat.mul 2 e)
def isUnk (c : Nat) : Bool := Nat.beq (Nat.mod c 2) 1
def half (c : Nat) : Nat := Nat.div c 2

/-- A value without an address. -/
def isCell : Value → Bool
  | .agg _ | .tuple _ => false
  | _ => true
def closedC : Value → Bool
  | .bool _ | .int _ _ | .string _ | .pointer none | .slice none _ _ | .nilFunc | .nilIface => true
  | _ => false
def closedL : List Value → Bool
  | [] => true
  | v :: l => cond (closedC v) (closedL l) false
def closedV : Value → Bool
  | .agg cs => closedL cs.toList
  | v => closedC v

def ev (T : Tr Value) : Operand → Option Value
  | .tmp t => T.get t
  | .const v => cond (closedV v) (some v) none
  | .global _ => none
  | .func f => some (.func (.func f) #[] #[])
def evs (T : Tr Value) : List Operand → Option (List Value)
  | [] => some []
  | x :: l => match ev T x with
    | some v => (match evs T l with | some r => some (v :: r) | none => none)
    | none => none
def evo (T : Tr Value) : Option Operand → Option (Option Value)
  | none => some none
  | some x => match ev T x with
    | some v => some (some v)
    | none => none
def evps (T : Tr Value) : List (Nat × Operand) → Option (List (Nat × Value))
  | [] => some []
  | (i, x) :: l => match ev T x with
    | some v => (match evps T l with | some r => some ((i, v) :: r) | none => none)
    | none => none

/-- A whole number brought into its kind. -/
def fwrap (k : IntKind) (n : Int) : Int :=
  match n with
  | .ofNat m => (match k with
    | .i64 | .u64 => cond (Nat.ble m 9223372036854775807) n (k.wrap n)
    | .u8 => cond (Nat.ble m 255) n (k.wrap n)
    | .u32 => cond (Nat.ble m 4294967295) n (k.wrap n)
    | _ => k.wrap n)
  | .negSucc m => (match k with
    | .i64 => cond (Nat.ble m 9223372036854775807) n (k.wrap n)
    | _ => k.wrap n)

/-- The cells of a value. -/
def cellsOf (v : Value) : List Value :=
  match v with
  | .agg cs => cs.toList
  | v => [v]
/-- Parts laid into cells, in turn. -/
def afill (place : Nat → Option (Nat × Nat)) : List Value → List (Nat × Value) → Option (List Value)
  | cs, [] => some cs
  | cs, (i, v) :: rest => match place i with
    | none => none
    | some (off, size) => cond (lenIs (cellsOf v) size) (match splice cs off (cellsOf v) with
      | some cs' => afill place cs' rest
      | none => none) none

def isAgg (P : Program) (t : TypeId) : Option Bool :=
  match P.underlying t with
  | some (.struct _) | some (.array _ _) => some true
  | some _ => some false
  | none => none
def sizeOf (P : Program) (t : TypeId) : Option Nat :=
  match P.info? t with
  | some i => some i.size
  | none => none
def zeroOf (P : Program) (t : TypeId) : Option Value :=
  match P.info? t with
  | some i => (match i.zero with | some z => cond (closedV z) (some z) none | none => none)
  | none => none
/-- A part of a row of cells, as a value. -/
def apart (P : Program) (t : TypeId) (cs : List Value) (off : Nat) : Option Value :=
  match isAgg P t with
  | some true => (match sizeOf P t with
    | some n => (match takeN n (dropN off cs) with | some l => some (.agg ⟨l⟩) | none => none)
    | none => none)
  | some false => nth cs off
  | none => none
def aload (P : Program) (h : Heap) (t : TypeId) (a : Addr) : Option Value :=
  match a.spot with
  | some _ => none
  | none => match h.get a.block with
    | some o => apart P t o.cells a.off
    | none => none
def allCells : List Value → Bool
  | [] => true
  | v :: l => cond (isCell v) (allCells l) false
def astoreL (h : Heap) (a : Addr) (vs : List Value) : Option Heap :=
  match a.spot with
  | some _ => none
  | none => match h.get a.block with
    | some o => cond o.own (cond (allCells vs) (match splice o.cells a.off vs with
      | some cs => some (h.put a.block (some ⟨cs, true⟩))
      | none => none) none) none
    | none => none
def astore (P : Program) (h : Heap) (t : TypeId) (a : Addr) (v : Value) : Option Heap :=
  match sizeOf P t with
  | some n => cond (lenIs (cellsOf v) n) (astoreL h a (cellsOf v)) none
  | none => none
def anew (h : Heap) (cs : List Value) : Value × Heap := (.pointer (some ⟨h.next, 0, none⟩), h.push ⟨cs, true⟩)

def addrAdd (a : Addr) (n : Nat) : Addr := ⟨a.block, Nat.add a.off n, none⟩

/-- Whole numbers: + - * / % & | ^ &^ << >> and comparisons. -/
def abin (op : BinOp) (k : IntKind) (x : Int) (k' : IntKind) (y : Int) : Option Value :=
  match op with
  | .shl => cond (decide (y < 0)) none (some (.int k (fwrap k (x * 2 ^ (min y.toNat k.bits)))))
  | .shr => cond (decide (y < 0)) none (some (.int k (x.fdiv (2 ^ (min y.toNat k.bits)))))
  | _ => cond (decide (k = k')) (match op with
    | .add => some (.int k (fwrap k (x + y)))
    | .sub => some (.int k (fwrap k (x - y)))
    | .mul => some (.int k (fwrap k (x * y)))
    | .quo => cond (decide (y = 0)) none (some (.int k (fwrap k (x.tdiv y))))
    | .rem => cond (decide (y = 0)) none (some (.int k (x.tmod y)))
    | .and => some (.int k (k.wrap (BitVec.ofInt k.bits x &&& BitVec.ofInt k.bits y).toNat))
    | .or => some (.int k (k.wrap (BitVec.ofInt k.bits x ||| BitVec.ofInt k.bits y).toNat))
    | .xor => some (.int k (k.wrap (BitVec.ofInt k.bits x ^^^ BitVec.ofInt k.bits y).toNat))
    | .andNot => some (.int k (k.wrap (BitVec.ofInt k.bits x &&& ~~~ BitVec.ofInt k.bits y).toNat))
    | .eql => some (.bool (x == y))
    | .neq => some (.bool (x != y))
    | .lss => some (.bool (decide (x < y)))
    | .leq => some (.bool (decide (x ≤ y)))
    | .gtr => some (.bool (decide (x > y)))
    | .geq => some (.bool (decide (x ≥ y)))
    | _ => none) none

def isSlice (P : Program) (t : TypeId) : Bool := match P.underlying t with | some (.slice _) => true | _ => false
def isBool (P : Program) (t : TypeId) : Bool := match P.underlying t with | some .bool => true | _ => false
/-- '==' of whole numbers, bools, strings, and structs and arrays of them. -/
def aeqFields (P : Program) (eq : TypeId → Value → Value → Option Bool) (xs ys : List Value) : List Field → Option Bool
  | [] => some true
  | f :: fs => cond (f.name != "_") (match apart P f.type xs f.offset, apart P f.type ys f.offset with
    | some a, some b => (match eq f.type a b with
      | some true => aeqFields P eq xs ys fs
      | some false => some false
      | none => none)
    | _, _ => none) none
def aeqItems (P : Program) (eq : TypeId → Value → Value → Option Bool) (e : TypeId) (s : Nat) (xs ys : List Value) : List Nat → Option Bool
  | [] => some true
  | i :: is => match apart P e xs (Nat.mul i s), apart P e ys (Nat.mul i s) with
    | some a, some b => (match eq e a b with
      | some true => aeqItems P eq e s xs ys is
      | some false => some false
      | none => none)
    | _, _ => none
def aeqv (P : Program) : Nat → TypeId → Value → Value → Option Bool
  | 0, _, _, _ => none
  | d + 1, t, x, y => match P.underlying t, x, y with
    | some .bool, .bool a, .bool b => some (a == b)
    | some (.int _), .int k a, .int k' b => cond (decide (k = k')) (some (a == b)) none
    | some .string, .string a, .string b => some (a.data.toList == b.data.toList)
    | some (.struct fs), .agg xs, .agg ys => cond (P.stoodInHeld t) none (aeqFields P (aeqv P d) xs.toList ys.toList fs.toList)
    | some (.array n e), .agg xs, .agg ys => (match P.info? e with
      | some _ => aeqItems P (aeqv P d) e (P.cellsOf e) xs.toList ys.toList (List.range n)
      | none => none)
    | _, _, _ => none

def aequal (P : Program) (t : TypeId) (x y : Value) : Option Bool :=
  match x, y with
  | .bool a, .bool b => cond (isBool P t) (some (a == b)) none
  | .slice none _ _, .slice b _ _ => cond (isSlice P t) (some b.isNone) none
  | .slice (some _) _ _, .slice none _ _ => cond (isSlice P t) (some false) none
  | .agg xs, .agg ys => cond (P.eqGuardType P.depth t) none (aeqv P 8 t (.agg xs) (.agg ys))
  | _, _ => none

def eqOp (op : BinOp) (r : Option Bool) : Option Value :=
  match op, r with
  | .eql, some b => some (.bool b)
  | .neq, some b => some (.bool (!b))
  | _, _ => none
def abinop (P : Program) (op : BinOp) (t : TypeId) (x y : Value) : Option Value :=
  match x, y with
  | .int k a, .int k' b => abin op k a k' b
  | .string a, .string b => (match op with
    | .eql => some (.bool (a.data.toList == b.data.toList))
    | .neq => some (.bool (!(a.data.toList == b.data.toList)))
    | _ => none)
  | x, y => eqOp op (aequal P t x y)

def aunop (op : UnOp) (x : Value) : Option Value :=
  match op, x with
  | .not, .bool b => some (.bool (!b))
  | .neg, .int k n => some (.int k (fwrap k (0 - n)))
  | .xor, .int k n => some (.int k (k.wrap (BitVec.ofInt k.bits (if k.signed then -1 else k.max) ^^^ BitVec.ofInt k.bits n).toNat))
  | _, _ => none

def aconvert (P : Program) (src dst : TypeId) (x : Value) : Option Value :=
  match P.underlying src, P.underlying dst, x with
  | some _, some (.int k), .int _ n => some (.int k (fwrap k n))
  | _, _, _ => none

/-- A bound of a slice expression: between 0 and y. -/
def abound (x : Value) (y : Nat) : Option Nat :=
  match x with
  | .int _ (.ofNat n) => cond (Nat.ble n y) (some n) none
  | _ => none
def abounds (len cap : Nat) (lo hi mx : Option Value) : Option (Nat × Nat × Nat) :=
  match (match mx with | some v => abound v cap | none => some cap) with
  | none => none
  | some m => match (match hi with | some v => abound v m | none => (match mx with | some _ => none | none => some len)) with
    | none => none
    | some h => match (match lo with | some v => abound v h | none => some 0) with
      | none => none
      | some l => some (l, h, m)
def aslice (P : Program) (t : TypeId) (x : Value) (lo hi mx : Option Value) : Option Value :=
  match P.underlying t, x with
  | some (.array n e), .pointer (some a) => (match a.spot, abounds n n lo hi mx, sizeOf P e with
    | none, some (l, h, m), some s => some (.slice (some (cond (Nat.beq m l) a (addrAdd a (Nat.mul l s)))) (Nat.sub h l) (exc (Nat.sub m l)))
    | _, _, _ => none)
  | some .string, .string s => (match mx, abounds s.size s.size lo hi none with
    | none, some (l, h, _) => some (.string (s.extract l h))
    | _, _ => none)
  | some (.slice e), .slice none 0 0 => (match abounds 0 0 lo hi mx, sizeOf P e with
    | some (_, _, _), some _ => some (.slice none 0 0)
    | _, _ => none)
  | some (.slice e), .slice (some a) len cap => (match a.spot, sizeOf P e with
    | none, some s => cond (isUnk cap)
      (cond (Nat.beq (half cap) s) (match mx with
        | none => (match abounds len len lo hi none with
          | some (l, h, _) => some (.slice (some (addrAdd a (Nat.mul l s))) (Nat.sub h l) cap)
          | none => none)
        | some _ => cond (Nat.ble 1 len) (match abounds len len lo hi mx with
          | some (l, h, m) => some (.slice (some (cond (Nat.beq m l) a (addrAdd a (Nat.mul l s)))) (Nat.sub h l) (exc (Nat.sub m l)))
          | none => none) none) none)
      (match abounds len (half cap) lo hi mx with
        | some (l, h, m) => some (.slice (some (cond (Nat.beq m l) a (addrAdd a (Nat.mul l s)))) (Nat.sub h l) (exc (Nat.sub m l)))
        | none => none)
    | _, _ => none)
  | _, _ => none

def aindexAddr (P : Program) (t : TypeId) (x i : Value) : Option Value :=
  match i with
  | .int _ (.ofNat n) => (match P.underlying t, x with
    | some (.array len e), .pointer (some a) => cond (Nat.ble (Nat.succ n) len) (match a.spot, sizeOf P e with
      | none, some s => some (.pointer (some (addrAdd a (Nat.mul n s))))
      | _, _ => none) none
    | some (.slice e), .slice (some a) len _ => cond (Nat.ble (Nat.succ n) len) (match a.spot, sizeOf P e with
      | none, some s => some (.pointer (some (addrAdd a (Nat.mul n s))))
      | _, _ => none) none
    | _, _ => none)
  | _ => none
def aindex (P : Program) (t : TypeId) (x i : Value) : Option Value :=
  match i with
  | .int _ (.ofNat n) => (match P.underlying t, x with
    | some (.array len e), .agg cs => cond (Nat.ble (Nat.succ n) len) (match sizeOf P e with
      | some s => apart P e cs.toList (Nat.mul n s)
      | none => none) none
    | some .string, .string s => (match s.data.toList[n]? with
      | some b => some (.int .u8 b.toNat)
      | none => none)
    | _, _ => none)
  | _ => none
def afieldAddr (P : Program) (t : TypeId) (x : Value) (f : Nat) : Option Value :=
  match P.underlying t, x with
  | some (.struct fs), .pointer (some a) => (match fs.toList[f]?, a.spot with
    | some fd, none => (match sizeOf P fd.type with
      | some (_ + 1) => some (.pointer (some (addrAdd a fd.offset)))
      | _ => none)
    | _, _ => none)
  | _, _ => none
def afield (P : Program) (t : TypeId) (x : Value) (f : Nat) : Option Value :=
  match P.underlying t, x with
  | some (.struct fs), .agg cs => (match fs.toList[f]? with
    | some fd => apart P fd.type cs.toList fd.offset
    | none => none)
  | _, _ => none

def infosOk (P : Program) : List Field → Bool
  | [] => true
  | f :: l => match P.info? f.type with
    | some _ => infosOk P l
    | none => false
def placeOf (P : Program) (fs : List Field) (i : Nat) : Option (Nat × Nat) :=
  match fs[i]? with
  | some f => some (f.offset, P.cellsOf f.type)
  | none => none
def abuild (P : Program) (t : TypeId) (parts : List (Nat × Value)) : Option Value :=
  match zeroOf P t with
  | none => none
  | some z => match P.underlying t with
    | some (.struct fs) => cond (infosOk P fs.toList)
      (match afill (placeOf P fs.toList) (cellsOf z) parts with
        | some cs => some (.agg ⟨cs⟩)
        | none => none) none
    | some (.array _ e) => (match sizeOf P e with
      | some s => (match afill (fun i => some (Nat.mul i s, s)) (cellsOf z) parts with
        | some cs => some (.agg ⟨cs⟩)
        | none => none)
      | none => none)
    | _ => none
def abuildSlice (P : Program) (h : Heap) (t : TypeId) (len : Nat) (parts : List (Nat × Value)) : Option (Value × Heap) :=
  match P.underlying t with
  | some (.slice e) => (match sizeOf P e, zeroOf P e with
    | some s, some z => cond (Nat.ble (Nat.mul len s) 16777216) (cond (lenIs (cellsOf z) s) (match afill (fun i => some (Nat.mul i s, s)) (reps (cellsOf z) len) parts with
      | some cs => some (.slice (some ⟨h.next, 0, none⟩) len (exc len), h.push ⟨cs, true⟩)
      | none => none) none) none
    | _, _ => none)
  | _ => none
def amakeSlice (P : Program) (h : Heap) (t : TypeId) (l c : Value) : Option (Value × Heap) :=
  match P.underlying t, l, c with
  | some (.slice e), .int _ (.ofNat n), .int _ (.ofNat m) => (match P.info? e, zeroOf P e with
    | some i, some z => cond (lenIs (cellsOf z) i.size) (cond (Nat.ble n m) (cond (Nat.ble (Nat.mul i.bytes m) 281474976710656) (cond (Nat.ble m 9223372036854775807)
      (some (.slice (some ⟨h.next, 0, none⟩) n (exc m), h.push ⟨reps (cellsOf z) m, true⟩)) none) none) none) none
    | _, _ => none)
  | _, _, _ => none

/-- The first n cells behind an address. -/
def aread (h : Heap) (a : Addr) (n : Nat) : Option (List Value) :=
  match a.spot with
  | some _ => none
  | none => match h.get a.block with
    | some o => takeN n (dropN a.off o.cells)
    | none => none
def strCells (s : ByteArray) : List Value := s.data.toList.map fun b => .int .u8 b.toNat
/-- What a slice (or a string) holds: of elements of s cells. -/
def asrc (h : Heap) (s : Nat) : Value → Option (Nat × List Value)
  | .slice none 0 0 => some (0, [])
  | .slice (some a) n _ => (match aread h a (Nat.mul n s) with | some l => some (n, l) | none => none)
  | _ => none

def aappend (P : Program) (h : Heap) (t t2 : TypeId) (x y : Value) : Option (Value × Heap) :=
  match P.underlying t, cond (Nat.beq t t2) (some ()) none with
  | some (.slice e), some () => (match P.info? e, zeroOf P e with
    | some i, some z => cond (lenIs (cellsOf z) i.size) (cond (Nat.ble 1 i.size) (match asrc h i.size y with
      | some (0, _) => (match x with
        | .slice none 0 0 => some (x, h)
        | .slice (some a) _ _ => (match a.spot with | none => some (x, h) | some _ => none)
        | _ => none)
      | some (m + 1, news) => (match x with
        | .slice none 0 0 => cond (Nat.ble (Nat.mul (Nat.mul 2 (Nat.succ m)) i.bytes) 281474976710656) (cond (Nat.ble (Nat.succ m) 9223372036854775807)
            (some (.slice (some ⟨h.next, 0, none⟩) (Nat.succ m) (unkc i.size), h.push ⟨news, true⟩)) none) none
        | .slice (some a) n c => (match aread h a (Nat.mul n i.size) with
          | some olds => cond (Nat.ble (Nat.mul (Nat.mul 2 (Nat.add n (Nat.succ m))) i.bytes) 281474976710656) (cond (Nat.ble (Nat.add n (Nat.succ m)) 9223372036854775807)
            (cond (isUnk c)
              (cond (Nat.beq (half c) i.size) (match h.get a.block with
                | some o => cond o.own (cond (lenIs o.cells (Nat.add a.off (Nat.mul n i.size))) (cond (allCells news)
                    (some (.slice (some ⟨h.next, 0, none⟩) (Nat.add n (Nat.succ m)) (unkc i.size), (h.put a.block none).push ⟨olds ++ news, true⟩)) none) none) none
                | none => none) none)
              (cond (Nat.ble (Nat.add n (Nat.succ m)) (half c))
                (match astoreL h (addrAdd a (Nat.mul n i.size)) news with
                  | some h' => some (.slice (some a) (Nat.add n (Nat.succ m)) c, h')
                  | none => none)
                (some (.slice (some ⟨h.next, 0, none⟩) (Nat.add n (Nat.succ m)) (unkc i.size), h.push ⟨olds ++ news, true⟩)))) none) none
          | none => none)
        | _ => none)
      | none => none) none) none
    | _, _ => none)
  | _, _ => none

def acopy (P : Program) (h : Heap) (t : TypeId) (x y : Value) : Option (Value × Heap) :=
  match P.underlying t with
  | some (.slice e) => (match sizeOf P e with
    | some 1 => (match x, y with
      | .slice da dn _, .string s => (match Nat.min s.data.toList.length dn with
        | 0 => some (goInt 0, h)
        | n + 1 => (match da with
          | some d => (match takeN (Nat.succ n) (strCells s) with
            | some cs => (match astoreL h d cs with
              | some h' => some (goInt (Nat.succ n), h')
              | none => none)
            | none => none)
          | none => none))
      | .slice da dn _, .slice sa sn _ => (match Nat.min sn dn with
        | 0 => some (goInt 0, h)
        | n + 1 => (match da, sa with
          | some d, some s => (match aread h s (Nat.succ n) with
            | some cs => (match astoreL h d cs with
              | some h' => some (goInt (Nat.succ n), h')
              | none => none)
            | none => none)
          | _, _ => none))
      | _, _ => none)
    | _ => none)
  | _ => none

def aclear (P : Program) (h : Heap) (t : TypeId) (x : Value) : Option (Value × Heap) :=
  match P.underlying t, x with
  | some (.slice _), .slice none _ _ => some (.tuple #[], h)
  | some (.slice e), .slice (some a) n _ => (match n with
    | 0 => some (.tuple #[], h)
    | n + 1 => (match zeroOf P e with
      | some z => (match astoreL h a (reps (cellsOf z) (Nat.succ n)) with
        | some h' => some (.tuple #[], h')
        | none => none)
      | none => none))
  | _, _ => none

def bytesOf : List Value → Option (List Int)
  | [] => some []
  | .int .u8 n :: l => (match bytesOf l with | some r => some (n :: r) | none => none)
  | _ :: _ => none
def mkStr (ns : List Int) : ByteArray := ns.foldl (fun r n => r.push (UInt8.ofNat n.toNat)) ByteArray.empty
def abytes (P : Program) (h : Heap) (src dst : TypeId) (x : Value) : Option Value :=
  match P.underlying src, P.underlying dst, x with
  | some (.slice e), some .string, .slice a n _ => (match P.underlying e with
    | some (.int .u8) => (match a with
      | none => some (.string .empty)
      | some ad => (match aread h ad n with
        | some l => (match bytesOf l with
          | some ns => some (.string (mkStr ns))
          | none => none)
        | none => none))
    | _ => none)
  | _, _, _ => none

def alen (P : Program) (t : TypeId) (x : Value) : Option Value :=
  match P.underlying t, x with
  | some .string, .string s => some (goInt s.size)
  | some (.array n _), _ => some (goInt n)
  | some (.slice _), .slice _ n _ => some (goInt n)
  | _, _ => none

/-- What a call asks of its callee. -/
abbrev CallF := FuncId → List Value → Heap → Option (Value × Heap)

def acallv (callf : CallF) (T : Tr Value) (f : Operand) (args : List Operand) (h : Heap) : Option (Value × Heap) :=
  match ev T f, evs T args with
  | some (.func (.func g) first captured), some vs => callf g (first.toList ++ (vs ++ captured.toList)) h
  | _, _ => none

def abuiltin (P : Program) (b : Builtin) (argTypes : List TypeId) (vs : List Value) (h : Heap) : Option (Value × Heap) :=
  match b with
  | .append => (match argTypes, vs with
    | [t, t2], [x, y] => aappend P h t t2 x y
    | _, _ => none)
  | .copy => (match argTypes, vs with
    | t :: _ :: _, [x, y] => acopy P h t x y
    | _, _ => none)
  | .clear => (match argTypes, vs with
    | [t], [x] => aclear P h t x
    | _, _ => none)
  | .len => (match argTypes, vs with
    | t :: _, [x] => (match alen P t x with | some v => some (v, h) | none => none)
    | _, _ => none)
  | .min => (match vs with
    | [.int k a, .int k' b] => cond (decide (k = k')) (some (.int k (cond (decide (b < a)) b a), h)) none
    | _ => none)
  | .max => (match vs with
    | [.int k a, .int k' b] => cond (decide (k = k')) (some (.int k (cond (decide (b > a)) b a), h)) none
    | _ => none)
  | _ => none

def pureR (h : Heap) : Option Value → Option (Value × Heap)
  | some v => some (v, h)
  | none => none

def aop (P : Program) (callf : CallF) (T : Tr Value) (o : Oper) (h : Heap) : Option (Value × Heap) :=
  match o.op with
  | .move x | .assign x => pureR h (ev T x)
  | .pick c a b => (match ev T c with
    | some (.bool t) => pureR h (ev T (cond t a b))
    | _ => none)
  | .alloc e => (match zeroOf P e with
    | some z => some (anew h (cellsOf z))
    | none => none)
  | .box _ x => (match ev T x with
    | some v => some (anew h (cellsOf v))
    | none => none)
  | .build t ps => (match evps T ps.toList with
    | some l => pureR h (abuild P t l)
    | none => none)
  | .buildSlice t n ps => (match evps T ps.toList with
    | some l => abuildSlice P h t n l
    | none => none)
  | .load t a => (match ev T a with
    | some (.pointer (some a)) => pureR h (aload P h t a)
    | _ => none)
  | .store t a x => (match ev T a, ev T x with
    | some (.pointer (some a)), some v => (match astore P h t a v with | some h' => some (undef, h') | none => none)
    | _, _ => none)
  | .nilCheck x => (match ev T x with
    | some (.pointer (some a)) => some (.pointer (some a), h)
    | some (.func (.func f) a b) => some (.func (.func f) a b, h)
    | _ => none)
  | .binOp op t x y _ => (match ev T x, ev T y with
    | some a, some b => pureR h (abinop P op t a b)
    | _, _ => none)
  | .unOp op _ x => (match ev T x with
    | some a => pureR h (aunop op a)
    | none => none)
  | .convert s d x => (match ev T x with
    | some a => (match aconvert P s d a with
      | some v => some (v, h)
      | none => pureR h (abytes P h s d a))
    | none => none)
  | .makeFunc (.func f) first captured => (match evs T first.toList, evs T captured.toList with
    | some a, some b => some (.func (.func f) ⟨a⟩ ⟨b⟩, h)
    | _, _ => none)
  | .makeSlice t l c => (match ev T l, ev T c with
    | some a, some b => amakeSlice P h t a b
    | _, _ => none)
  | .slice t x lo hi mx => (match ev T x, evo T lo, evo T hi, evo T mx with
    | some v, some a, some b, some c => pureR h (aslice P t v a b c)
    | _, _, _, _ => none)
  | .fieldAddr t x f => (match ev T x with
    | some a => pureR h (afieldAddr P t a f)
    | none => none)
  | .field t x f => (match ev T x with
    | some a => pureR h (afield P t a f)
    | none => none)
  | .indexAddr t x i => (match ev T x, ev T i with
    | some a, some b => pureR h (aindexAddr P t a b)
    | _, _ => none)
  | .index t x i => (match ev T x, ev T i with
    | some a, some b => pureR h (aindex P t a b)
    | _, _ => none)
  | .extract x i => (match ev T x with
    | some (.tuple vs) => pureR h (nth vs.toList i)
    | _ => none)
  | .call c => (match c.callee with
    | .value f => acallv callf T f c.args.toList h
    | .builtin b => (match evs T c.args.toList with
      | some vs => abuiltin P b c.argTypes.toList vs h
      | none => none)
    | .invoke _ _ => none)
  | _ => none

end Go.Am

namespace Go.Am
/- What an operation looks at and writes. -/
inductive Fp where
  | none
  | rd (i : Nat)
  | wr (l : List Nat)
  | all (quiet : Bool)
def idsOf : List Value → List Nat
  | [] => []
  | .slice (some a) _ _ :: l => a.block :: idsOf l
  | _ :: l => idsOf l
def fpOf (T : Tr Value) (o : Oper) (quiet : Bool) : Fp :=
  match o.op with
  | .load _ a => (match ev T a with | some (.pointer (some a)) => .rd a.block | _ => .none)
  | .store _ a _ => (match ev T a with | some (.pointer (some a)) => .wr [a.block] | _ => .none)
  | .convert _ _ a => (match ev T a with | some (.slice (some a) _ _) => .rd a.block | _ => .none)
  | .call c => (match c.callee with
    | .builtin .append | .builtin .copy | .builtin .clear => (match evs T c.args.toList with | some vs => .wr (idsOf vs) | none => .none)
    | .builtin _ => .none
    | _ => .all quiet)
  | _ => .none
end Go.Am

namespace Go.Am
/- A region. -/
def aput (n : Nat) (T : Tr Value) (dst : Option Tmp) (v : Value) : Option (Tr Value) :=
  match dst with
  | none => some T
  | some d => cond (Nat.ble (Nat.succ d) n) (some (T.set d (some v))) none
def awanted (ops : List Oper) (T : Tr Value) (o : Oper) : Option Bool :=
  match o.guard with
  | none => some true
  | some (j, want) => (match nth ops j with
    | some oj => (match oj.dst with
      | some d => (match T.get d with
        | some (.bool b) => some (cond want b (!b))
        | some _ => some false
        | none => none)
      | none => some false)
    | none => some false)
def astep (P : Program) (callf : CallF) (n : Nat) (ops : List Oper) (T : Tr Value) (h : Heap) (o : Oper) : Option (Tr Value × Heap) :=
  match awanted ops T o with
  | none => none
  | some false => (match aput n T o.dst undef with | some T' => some (T', h) | none => none)
  | some true => (match aop P callf T o h with
    | some (v, h') => (match aput n T o.dst v with | some T' => some (T', h') | none => none)
    | none => none)
def aops (P : Program) (callf : CallF) (n : Nat) (ops : List Oper) : List Oper → Tr Value → Heap → Option (Tr Value × Heap)
  | [], T, h => some (T, h)
  | o :: l, T, h => match astep P callf n ops T h o with
    | some (T', h') => aops P callf n ops l T' h'
    | none => none

/- A region that draws its order: what must come ahead of what. -/
def bindsB (e : Edge) : Bool :=
  match e.ground with
  | .textOnly _ | .gcOnly _ => false
  | _ => true
def edgeMask (an : List Nat) (i : Nat) : List Edge → Nat
  | [] => 0
  | e :: l => cond (bindsB e) (cond (Nat.ble (Nat.succ e.on) i) (Nat.lor (Nat.lor (Nat.shiftLeft 1 e.on) (match nth an e.on with | some m => m | none => 0)) (edgeMask an i l)) (edgeMask an i l)) (edgeMask an i l)
def ancs : List Oper → Nat → List Nat → List Nat
  | [], _, an => an
  | o :: l, i, an => ancs l (Nat.succ i) (an ++ [edgeMask an i o.after.toList])
def kindOf (o : Oper) : Nat :=
  match o.op with
  | .load _ _ => 2
  | .convert _ _ _ => 2
  | .store _ _ _ => 3
  | .call c => (match c.callee with
    | .builtin .append | .builtin .copy | .builtin .clear => 3
    | .builtin _ => 0
    | _ => 4)
  | _ => 0
def confl : Nat → Nat → Bool
  | 2, 3 | 3, 2 | 3, 3 | 2, 4 | 4, 2 | 3, 4 | 4, 3 | 4, 4 => true
  | _, _ => false
/-- The pairs (i, j), i from 0 on, of an operation j that has the others of 'm' ahead of it; none: two that aren't apart are in no order. -/
def rowPairs (ops : Array Oper) (oj : Oper) (j m : Nat) : List Oper → Nat → Option (List (Nat × Nat))
  | [], _ => some []
  | o :: l, i => cond (Nat.ble j i) (some []) (match rowPairs ops oj j m l (Nat.succ i) with
    | none => none
    | some r => cond (Nat.testBit m i) (some r) (cond (o.apart ops oj) (cond (confl (kindOf o) (kindOf oj)) (some ((i, j) :: r)) (some r)) none))
def allPairs (ops : Array Oper) : List Oper → List Nat → Nat → Option (List (Nat × Nat))
  | [], _, _ => some []
  | _ :: _, [], _ => none
  | o :: l, m :: ms, j => match rowPairs ops o j m ops.toList 0, allPairs ops l ms (Nat.succ j) with
    | some a, some b => some (a ++ b)
    | _, _ => none
def edgesOk (i : Nat) : List Edge → Bool
  | [] => true
  | e :: l => cond (bindsB e) (cond (Nat.ble (Nat.succ e.on) i) (edgesOk i l) false) (edgesOk i l)
def allEdges : List Oper → Nat → Bool
  | [], _ => true
  | o :: l, i => cond (edgesOk i o.after.toList) (allEdges l (Nat.succ i)) false
def drawOk (ops : Array Oper) : Option (List (Nat × Nat)) := cond (allEdges ops.toList 0) (allPairs ops ops.toList (ancs ops.toList 0 []) 0) none

def memN (i : Nat) : List Nat → Bool
  | [] => false
  | j :: l => cond (Nat.beq i j) true (memN i l)
def anyN (l : List Nat) : List Nat → Bool
  | [] => false
  | j :: m => cond (memN j l) true (anyN l m)
def fpOk : Fp → Fp → Bool
  | .none, _ => true
  | _, .none => true
  | .rd _, .rd _ => true
  | .rd i, .wr l => !(memN i l)
  | .wr l, .rd i => !(memN i l)
  | .wr l, .wr m => !(anyN l m)
  | .rd _, .all q => q
  | .all q, .rd _ => q
  | .all q, .all r => q && r
  | .wr _, .all _ => false
  | .all _, .wr _ => false
def pairsOk (fs : List Fp) : List (Nat × Nat) → Bool
  | [] => true
  | (i, j) :: l => match nth fs i, nth fs j with
    | some f, some g => cond (fpOk f g) (pairsOk fs l) false
    | _, _ => false
def astepC (P : Program) (callf : CallF) (n : Nat) (ops : List Oper) (T : Tr Value) (h : Heap) (o : Oper) : Option (Tr Value × Heap × Fp) :=
  match awanted ops T o with
  | none => none
  | some false => (match aput n T o.dst undef with | some T' => some (T', h, .none) | none => none)
  | some true => (match aop P callf T o ⟨h.objs, h.next, h.next⟩ with
    | some (v, h') => (match aput n T o.dst v with
      | some T' => some (T', ⟨h'.objs, h'.next, cond (Nat.ble h.low h'.low) h.low h'.low⟩, fpOf T o (Nat.ble h.next h'.low))
      | none => none)
    | none => none)
def aopsC (P : Program) (callf : CallF) (n : Nat) (ops : List Oper) : List Oper → Tr Value → Heap → Option (Tr Value × Heap × List Fp)
  | [], T, h => some (T, h, [])
  | o :: l, T, h => match astepC P callf n ops T h o with
    | some (T', h', f) => (match aopsC P callf n ops l T' h' with
      | some (T'', h'', fs) => some (T'', h'', f :: fs)
      | none => none)
    | none => none
def aregion (P : Program) (callf : CallF) (n : Nat) (ops : Array Oper) (draw : Bool) (T : Tr Value) (h : Heap) : Option (Tr Value × Heap) :=
  match draw with
  | false => aops P callf n ops.toList ops.toList T h
  | true => (match drawOk ops with
    | none => none
    | some [] => aops P callf n ops.toList ops.toList T h
    | some (p :: ps) => (match aopsC P callf n ops.toList ops.toList T h with
      | some (T', h', fs) => cond (pairsOk fs (p :: ps)) (some (T', h')) none
      | none => none))

/- Code. -/
inductive AExit where
  | normal
  | exit (id : Nat)
  | ret
def iter (f : Tr Value → Heap → Option (AExit × Tr Value × Heap)) : Nat → Tr Value → Heap → Option (AExit × Tr Value × Heap)
  | 0, _, _ => none
  | k + 1, T, h => match f T h with
    | some (.normal, T', h') => iter f k T' h'
    | r => r
def acode (P : Program) (callf : CallF) (n K : Nat) : Code → Tr Value → Heap → Option (AExit × Tr Value × Heap)
  | .skip, T, h => some (.normal, T, h)
  | .region _ ops draw, T, h => (match aregion P callf n ops draw T h with
    | some (T', h') => some (.normal, T', h')
    | none => none)
  | .seq a b, T, h => (match acode P callf n K a T h with
    | some (.normal, T', h') => acode P callf n K b T' h'
    | r => r)
  | .cond c a b, T, h => (match ev T c with
    | some (.bool true) => acode P callf n K a T h
    | some (.bool false) => acode P callf n K b T h
    | _ => none)
  | .block id c, T, h => (match acode P callf n K c T h with
    | some (.exit i, T', h') => cond (Nat.beq i id) (some (.normal, T', h')) (some (.exit i, T', h'))
    | r => r)
  | .loop c, T, h => iter (acode P callf n K c) K T h
  | .exit id, T, h => some (.exit id, T, h)
  | .ret, T, h => some (.ret, T, h)
  | _, _, _ => none
def ares (P : Program) (T : Tr Value) (h : Heap) : List ResultVar → Option (List Value)
  | [] => some []
  | .tmp t :: l => (match T.get t, ares P T h l with
    | some v, some r => some (v :: r)
    | _, _ => none)
  | .cell a t :: l => (match T.get a with
    | some (.pointer (some ad)) => (match aload P h t ad, ares P T h l with
      | some v, some r => some (v :: r)
      | _, _ => none)
    | _ => none)
def aresults (P : Program) (fn : Func) (T : Tr Value) (h : Heap) : Option Value :=
  match ares P T h fn.results.toList with
  | some [v] => some v
  | some vs => some (.tuple ⟨vs⟩)
  | none => none
def argsT : List Value → Nat → Tr Value → Tr Value
  | [], _, T => T
  | v :: l, i, T => argsT l (Nat.succ i) (T.set i (some v))
/-- A call: the specs tell of some functions, the others are walked. -/
def acall (P : Program) (sp : FuncId → Option (List Value → Heap → Option (Value × Heap))) (K : Nat) : Nat → CallF
  | 0, _, _, _ => none
  | d + 1, f, args, h => match sp f with
    | some s => s args h
    | none => (match P.funcs[f]? with
      | some fn => (match fn.body with
        | some c => cond (Nat.ble args.length fn.ntmps) (match acode P (acall P sp K d) fn.ntmps K c (argsT args 0 .leaf) h with
          | some (.exit _, _, _) => none
          | some (_, T', h') => (match aresults P fn T' h' with
            | some v => some (v, h')
            | none => none)
          | none => none) none
        | none => none)
      | none => none)
end Go.Am
