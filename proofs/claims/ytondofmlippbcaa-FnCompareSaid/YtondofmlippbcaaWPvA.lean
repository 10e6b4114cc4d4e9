/- The pure layer: values, states, and the weakest precondition of Go code over them (definitions alone). -/
import Derived.Calls
import Derived.KernelRfl
set_option linter.unusedSimpArgs false
set_option linter.unusedVariables false
namespace Go.Pv

/-- One cell of data: slices are trees. -/
inductive D where
  | int (k : IntKind) (n : Int)
  | bool (b : Bool)
  | str (s : List UInt8)
  | sl (rows : List (List D))

/-- What a slot, or a cell of a box, holds. -/
inductive PV where
  | d (x : D)
  | nil
  | agg (cs : List D)
  | ptr (id off : Nat)
  | ept (row : List D)
  | own (id : Nat)
  | owp (id sz i off : Nat)
  | fn (f : FuncId) (first caps : List Nat)
  | tup (vs : List PV)
  | err (isNil : Bool)
  | unit
  | junk

/-- Memory of the call's own. -/
inductive Obj where
  | none
  | gone
  | box (cs : List PV)
  | row (e sz : Nat) (rows : List (List D))
  | frz (sz : Nat) (rows : List (List D))

/-- May it stand in one cell? -/
def cellB : PV → Bool
  | .d _ | .nil | .ptr _ _ | .ept _ | .own _ | .owp _ _ _ _ | .fn _ _ _ | .err _ => true
  | _ => false

def allCell : List PV → Bool
  | [] => true
  | x :: l => match cellB x with | true => allCell l | false => false

def ids : PV → List Nat
  | .ptr id _ | .own id | .owp id _ _ _ => [id]
  | .fn _ a b => a ++ b
  | .tup vs => idsL vs
  | _ => []
where idsL : List PV → List Nat
  | [] => []
  | x :: r => ids x ++ idsL r

def Obj.isRow : Obj → Bool
  | .row _ _ _ | .frz _ _ => true
  | _ => false

abbrev Fr := List (Nat × PV)
abbrev Ob := List (Nat × Obj)

def look {α : Type} (d : α) : List (Nat × α) → Nat → α
  | [], _ => d
  | (m, v) :: r, n => match Nat.beq m n with | true => v | false => look d r n

def force (v : PV) (K : PV → Prop) : Prop :=
  match v with
  | .d (.int k n) => K (.d (.int k n)) | .d (.bool b) => K (.d (.bool b)) | .d (.str s) => K (.d (.str s)) | .d (.sl r) => K (.d (.sl r))
  | .nil => K .nil | .agg cs => K (.agg cs) | .ptr i o => K (.ptr i o) | .ept r => K (.ept r) | .own i => K (.own i) | .owp a b c d => K (.owp a b c d)
  | .fn f a b => K (.fn f a b) | .tup vs => K (.tup vs) | .err b => K (.err b) | .unit => K .unit | .junk => K .junk

theorem force_eq (v : PV) (K : PV → Prop) : force v K = K v := by
  cases v <;> try rfl
  rename_i x; cases x <;> rfl

/-- What is told of a type. -/
inductive TK where
  | int (k : IntKind) | bool | string | slice | struct | iface | other
  deriving DecidableEq

structure TI where
  kind : TK
  size : Nat
  bytes : Nat
  offs : List Nat := []
  szs : List Nat := []
  fagg : List Bool := []
  elem : Nat := 0
  zero : List PV := []
  flat : List TK := []      -- of a struct whose fields are numbers, bools and texts: their kinds

def TI.agg (ti : TI) : Bool := match ti.kind with | .struct => true | _ => false

structure Env where
  T : List (Nat × Option TI)
  nt : Nat

def constPV : Value → PV
  | .int k n => .d (.int k n) | .bool b => .d (.bool b) | .string s => (match Nat.ble s.data.toList.length 1000000 with | true => .d (.str s.data.toList) | false => .junk) | .nilIface => .err true | .slice none 0 0 => .nil
  | _ => .junk

def opnd (fr : Fr) (x : Operand) (K : PV → Prop) : Prop :=
  match x with
  | .tmp t => force (look .junk fr t) K
  | .const v => force (constPV v) K
  | .func f => K (.fn f [] [])
  | .global _ => K .junk

def opnds (fr : Fr) : List Operand → (List PV → Prop) → Prop
  | [], K => K []
  | x :: r, K => opnd fr x fun v => opnds fr r fun vs => K (v :: vs)

/-- A test that is not known. -/
def BranchG : Bool → Prop → Prop → Prop
  | true, A, _ => A
  | false, _, B => B

/-- An element at an index. -/
inductive IdxG (rows : List (List D)) (i : Int) (K : List D → Prop) : Prop
  | intro (row : List D) (h0 : 0 ≤ i) (h : rows[i.toNat]? = some row) (hK : K row)

/-- Rows, told as whoever proves likes to. -/
inductive RowsG (rows : List (List D)) (K : List (List D) → Prop) : Prop
  | intro (rows' : List (List D)) (h : rows = rows') (hK : K rows')

/-- A byte at an index. -/
inductive ByteG (s : List UInt8) (i : Int) (K : UInt8 → Prop) : Prop
  | intro (b : UInt8) (h0 : 0 ≤ i) (h : s[i.toNat]? = some b) (hK : K b)

/-- How many. -/
inductive LenG (n : Nat) (K : Nat → Prop) : Prop
  | intro (m : Nat) (h : n = m) (hK : K m)

/-- A condition that whoever proves has to show. -/
structure NeedG (p : Prop) (K : Prop) : Prop where
  intro ::
  need : p
  go : K

def binI (op : BinOp) (k : IntKind) (a b : Int) (K : PV → Prop) : Prop :=
  match op with
  | .add => K (.d (.int k (k.wrap (a + b))))
  | .sub => K (.d (.int k (k.wrap (a - b))))
  | .mul => K (.d (.int k (k.wrap (a * b))))
  | .quo => NeedG (b ≠ 0) (K (.d (.int k (k.wrap (a.tdiv b)))))
  | .rem => NeedG (b ≠ 0) (K (.d (.int k (a.tmod b))))
  | .eql => K (.d (.bool (decide (a = b))))
  | .neq => K (.d (.bool (!decide (a = b))))
  | .lss => K (.d (.bool (decide (a < b))))
  | .leq => K (.d (.bool (decide (a ≤ b))))
  | .gtr => K (.d (.bool (decide (a > b))))
  | .geq => K (.d (.bool (decide (a ≥ b))))
  | .and => K (.d (.int k (k.wrap (BitVec.ofInt k.bits a &&& BitVec.ofInt k.bits b).toNat)))
  | .or => K (.d (.int k (k.wrap (BitVec.ofInt k.bits a ||| BitVec.ofInt k.bits b).toNat)))
  | .xor => K (.d (.int k (k.wrap (BitVec.ofInt k.bits a ^^^ BitVec.ofInt k.bits b).toNat)))
  | _ => False

def binS (op : BinOp) (a b : List UInt8) (K : PV → Prop) : Prop :=
  match op with
  | .add => NeedG (a.length + b.length ≤ 9223372036854775807) (K (.d (.str (a ++ b))))
  | .eql => K (.d (.bool (decide (a = b))))
  | .neq => K (.d (.bool (!decide (a = b))))
  | .lss => K (.d (.bool (Op.bytesLess a b)))
  | .leq => K (.d (.bool (Op.bytesLess a b || decide (a = b))))
  | .gtr => K (.d (.bool (!(Op.bytesLess a b || decide (a = b)))))
  | .geq => K (.d (.bool (!(Op.bytesLess a b))))
  | _ => False

/-- Two data cells, one by one (structs of numbers, bools, texts). -/
def eqCells : List TK → List D → List D → Option Bool
  | [], [], [] => some true
  | .int _ :: ks, .int k a :: x, .int k' b :: y => match decide (k = k'), eqCells ks x y with
    | true, some r => some (decide (a = b) && r)
    | _, _ => Option.none
  | .bool :: ks, .bool a :: x, .bool b :: y => match eqCells ks x y with
    | some r => some ((a == b) && r)
    | _ => Option.none
  | .string :: ks, .str a :: x, .str b :: y => match eqCells ks x y with
    | some r => some (decide (a = b) && r)
    | _ => Option.none
  | _, _, _ => Option.none

def isC : Operand → Bool
  | .const _ => true
  | _ => false

def kEq (k k' : IntKind) : Bool := decide (k = k')

def evBin (op : BinOp) (x y : PV) (K : PV → Prop) : Prop :=
  match x, y with
  | .d (.int k a), .d (.int k' b) => match op with
    | .shl => NeedG (0 ≤ b) (K (.d (.int k (k.wrap (a * 2 ^ (min b.toNat k.bits))))))
    | .shr => NeedG (0 ≤ b) (K (.d (.int k (a.fdiv (2 ^ (min b.toNat k.bits))))))
    | op => match kEq k k' with | true => binI op k a b K | false => False
  | .d (.str a), .d (.str b) => binS op a b K
  | _, _ => False

def dropL : Nat → List D → List D
  | 0, l => l
  | _ + 1, [] => []
  | n + 1, _ :: l => dropL n l

def takeL : Nat → List D → Option (List D)
  | 0, _ => some []
  | _ + 1, [] => none
  | n + 1, x :: l => (takeL n l).map (x :: ·)

def dropP : Nat → List PV → List PV
  | 0, l => l
  | _ + 1, [] => []
  | n + 1, _ :: l => dropP n l

/-- A pure value as data, where it is data at once. -/
def toD : PV → Option D
  | .d x => some x
  | .nil => some (.sl [])
  | _ => none

def toDs : Nat → List PV → Option (List D)
  | 0, _ => some []
  | _ + 1, [] => none
  | n + 1, x :: l => match toD x, toDs n l with | some x, some l => some (x :: l) | _, _ => none

/-- A value as the cells of a part of what is built or stored: own rows become still. -/
def partD (lk : Nat → Obj) : PV → Option (List D × Ob × List Nat)
  | .d x => some ([x], [], [])
  | .nil => some ([.sl []], [], [])
  | .agg cs => some (cs, [], [])
  | .own id => match lk id with
    | .row _ sz rows => some ([.sl rows], [(id, .frz sz rows)], [id])
    | .frz _ rows => some ([.sl rows], [], [id])
    | _ => Option.none
  | _ => Option.none

/-- The first n cells as data. -/
def cellsD (lk : Nat → Obj) : Nat → List PV → Option (List D × Ob × List Nat)
  | 0, _ => some ([], [], [])
  | _ + 1, [] => Option.none
  | n + 1, x :: l => match partD lk x with
    | some ([c], u, t) => match cellsD lk n l with
      | some (cs, u', t') => some (c :: cs, u ++ u', t ++ t')
      | Option.none => Option.none
    | _ => Option.none

def partsD (lk : Nat → Obj) : List PV → Option (List (List D) × Ob × List Nat)
  | [] => some ([], [], [])
  | x :: l => match partD lk x with
    | some (c, u, t) => match partsD lk l with
      | some (cs, u', t') => some (c :: cs, u ++ u', t ++ t')
      | Option.none => Option.none
    | _ => Option.none

/-- Cells replaced from an offset on. -/
def putL {α : Type} : Nat → List α → List α → Option (List α)
  | _, [], l => some l
  | 0, x :: xs, _ :: l => (putL 0 xs l).map (x :: ·)
  | n + 1, xs, y :: l => (putL n xs l).map (y :: ·)
  | _, _ :: _, [] => Option.none

def fillP (offs szs : List Nat) : List Nat → List (List D) → List D → Option (List D)
  | [], [], cells => some cells
  | f :: fs, (c0 :: c) :: cs, cells => match offs[f]?, szs[f]? with
    | some o, some n => match Nat.beq (c0 :: c).length n, putL o (c0 :: c) cells with
      | true, some cells => fillP offs szs fs cs cells
      | _, _ => Option.none
    | _, _ => Option.none
  | _, _, _ => Option.none

def countUp : Nat → List Nat → Bool
  | _, [] => true
  | n, m :: l => match Nat.beq n m with | true => countUp (n + 1) l | false => false

def allLen (n : Nat) : List (List D) → Bool
  | [] => true
  | c :: cs => match Nat.beq c.length n with | true => allLen n cs | false => false

def ptrs : List PV → Option (List Nat)
  | [] => some []
  | .ptr id 0 :: r => (ptrs r).map (id :: ·)
  | _ => Option.none

def loadL (ti : TI) (row : List D) (K : PV → Prop) : Prop :=
  match ti.agg with
  | true => match takeL ti.size row with | some cs => K (.agg cs) | Option.none => False
  | false => match row with | x :: _ => force (.d x) K | [] => False

/-- The text of a row of bytes. -/
inductive StrG (rows : List (List D)) (K : List UInt8 → Prop) : Prop
  | intro (l : List UInt8) (h : rows = l.map (fun b => [D.int .u8 b.toNat])) (hK : K l)

def bytesRows (s : List UInt8) : List (List D) := s.map (fun b => [D.int .u8 b.toNat])

/-- What is appended: its rows. -/
def moreG (sz : Nat) (isStr : Bool) (x : PV) (lk : Nat → Obj) (K : List (List D) → Ob → List Nat → Prop) : Prop := match x with
    | .d (.sl rows) => NeedG (∀ r ∈ rows, r.length = sz) (K rows [] [])
    | .nil => K [] [] []
    | .own id => match lk id with
      | .row e sz' rows => match Nat.beq sz' sz with | true => K rows [(id, .frz sz' rows)] [id] | false => False
      | .frz sz' rows => match Nat.beq sz' sz with | true => K rows [] [id] | false => False
      | _ => False
    | .d (.str s) => match isStr with | true => K (bytesRows s) [] [] | false => False
    | _ => False

def evAppend (ti : TI) (isStr : Bool) (d : Nat) (s x : PV) (lk : Nat → Obj) (K : PV → Ob → List Nat → Prop) : Prop :=
  match s with
  | .nil => moreG ti.size isStr x lk fun rows u t => match lk d with
    | .none => NeedG (rows.length * ti.bytes ≤ 140737488355328) (RowsG rows fun rows => K (.own d) ((d, .row ti.elem ti.size rows) :: u) (d :: t))
    | _ => False
  | .own id => match lk id with
    | .row e sz rows0 => match lk d with
      | .none => match Nat.beq e ti.elem && Nat.beq sz ti.size with
        | true => moreG ti.size isStr x lk fun rows u t => match look Obj.none u id with
          | .none => NeedG ((rows0.length + rows.length) * ti.bytes ≤ 140737488355328) (RowsG (rows0 ++ rows) fun rows' => K (.own d) ((d, .row e sz rows') :: (id, .gone) :: u) (d :: id :: t))
          | _ => False
        | false => False
      | _ => False
    | _ => False
  | _ => False

/-- The operands of a slice expression. -/
def slGo (E : Env) (ti : TI) (lk : Nat → Obj) (K : PV → Ob → List Nat → Prop) (x : PV) (l h : Option Int) : Prop := match x with
        | .d (.str s) => match ti.kind with
          | .string => NeedG (0 ≤ l.getD 0 ∧ l.getD 0 ≤ h.getD s.length ∧ h.getD s.length ≤ s.length) (K (.d (.str ((s.take (h.getD s.length).toNat).drop (l.getD 0).toNat))) [] [])
          | _ => False
        | .d (.sl rows) => match ti.kind, look Option.none E.T ti.elem with
          | .slice, some te => NeedG (0 ≤ l.getD 0 ∧ l.getD 0 ≤ h.getD rows.length ∧ h.getD rows.length ≤ rows.length ∧ ∀ r ∈ rows, r.length = te.size) (RowsG ((rows.take (h.getD rows.length).toNat).drop (l.getD 0).toNat) fun rows' => K (.d (.sl rows')) [] [])
          | _, _ => False
        | .own id => match ti.kind, look Option.none E.T ti.elem, lk id with
          | .slice, some te, .row _ sz rows => match Nat.beq sz te.size with
            | true => NeedG (0 ≤ l.getD 0 ∧ l.getD 0 ≤ h.getD rows.length ∧ h.getD rows.length ≤ rows.length) (RowsG ((rows.take (h.getD rows.length).toNat).drop (l.getD 0).toNat) fun rows' => K (.d (.sl rows')) [(id, .frz sz rows)] [id])
            | false => False
          | .slice, some te, .frz sz rows => match Nat.beq sz te.size with
            | true => NeedG (0 ≤ l.getD 0 ∧ l.getD 0 ≤ h.getD rows.length ∧ h.getD rows.length ≤ rows.length) (RowsG ((rows.take (h.getD rows.length).toNat).drop (l.getD 0).toNat) fun rows' => K (.d (.sl rows')) [] [id])
            | false => False
          | _, _, _ => False
        | _ => False

def evCore (E : Env) (op : Op) (dst : Option Nat) (ins : List PV) (lk : Nat → Obj) (K : PV → Ob → List Nat → Prop) : Prop :=
  match op with
  | .move _ => match ins with | [v] => K v [] [] | _ => False
  | .assign _ => match ins with | [v] => K v [] [] | _ => False
  | .pick _ _ _ => match ins with
    | [.d (.bool t), a, b] => BranchG t (K a [] []) (K b [] [])
    | _ => False
  | .alloc t => match look Option.none E.T t, dst with
    | some ti, some d => match lk d, allCell ti.zero with
      | .none, true => K (.ptr d 0) [(d, .box ti.zero)] [d]
      | _, _ => False
    | _, _ => False
  | .box _ _ => match dst with
    | some d => match lk d with
      | .none => match ins with
        | [.agg cs] => K (.ptr d 0) [(d, .box (cs.map .d))] [d]
        | [v] => match cellB v with | true => K (.ptr d 0) [(d, .box [v])] [d] | false => False
        | _ => False
      | _ => False
    | Option.none => False
  | .build t parts => match look Option.none E.T t with
    | some ti => match ti.kind, cellsD lk ti.size ti.zero, partsD lk ins with
      | .struct, some (z, [], []), some (cs, u, tc) => match fillP ti.offs ti.szs (parts.toList.map (·.1)) cs z with
        | some cells => K (.agg cells) u tc
        | Option.none => False
      | _, _, _ => False
    | Option.none => False
  | .buildSlice t len parts => match look Option.none E.T t, dst with
    | some ti, some d => match ti.kind, look Option.none E.T ti.elem with
      | .slice, some te => match lk d with
        | .none => match partsD lk ins, countUp 0 (parts.toList.map (·.1)), Nat.beq parts.size len with
          | some (rows, u, tc), true, true => match allLen te.size rows && Nat.ble (len * te.size) 16777216 with
            | true => RowsG rows fun rows => K (.own d) ((d, .row ti.elem te.size rows) :: u) (d :: tc)
            | false => False
          | _, _, _ => False
        | _ => False
      | _, _ => False
    | _, _ => False
  | .load t _ => match look Option.none E.T t with
    | some ti => match ins with
      | [.ptr id off] => match lk id with
        | .box cs => match ti.agg with
          | true => match cellsD lk ti.size (dropP off cs) with
            | some (ds, u, tc) => K (.agg ds) u (id :: tc)
            | Option.none => False
          | false => match dropP off cs with
            | v :: _ => force v fun v => K v [] [id]
            | [] => False
        | _ => False
      | [.ept row] => loadL ti row fun v => K v [] []
      | [.owp id sz i off] => match lk id with
        | .row _ sz' rows => match Nat.beq sz' sz with | true => IdxG rows i fun row => loadL ti (dropL off row) fun v => K v [] [id] | false => False
        | .frz sz' rows => match Nat.beq sz' sz with | true => IdxG rows i fun row => loadL ti (dropL off row) fun v => K v [] [id] | false => False
        | _ => False
      | _ => False
    | Option.none => False
  | .store t _ _ => match look Option.none E.T t with
    | some ti => match ins with
      | [.ptr id off, v] => match lk id with
        | .box cs => match ti.agg with
          | true => match v with
            | .agg ds => match Nat.beq ds.length ti.size, putL off (ds.map PV.d) cs with
              | true, some cs => K .unit [(id, .box cs)] [id]
              | _, _ => False
            | _ => False
          | false => match cellB v, putL off [v] cs with
            | true, some cs => K .unit [(id, .box cs)] [id]
            | _, _ => False
        | _ => False
      | [.owp id sz i off, v] => match lk id with
        | .row e sz' rows => match partD lk v with
          | some (ds, u, tc) => match Nat.beq ds.length ti.size && Nat.beq sz' sz, look Obj.none u id with
            | true, .none => IdxG rows i fun row => match putL off ds row with
              | some row' => RowsG (rows.set i row') fun rows' => K .unit ((id, .row e sz rows') :: u) (id :: tc)
              | Option.none => False
            | _, _ => False
          | Option.none => False
        | _ => False
      | _ => False
    | Option.none => False
  | .nilCheck _ => match ins with
    | [.ptr a b] => K (.ptr a b) [] []
    | [.ept r] => K (.ept r) [] []
    | [.fn f a b] => K (.fn f a b) [] []
    | _ => False
  | .binOp op t x y _ => match ins with
    | [.agg a, .agg b] => match look Option.none E.T t with
      | some ti => match ti.flat with
        | [] => False
        | ks => match op, eqCells ks a b with
          | .eql, some r => K (.d (.bool r)) [] []
          | .neq, some r => K (.d (.bool !r)) [] []
          | _, _ => False
      | Option.none => False
    | [.d (.bool a), .d (.bool b)] => match look Option.none E.T t with
      | some ti => match ti.kind, op with
        | .bool, .eql => K (.d (.bool (a == b))) [] []
        | .bool, .neq => K (.d (.bool (!(a == b)))) [] []
        | _, _ => False
      | Option.none => False
    | [.err a, .err b] => match look Option.none E.T t with
      | some ti => match ti.kind, (isC x || isC y), op with
        | .iface, true, .eql => NeedG (a = true ∨ b = true) (K (.d (.bool (a && b))) [] [])
        | .iface, true, .neq => NeedG (a = true ∨ b = true) (K (.d (.bool (!(a && b)))) [] [])
        | _, _, _ => False
      | Option.none => False
    | [x, y] => evBin op x y fun v => K v [] []
    | _ => False
  | .unOp op _ _ => match op, ins with
    | .not, [.d (.bool b)] => K (.d (.bool !b)) [] []
    | .neg, [.d (.int k n)] => K (.d (.int k (k.wrap (0 - n)))) [] []
    | .xor, [.d (.int k n)] => K (.d (.int k (k.wrap (BitVec.ofInt k.bits (if k.signed then -1 else k.max) ^^^ BitVec.ofInt k.bits n).toNat))) [] []
    | _, _ => False
  | .convert src t _ => match look Option.none E.T src, look Option.none E.T t, dst with
    | some si, some ti, some d => match ins with
      | [.d (.int _ n)] => match ti.kind with
        | .int k => K (.d (.int k (k.wrap n))) [] []
        | _ => False
      | [.d (.str s)] => match ti.kind with
        | .string => K (.d (.str s)) [] []
        | _ => False
      | [.d (.sl rows)] => match ti.kind, si.kind, look Option.none E.T si.elem with
        | .string, .slice, some te => match te.kind with
          | .int .u8 => StrG rows fun s => K (.d (.str s)) [] []
          | _ => False
        | _, _, _ => False
      | [.nil] => match ti.kind, si.kind, look Option.none E.T si.elem with
        | .string, .slice, some te => match te.kind with
          | .int .u8 => K (.d (.str [])) [] []
          | _ => False
        | _, _, _ => False
      | [.own id] => match ti.kind, si.kind, look Option.none E.T si.elem with
        | .string, .slice, some te => match te.kind, lk id with
          | .int .u8, .row _ sz rows => match Nat.beq sz 1 with | true => StrG rows fun s => K (.d (.str s)) [] [id] | false => False
          | .int .u8, .frz sz rows => match Nat.beq sz 1 with | true => StrG rows fun s => K (.d (.str s)) [] [id] | false => False
          | _, _ => False
        | _, _, _ => False
      | _ => False
    | _, _, _ => False
  | .makeFunc (.func f) first captured => match ptrs ins with
    | some ids => K (.fn f (ids.take first.size) (ids.drop first.size)) [] []
    | Option.none => False
  | .makeSlice t _ _ => match look Option.none E.T t, dst, ins with
    | some ti, some d, [.d (.int _ n), .d (.int _ c)] => match ti.kind, look Option.none E.T ti.elem, lk d with
      | .slice, some te, .none => match cellsD lk te.size te.zero with
        | some (z, [], []) => NeedG (0 ≤ n ∧ n ≤ c ∧ c * te.bytes ≤ 140737488355328 ∧ c ≤ 140737488355328) (RowsG (List.replicate n.toNat z) fun rows => K (.own d) [(d, .row ti.elem te.size rows)] [d])
        | _ => False
      | _, _, _ => False
    | _, _, _ => False
  | .slice t _ lo hi mx => match mx, look Option.none E.T t with
    | Option.none, some ti =>
      match lo, hi, ins with
      | Option.none, Option.none, [x] => slGo E ti lk K x Option.none Option.none
      | some _, Option.none, [x, .d (.int _ l)] => slGo E ti lk K x (some l) Option.none
      | Option.none, some _, [x, .d (.int _ h)] => slGo E ti lk K x Option.none (some h)
      | some _, some _, [x, .d (.int _ l), .d (.int _ h)] => slGo E ti lk K x (some l) (some h)
      | _, _, _ => False
    | _, _ => False
  | .fieldAddr t _ f => match look Option.none E.T t with
    | some ti => match ti.kind, ti.offs[f]? with
      | .struct, some o => match ins with
        | [.ptr id off] => K (.ptr id (off + o)) [] []
        | [.ept row] => K (.ept (dropL o row)) [] []
        | [.owp id sz i off] => match (lk id).isRow with
          | true => K (.owp id sz i (off + o)) [] [id]
          | false => False
        | _ => False
      | _, _ => False
    | Option.none => False
  | .field t _ f => match look Option.none E.T t, ins with
    | some ti, [.agg cs] => match ti.kind, ti.offs[f]?, ti.szs[f]?, ti.fagg[f]? with
      | .struct, some o, some n, some true => match takeL n (dropL o cs) with
        | some cs => K (.agg cs) [] []
        | Option.none => False
      | .struct, some o, some _, some false => match dropL o cs with
        | x :: _ => force (.d x) fun v => K v [] []
        | [] => False
      | _, _, _, _ => False
    | _, _ => False
  | .indexAddr t _ _ => match look Option.none E.T t with
    | some ti => match ti.kind, look Option.none E.T ti.elem with
      | .slice, some te => match ins with
        | [.d (.sl rows), .d (.int _ i)] => IdxG rows i fun row => match Nat.beq row.length te.size with | true => K (.ept row) [] [] | false => False
        | [.own id, .d (.int _ i)] => match lk id with
          | .row _ sz rows => match Nat.beq sz te.size with | true => IdxG rows i fun _ => K (.owp id sz i.toNat 0) [] [id] | false => False
          | .frz sz rows => match Nat.beq sz te.size with | true => IdxG rows i fun _ => K (.owp id sz i.toNat 0) [] [id] | false => False
          | _ => False
        | _ => False
      | _, _ => False
    | Option.none => False
  | .index t _ _ => match look Option.none E.T t with
    | some ti => match ti.kind, ins with
      | .string, [.d (.str s), .d (.int _ i)] => ByteG s i fun b => K (.d (.int .u8 b.toNat)) [] []
      | _, _ => False
    | Option.none => False
  | .extract _ i => match ins with
    | [.tup vs] => match vs[i]? with
      | some v => force v fun v => K v [] []
      | Option.none => False
    | _ => False
  | .call c => match c.callee with
    | .builtin .len => match c.argTypes.toList with
      | [t] => match look Option.none E.T t with
        | some ti => match ti.kind, ins with
          | .slice, [.d (.sl rows)] => LenG rows.length fun n => K (.d (.int .i64 n)) [] []
          | .string, [.d (.str s)] => K (.d (.int .i64 s.length)) [] []
          | .slice, [.nil] => K (.d (.int .i64 0)) [] []
          | .slice, [.own id] => match lk id with
            | .row _ _ rows => LenG rows.length fun n => K (.d (.int .i64 n)) [] [id]
            | .frz _ rows => LenG rows.length fun n => K (.d (.int .i64 n)) [] [id]
            | _ => False
          | _, _ => False
        | Option.none => False
      | _ => False
    | .builtin .append => match ins, dst, c.argTypes.toList with
      | [s, x], some d, [t, t'] => match look Option.none E.T t, look Option.none E.T t' with
        | some ti, some ti' => match ti.kind, look Option.none E.T ti.elem with
          | .slice, some te => match ti'.kind with
            | .slice => match Nat.beq t t' with
              | true => evAppend { te with elem := ti.elem } false d s x lk K
              | false => False
            | .string => match te.kind with
              | .int .u8 => evAppend { te with elem := ti.elem } true d s x lk K
              | _ => False
            | _ => False
          | _, _ => False
        | _, _ => False
      | _, _, _ => False
    | .builtin .max => match ins with
      | [.d (.int k a), .d (.int _ b)] => K (.d (.int k (if b > a then b else a))) [] []
      | _ => False
    | .builtin .min => match ins with
      | [.d (.int k a), .d (.int _ b)] => K (.d (.int k (if b < a then b else a))) [] []
      | _ => False
    | _ => False
  | _ => False

end Go.Pv
