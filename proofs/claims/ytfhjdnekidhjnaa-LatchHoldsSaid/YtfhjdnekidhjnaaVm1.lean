/-
  A small machine of its own over the model's code: it computes with values and blocks of its own ('V', 'Heap'), draws nothing, and is proved sound against the model in the texts behind this one.
-/
import Derived.CallsIn
import Derived.OrdersIn
import Derived.RangeFuncIn
import Derived.RangeFuncLeaves
import Derived.RangeFuncRecord
import Derived.Laws.Entries
import Derived.KernelRfl
set_option linter.unusedVariables false
set_option linter.unusedSimpArgs false
namespace Go.Vm

inductive V where
  | int (k : IntKind) (n : Int)
  | bool (b : Bool)
  | str (s : ByteArray)
  | ptr (p : Option (Nat × Nat))
  | sl (es : Nat) (p : Option (Nat × Nat)) (n : Nat)
  | fn (f : FuncId) (caps : List V)
  | yld (l : Nat)
  | nilFn
  | nilIface
  | agg (cs : List V)
  | tup (vs : List V)
  | undef
  deriving Inhabited

structure LoopRec where
  fid : FuncId
  state : LoopState
  pending : Option Code
  st : List V
  params : Array Tmp
  assign : Code
  body : Code

inductive Blk where
  | dead
  | void
  | cells (rw : Bool) (cs : List V)
  | loop (r : LoopRec)

abbrev Heap := List Blk
abbrev St := List V

inductive Leaf where
  | int (k : IntKind)
  | bool
  | str
  | ptr
  | sl (es : Nat)
  | raw
  | bad

def esOf (P : Program) (t : TypeId) : Nat := ((P.info? t).map (·.size)).getD 0
def bytesOf (P : Program) (t : TypeId) : Nat := ((P.info? t).map (·.bytes)).getD 0

def isAggT (P : Program) (t : TypeId) : Bool :=
  match P.underlying t with
  | some (.struct _) => true
  | some (.array _ _) => true
  | _ => false

def leaves (P : Program) : Nat → TypeId → List Leaf
  | 0, _ => [.bad]
  | d + 1, t =>
    match P.underlying t with
    | some (.int k) => [.int k]
    | some .bool => [.bool]
    | some .string => [.str]
    | some (.pointer _) => [.ptr]
    | some (.slice e) => [.sl (esOf P e)]
    | some (.func _ _ _) => [.raw]
    | some (.interface _) => [.raw]
    | some (.struct fs) => fs.toList.flatMap fun f => leaves P d f.type
    | some (.array n e) => (List.replicate n (leaves P d e)).flatten
    | _ => [.bad]

def asI (k : IntKind) : V → Option Int
  | .int k' n => if k' = k then some n else none
  | _ => none
def asB : V → Option Bool
  | .bool b => some b
  | _ => none
def asStr : V → Option ByteArray
  | .str s => some s
  | _ => none
def asP : V → Option (Option (Nat × Nat))
  | .ptr p => some p
  | _ => none
def asS (es : Nat) : V → Option (Option (Nat × Nat) × Nat)
  | .sl es' p n => if p.isNone || es' == es then some (p, n) else none
  | _ => none

/-- A value of a known kind, in a constructor's form. -/
def view {R : Type} (v : V) : Leaf → (V → Option R) → Option R
  | .int k, K => (asI k v).bind fun n => K (.int k n)
  | .bool, K => (asB v).bind fun b => K (.bool b)
  | .str, K => (asStr v).bind fun s => K (.str s)
  | .ptr, K => (asP v).bind fun p => K (.ptr p)
  | .sl es, K => (asS es v).bind fun s => K (.sl es s.1 s.2)
  | .raw, K => K v
  | .bad, _ => none

def views {R : Type} : List V → List Leaf → (List V → Option R) → Option R
  | [], [], K => K []
  | v :: vs, l :: ls, K => view v l fun v' => views vs ls fun vs' => K (v' :: vs')
  | _, _, _ => none

def cellV (H : Heap) (b o : Nat) : Option V :=
  match H[b]? with
  | some (.cells _ cs) => cs[o]?
  | _ => none

def cellI (k : IntKind) (H : Heap) (b o : Nat) : Option Int := (cellV H b o).bind (asI k)
def cellB (H : Heap) (b o : Nat) : Option Bool := (cellV H b o).bind asB
def cellStr (H : Heap) (b o : Nat) : Option ByteArray := (cellV H b o).bind asStr
def cellP (H : Heap) (b o : Nat) : Option (Option (Nat × Nat)) := (cellV H b o).bind asP
def cellS (es : Nat) (H : Heap) (b o : Nat) : Option (Option (Nat × Nat) × Nat) := (cellV H b o).bind (asS es)

def rdLeaf {R : Type} (H : Heap) (b o : Nat) : Leaf → (V → Option R) → Option R
  | .int k, K => (cellI k H b o).bind fun n => K (.int k n)
  | .bool, K => (cellB H b o).bind fun x => K (.bool x)
  | .str, K => (cellStr H b o).bind fun s => K (.str s)
  | .ptr, K => (cellP H b o).bind fun p => K (.ptr p)
  | .sl es, K => (cellS es H b o).bind fun s => K (.sl es s.1 s.2)
  | .raw, K => (cellV H b o).bind fun v => K v
  | .bad, _ => none

def rdLeaves {R : Type} (H : Heap) (b o : Nat) : List Leaf → (List V → Option R) → Option R
  | [], K => K []
  | l :: ls, K => rdLeaf H b o l fun v => rdLeaves H b (o + 1) ls fun vs => K (v :: vs)

/-- A variable of a type, at a place. -/
def loadT {R : Type} (P : Program) (t : TypeId) (H : Heap) (b o : Nat) (K : V → Option R) : Option R :=
  if isAggT P t then rdLeaves H b o (leaves P 10 t) fun vs => if vs.length = esOf P t then K (.agg vs) else none
  else match leaves P 1 t with
    | [l] => rdLeaf H b o l K
    | _ => none

def V.cells : V → List V
  | .agg cs => cs
  | v => [v]

def V.one : V → Bool
  | .agg _ => false
  | .tup _ => false
  | .undef => false
  | _ => true

def ones : List V → Bool
  | [] => true
  | v :: vs => v.one && ones vs

def V.isDef : V → Bool
  | .undef => false
  | _ => true

def setR (cs : List V) (o : Nat) : List V → List V
  | [] => cs
  | v :: vs => setR (cs.set o v) (o + 1) vs

def putH (H : Heap) (b o : Nat) (vs : List V) : Option Heap :=
  match H[b]? with
  | some (.cells true cs) => if o + vs.length ≤ cs.length ∧ ones vs = true then some (H.set b (.cells true (setR cs o vs))) else none
  | _ => none

/-- What is put at a slice's begin. -/
def putS (H : Heap) (p : Option (Nat × Nat)) (vs : List V) : Option Heap :=
  if vs.length = 0 then some H else
  match p with
  | none => none
  | some a => putH H a.1 a.2 vs

def getS (es : Nat) (H : Heap) (p : Option (Nat × Nat)) (n : Nat) : Option (List V) :=
  if n = 0 then some [] else
  match p with
  | none => none
  | some (b, o) =>
    match H[b]? with
    | some (.cells _ cs) => if o + n * es ≤ cs.length then some ((cs.drop o).take (n * es)) else none
    | _ => none

def newH (H : Heap) (cs : List V) : Heap := H ++ [.cells true cs]

/-- What append does: 'xs' are the cells of k elements. -/
def appH (es bytes : Nat) (p : Option (Nat × Nat)) (n k : Nat) (xs : List V) (H : Heap) : Option (Heap × Option (Nat × Nat)) :=
  if k = 0 then some (H, p) else
  if (n + k) * bytes ≤ 140737488355328 ∧ n + k ≤ 9223372036854775807 ∧ ones xs = true then
    match p with
    | none => if n = 0 then some (newH H xs, some (H.length, 0)) else none
    | some (b, o) =>
      match H[b]? with
      | some .void => if n = 0 then some (newH H xs, some (H.length, 0)) else none
      | some (.cells true cs) =>
        if o + n * es = cs.length then some (newH (H.set b .dead) (cs.drop o ++ xs), some (H.length, 0))
        else if o + n * es + xs.length ≤ cs.length then some (H.set b (.cells true (setR cs (o + n * es) xs)), some (b, o))
        else none
      | _ => none
  else none

/-- A constant's value. -/
def constL : Value → Option V
  | .int k n => some (.int k n)
  | .bool b => some (.bool b)
  | .string s => some (.str s)
  | .pointer none => some (.ptr none)
  | .slice none 0 0 => some (.sl 0 none 0)
  | .nilFunc => some .nilFn
  | .nilIface => some .nilIface
  | _ => none

def constLs : List Value → Option (List V)
  | [] => some []
  | v :: vs => match constL v, constLs vs with
    | some x, some xs => some (x :: xs)
    | _, _ => none

def constV : Value → Option V
  | .agg cs => (constLs cs.toList).map .agg
  | v => constL v

def ev (st : St) : Operand → Option V
  | .tmp t => st[t]?
  | .const v => constV v
  | .func f => some (.fn f [])
  | .global _ => none

def evs (st : St) : List Operand → Option (List V)
  | [] => some []
  | x :: xs => match ev st x, evs st xs with
    | some v, some vs => some (v :: vs)
    | _, _ => none

def putT (st : St) (dst : Option Tmp) (v : V) : St :=
  match dst with
  | some d => st.set d v
  | none => st

/-- The zero cells of a type. -/
def zeroL (P : Program) (t : TypeId) : Option (List V) :=
  match P.info? t with
  | some i => match i.zero with
    | some z => match constV z with
      | some v => if v.cells.length = i.size then some v.cells else none
      | none => none
    | none => none
  | none => none

def rep (n : Nat) (z : List V) : List V := (List.replicate n z).flatten

/-- The parts of a struct or an array, laid over zero cells. -/
def fillL (place : Nat → Option (Nat × Nat)) (cs : List V) : List (Nat × V) → Option (List V)
  | [] => some cs
  | (i, v) :: rest =>
    match place i with
    | none => none
    | some (off, size) => if v.cells.length = size ∧ off + v.cells.length ≤ cs.length ∧ v.isDef = true then fillL place (setR cs off v.cells) rest else none

def evParts (st : St) : List (Nat × Operand) → Option (List (Nat × V))
  | [] => some []
  | (i, x) :: xs => match ev st x, evParts st xs with
    | some v, some vs => some ((i, v) :: vs)
    | _, _ => none

/-- A part of a struct or an array. -/
def partV (P : Program) (t : TypeId) (cs : List V) (off : Nat) : Option V :=
  if isAggT P t then (if (P.info? t).isSome then some (.agg ((cs.drop off).take (esOf P t))) else none)
  else if (P.underlying t).isSome then cs[off]? else none

def allB : List (Option Bool) → Option Bool
  | [] => some true
  | some b :: xs => match allB xs with
    | some r => some (b && r)
    | none => none
  | none :: _ => none

/-- Are two values of a type the same? -/
def eqD (P : Program) : Nat → TypeId → V → V → Option Bool
  | 0, _, _, _ => none
  | d + 1, t, x, y => match P.underlying t, x, y with
    | some .bool, .bool a, .bool b => some (a == b)
    | some (.int _), .int k a, .int k' b => if k = k' then some (a == b) else none
    | some .string, .str a, .str b => some (a.toList == b.toList)
    | some (.struct fs), .agg xs, .agg ys => if P.stoodInHeld t then none else
        allB (fs.toList.map fun f => if f.name = "_" then some true else match partV P f.type xs f.offset, partV P f.type ys f.offset with
          | some a, some b => eqD P d f.type a b
          | _, _ => none)
    | some (.array n e), .agg xs, .agg ys => if (P.info? e).isSome then
        allB ((List.range n).map fun i => match partV P e xs (i * esOf P e), partV P e ys (i * esOf P e) with
          | some a, some b => eqD P d e a b
          | _, _ => none)
        else none
    | _, _, _ => none

def eqV (P : Program) (t : TypeId) (x y : V) : Option Bool :=
  match P.underlying t, x, y with
  | some .bool, .bool a, .bool b => some (a == b)
  | some (.pointer _), .ptr p, .ptr none => some p.isNone
  | some (.pointer _), .ptr none, .ptr p => some p.isNone
  | some (.slice _), .sl _ p _, .sl _ none _ => some p.isNone
  | some (.slice _), .sl _ none _, .sl _ p _ => some p.isNone
  | some (.func _ _ _), .nilFn, .nilFn => some true
  | some (.func _ _ _), .fn _ _, .nilFn => some false
  | some (.func _ _ _), .yld _, .nilFn => some false
  | some (.struct _), .agg xs, .agg ys => if P.eqGuardType P.depth t then none else eqD P 20 t (.agg xs) (.agg ys)
  | some (.array _ _), .agg xs, .agg ys => if P.eqGuardType P.depth t then none else eqD P 20 t (.agg xs) (.agg ys)
  | _, _, _ => none

def binI (op : BinOp) (k : IntKind) (x y : Int) : Option V :=
  match op with
  | .add => some (.int k (k.wrap (x + y)))
  | .sub => some (.int k (k.wrap (x - y)))
  | .mul => some (.int k (k.wrap (x * y)))
  | .quo => if y = 0 then none else some (.int k (k.wrap (x.tdiv y)))
  | .rem => if y = 0 then none else some (.int k (x.tmod y))
  | .and => some (.int k (bits .and k x y))
  | .or => some (.int k (bits .or k x y))
  | .xor => some (.int k (bits .xor k x y))
  | .andNot => some (.int k (bits .andNot k x y))
  | .eql => some (.bool (x == y))
  | .neq => some (.bool (x != y))
  | .lss => some (.bool (x < y))
  | .leq => some (.bool (x ≤ y))
  | .gtr => some (.bool (x > y))
  | .geq => some (.bool (x ≥ y))
  | _ => none

def shiftI (op : BinOp) (k : IntKind) (x y : Int) : Option V :=
  if y < 0 then none else
  match op with
  | .shl => some (.int k (k.wrap (x * 2 ^ min y.toNat k.bits)))
  | .shr => some (.int k (x.fdiv (2 ^ min y.toNat k.bits)))
  | _ => none

def binS (op : BinOp) (x y : ByteArray) : Option V :=
  match op with
  | .add => if ((x.size + y.size : Nat) : Int) > IntKind.i64.max then none else some (.str (x ++ y))
  | .eql => some (.bool (x.toList == y.toList))
  | .neq => some (.bool !(x.toList == y.toList))
  | .lss => some (.bool (Op.bytesLess x.toList y.toList))
  | .leq => some (.bool (Op.bytesLess x.toList y.toList || x.toList == y.toList))
  | .gtr => some (.bool !(Op.bytesLess x.toList y.toList || x.toList == y.toList))
  | .geq => some (.bool !(Op.bytesLess x.toList y.toList))
  | _ => none

def isShift : BinOp → Bool
  | .shl => true
  | .shr => true
  | _ => false

def binV (P : Program) (t : TypeId) (op : BinOp) (x y : V) : Option V :=
  match x, y with
  | .int k a, .int k' b => if isShift op then shiftI op k a b else if k = k' then binI op k a b else none
  | .str a, .str b => binS op a b
  | x, y => match op with
    | .eql => match eqV P t x y with
      | some r => some (.bool r)
      | none => none
    | .neq => match eqV P t x y with
      | some r => some (.bool (!r))
      | none => none
    | _ => none

def unV (op : UnOp) (x : V) : Option V :=
  match op, x with
  | .neg, .int k n => some (.int k (k.wrap (0 - n)))
  | .xor, .int k n => some (.int k (bits .xor k (if k.signed then -1 else k.max) n))
  | .not, .bool b => some (.bool !b)
  | _, _ => none

def bytesV (s : ByteArray) : List V := s.data.toList.map fun b => .int .u8 b.toNat
def strV : List V → Option (List UInt8)
  | [] => some []
  | .int .u8 n :: vs => (strV vs).map fun l => UInt8.ofNat n.toNat :: l
  | _ => none

def callView {R : Type} (P : Program) (t : TypeId) (v : V) (K : V → Option R) : Option R :=
  match P.underlying t with
  | some (.tuple ts) => match v with
    | .tup vs => views' P vs ts.toList fun vs' => K (.tup vs')
    | _ => none
  | _ => view1 P t v K
where
  view1 {R : Type} (P : Program) (t : TypeId) (v : V) (K : V → Option R) : Option R :=
    if isAggT P t then
      match v with
      | .agg cs => views cs (leaves P 10 t) fun cs' => K (.agg cs')
      | _ => none
    else match leaves P 1 t with
      | [l] => view v l K
      | _ => none
  views' {R : Type} (P : Program) : List V → List TypeId → (List V → Option R) → Option R
    | [], [], K => K []
    | v :: vs, t :: ts, K => view1 P t v fun v' => views' P vs ts fun vs' => K (v' :: vs')
    | _, _, _ => none

inductive Ex where
  | normal
  | exit (id : Nat)
  | ret

def Ex.code : Ex → Option Code
  | .normal => none
  | .exit id => some (.exit id)
  | .ret => some .ret

abbrev CallF := V → List V → Heap → Option (V × Heap)

structure Cfg where
  P : Program
  iso : List FuncId
  masks : FuncId → Nat → Option (List Bool)


def bnd (st : St) (x : Option Operand) (d : Int) : Option Int :=
  match x with
  | none => some d
  | some x => match ev st x with
    | some (.int _ i) => some i
    | _ => none

def rwAt (H : Heap) : Option (Nat × Nat) → Bool
  | some a => match H[a.1]? with
    | some (.cells true _) => true
    | _ => false
  | none => false

def eqPO : Option (Nat × Nat) → Option (Nat × Nat) → Bool
  | some a, some b => a.1 == b.1 && a.2 == b.2
  | _, _ => false

def slP (lo : Option Operand) (p : Option (Nat × Nat)) (d : Nat) : Option (Nat × Nat) :=
  match lo with
  | none => p
  | some _ => p.map fun a => (a.1, a.2 + d)

/-- Of a slice whose capacity c is known, the element's size is told by (c + 1) * 2 ^ 33 more. -/
def capB : Nat := 8589934592
def capOf (es : Nat) : Nat := es / 8589934592 - 1
/-- Up to where a slice may be sliced again. -/
def lim (p : Option (Nat × Nat)) (es n : Nat) : Nat := match p with
  | none => n
  | some _ => if 8589934592 ≤ es then capOf es else n
def shE (es i : Nat) : Nat := if 8589934592 ≤ es then es - 8589934592 * i else es
/-- A slice of a whole array (its length in cells is told by 2 ^ 32 more): nothing is appended to it. -/
def slE (es k : Nat) : Bool := es == k || es == k + 4294967296 || (decide (8589934592 ≤ es) && es % 8589934592 == k)

/-- One operation: its value and the heap behind it. -/
def opX {R : Type} (c : Cfg) (call : CallF) (o : Oper) (st : St) (H : Heap) (K : V → Heap → Option R) : Option R :=
  match o.op with
  | .move x | .assign x => match ev st x with
    | some v => K v H
    | none => none
  | .pick x a b => match ev st x, ev st a, ev st b with
    | some (.bool t), some (.bool p), some (.bool q) => K (.bool (cond t p q)) H
    | some (.bool t), some p, some q => if t = true then K p H else K q H
    | _, _, _ => none
  | .alloc t => match zeroL c.P t with
    | some z => K (.ptr (some (H.length, 0))) (newH H z)
    | none => none
  | .box _ x => match ev st x with
    | some .undef => none
    | some v => K (.ptr (some (H.length, 0))) (newH H v.cells)
    | none => none
  | .build t parts => match zeroL c.P t, c.P.underlying t, evParts st parts.toList with
    | some z, some (.struct fs), some ps => if fs.toList.all (fun f => (c.P.info? f.type).isSome) then match fillL (fun i => (fs[i]?).map fun f => (f.offset, esOf c.P f.type)) z ps with
      | some cs => K (.agg cs) H
      | none => none
      else none
    | some z, some (.array _ e), some ps => if 0 < esOf c.P e then match fillL (fun i => some (i * esOf c.P e, esOf c.P e)) z ps with
      | some cs => K (.agg cs) H
      | none => none
      else none
    | _, _, _ => none
  | .buildSlice t n parts => match c.P.underlying t, evParts st parts.toList with
    | some (.slice e), some ps => match zeroL c.P e with
      | some z => if n * esOf c.P e ≤ 16777216 ∧ 0 < esOf c.P e ∧ esOf c.P e < 8589934592 then
          match fillL (fun i => some (i * esOf c.P e, esOf c.P e)) (rep n z) ps with
          | some cs => K (.sl (esOf c.P e) (some (H.length, 0)) n) (newH H cs)
          | none => none
        else none
      | none => none
    | _, _ => none
  | .load t x => match ev st x with
    | some (.ptr p) => p.bind fun a => loadT c.P t H a.1 a.2 fun v => K v H
    | _ => none
  | .store t x y => match ev st x, ev st y with
    | some (.ptr p), some v => if v.cells.length = esOf c.P t ∧ 0 < esOf c.P t then p.bind fun a => (putH H a.1 a.2 v.cells).bind fun H' => K .undef H' else none
    | _, _ => none
  | .nilCheck x => match ev st x with
    | some (.ptr p) => p.bind fun a => K (.ptr (some a)) H
    | some (.fn f cs) => K (.fn f cs) H
    | some (.yld l) => K (.yld l) H
    | _ => none
  | .binOp op t x y _ => match ev st x, ev st y with
    | some u, some v => match binV c.P t op u v with
      | some r => K r H
      | none => none
    | _, _ => none
  | .unOp op _ x => match ev st x with
    | some u => match unV op u with
      | some r => K r H
      | none => none
    | none => none
  | .convert s t x => match ev st x, c.P.underlying s, c.P.underlying t with
    | some (.int _ n), some (.int _), some (.int k) => K (.int k (k.wrap n)) H
    | some (.str b), some .string, some .string => K (.str b) H
    | some (.str b), some .string, some (.slice e) => if c.P.underlying e matches some (.int .u8) then
        K (.sl 1 (some (H.length, 0)) b.size) (H ++ [.cells false (bytesV b)]) else none
    | some (.sl es p n), some (.slice e), some .string => if slE es 1 = true ∨ n = 0 then
        if c.P.underlying e matches some (.int .u8) then (getS 1 H p n).bind fun vs => (strV vs).bind fun l => K (.str ⟨l.toArray⟩) H else none
      else none
    | some (.sl es (some (b, o1)) n), some (.slice _), some (.slice e) => if s = t ∧ es = 1 ∧ 0 < n then
        if c.P.underlying e matches some (.int .u8) then match H[b]? with
          | some (.cells true cs) => K (.sl 1 (some (H.length, o1)) n) (H.set b .dead ++ [.cells false cs])
          | _ => none
        else none
      else none
    | _, _, _ => none
  | .makeFunc fn first captured => match fn, first.toList, evs st captured.toList with
    | .func f, [], some cs => K (.fn f cs) H
    | _, _, _ => none
  | .makeSlice t x y => match c.P.underlying t, ev st x, ev st y with
    | some (.slice e), some (.int _ n), some (.int _ m) => match zeroL c.P e with
      | some z => if 0 ≤ n ∧ n ≤ m ∧ m * bytesOf c.P e ≤ 140737488355328 ∧ m ≤ 9223372036854775807 ∧ 0 < esOf c.P e ∧ esOf c.P e < 8589934592 then
          K (.sl (esOf c.P e) (some (H.length, 0)) n.toNat) (newH H (rep n.toNat z)) else none
      | none => none
    | _, _, _ => none
  | .slice t x lo hi mx => match ev st x, c.P.underlying t, bnd st lo 0, mx with
    | some (.sl es p n), some (.slice e), some i, none => match bnd st hi n with
      | some j => if ((slE es (esOf c.P e) || p.isNone) && decide (0 < esOf c.P e) && decide (esOf c.P e < 4294967296)) = true then
          (if 0 ≤ i ∧ i ≤ j ∧ j ≤ lim p es n then K (.sl (shE es i.toNat) (slP lo p (i.toNat * esOf c.P e)) (j.toNat - i.toNat)) H else none) else none
      | none => none
    | some (.sl es p n), some (.slice e), some i, some m => match hi, bnd st hi n, ev st m with
      | some _, some j, some (.int _ mm) => if ((slE es (esOf c.P e) || p.isNone) && decide (0 < esOf c.P e)) = true then
          (if 0 ≤ i ∧ i ≤ j ∧ j ≤ mm ∧ mm ≤ lim p es n then K .undef H else none) else none
      | _, _, _ => none
    | some (.ptr (some a)), some (.array n e), some i, none => match bnd st hi n with
      | some j => if 0 < esOf c.P e ∧ esOf c.P e < 4294967296 then
          (if 0 ≤ i ∧ i ≤ j ∧ j ≤ n then K (.sl (esOf c.P e + 4294967296) (some (a.1, a.2 + i.toNat * esOf c.P e)) (j.toNat - i.toNat)) H else none) else none
      | none => none
    | some (.str s), some .string, some i, none => match bnd st hi s.size with
      | some j => if 0 ≤ i ∧ i ≤ j ∧ j ≤ s.size then K (.str (s.extract i.toNat j.toNat)) H else none
      | none => none
    | _, _, _, _ => none
  | .fieldAddr s x f => match ev st x, c.P.underlying s with
    | some (.ptr p), some (.struct fs) => match fs[f]? with
      | some fd => if 0 < esOf c.P fd.type then p.bind fun a => K (.ptr (some (a.1, a.2 + fd.offset))) H else none
      | none => none
    | _, _ => none
  | .field s x f => match ev st x, c.P.underlying s with
    | some (.agg cs), some (.struct fs) => match fs[f]? with
      | some fd => if isAggT c.P fd.type then K (.agg ((cs.drop fd.offset).take (esOf c.P fd.type))) H
        else if (c.P.underlying fd.type).isSome then match cs[fd.offset]? with
          | some v => K v H
          | none => none
        else none
      | none => none
    | _, _ => none
  | .indexAddr t x y => match ev st x, ev st y, c.P.underlying t with
    | some (.sl es p n), some (.int _ i), some (.slice e) => if (slE es (esOf c.P e) = true ∨ n = 0) ∧ 0 < esOf c.P e then
        (if 0 ≤ i ∧ i < n then p.bind fun a => K (.ptr (some (a.1, a.2 + i.toNat * esOf c.P e))) H else none) else none
    | some (.ptr p), some (.int _ i), some (.array n e) => if 0 < esOf c.P e ∧ 0 ≤ i ∧ i < n then p.bind fun a => K (.ptr (some (a.1, a.2 + i.toNat * esOf c.P e))) H else none
    | _, _, _ => none
  | .index t x y => match ev st x, ev st y, c.P.underlying t with
    | some (.str s), some (.int _ i), some .string => if h : 0 ≤ i ∧ i.toNat < s.size then K (.int .u8 ((s[i.toNat]'h.2).toNat)) H else none
    | _, _, _ => none
  | .extract x i => match ev st x with
    | some (.tup vs) => match vs[i]? with
      | some v => K v H
      | none => none
    | _ => none
  | .call cl => match cl.callee with
    | .builtin .len => match evs st cl.args.toList, (cl.argTypes[0]?).bind c.P.underlying with
      | some [.str s], some .string => K (.int .i64 s.size) H
      | some [.sl _ _ n], some (.slice _) => K (.int .i64 n) H
      | some [_], some (.array n _) => K (.int .i64 n) H
      | _, _ => none
    | .builtin .cap => match evs st cl.args.toList, (cl.argTypes[0]?).bind c.P.underlying with
      | some [.sl es p n], some (.slice _) => if 8589934592 ≤ es ∧ p.isSome = true then K (.int .i64 (capOf es)) H else none
      | _, _ => none
    | .builtin .min => match evs st cl.args.toList with
      | some [.int k x, .int _ y] => K (.int k (if y < x then y else x)) H
      | _ => none
    | .builtin .max => match evs st cl.args.toList with
      | some [.int k x, .int _ y] => K (.int k (if y > x then y else x)) H
      | _ => none
    | .builtin .append => match evs st cl.args.toList, (cl.argTypes[0]?).bind c.P.underlying, (cl.argTypes[1]?).bind c.P.underlying with
      | some [.sl es p n, .sl es' q m], some (.slice e), some (.slice _) => if ((es == esOf c.P e || p.isNone) && (slE es' (esOf c.P e) || q.isNone) && decide (0 < esOf c.P e) && decide (esOf c.P e < 4294967296)) = true ∧ (zeroL c.P e).isSome = true then
          (getS (esOf c.P e) H q m).bind fun xs => (appH (esOf c.P e) (bytesOf c.P e) p n m xs H).bind fun r => K (.sl (esOf c.P e) r.2 (n + m)) r.1
        else if (decide (8589934592 ≤ es) && es % 8589934592 == esOf c.P e && (slE es' (esOf c.P e) || q.isNone) && decide (0 < esOf c.P e) && decide (esOf c.P e < 4294967296) && rwAt H p) = true ∧ (zeroL c.P e).isSome = true then
          (getS (esOf c.P e) H q m).bind fun xs => (appH (esOf c.P e) (bytesOf c.P e) p n m xs H).bind fun r => if eqPO r.2 p = true then K (.sl es r.2 (n + m)) r.1 else none
        else none
      | some [.sl es p n, .int _ m], some (.slice e), some (.int _) => match zeroL c.P e with
        | some z => if (decide (8589934592 ≤ es) && es % 8589934592 == esOf c.P e && decide (0 < esOf c.P e) && decide (esOf c.P e < 4294967296) && rwAt H p) = true ∧ 0 < m ∧ capOf es < n + m.toNat ∧ (n + m.toNat) * bytesOf c.P e ≤ 140737488355328 ∧ n + m.toNat ≤ 9223372036854775807 then
            (getS (esOf c.P e) H p n).bind fun xs => K (.sl (esOf c.P e) (some (H.length, 0)) (n + m.toNat)) (newH H (xs ++ rep m.toNat z))
          else none
        | none => none
      | some [.sl es p n, .str s], some (.slice e), some .string => if ((es == 1 || p.isNone) && esOf c.P e == 1) = true ∧ (zeroL c.P e).isSome = true then
          (appH (esOf c.P e) (bytesOf c.P e) p n s.size (bytesV s) H).bind fun r => K (.sl (esOf c.P e) r.2 (n + s.size)) r.1
        else none
      | _, _, _ => none
    | .builtin .copy => match evs st cl.args.toList, (cl.argTypes[0]?).bind c.P.underlying with
      | some [.sl es p n, .sl es' q m], some (.slice e) => if ((slE es (esOf c.P e) || p.isNone) && (slE es' (esOf c.P e) || q.isNone) && decide (0 < esOf c.P e)) = true then
          (getS (esOf c.P e) H q (min m n)).bind fun xs => (putS H p xs).bind fun H' => K (.int .i64 (min m n : Nat)) H'
        else none
      | _, _ => none
    | .builtin .clear => match evs st cl.args.toList, (cl.argTypes[0]?).bind c.P.underlying with
      | some [.sl es p n], some (.slice e) => match zeroL c.P e with
        | some z => if (slE es (esOf c.P e) || p.isNone) = true then (putS H p (rep n z)).bind fun H' => K (.tup []) H' else none
        | none => none
      | _, _ => none
    | .value f => match ev st f, evs st cl.args.toList with
      | some fv, some args => (call fv args H).bind fun r => callView c.P o.type r.1 fun v => K v r.2
      | _, _ => none
    | _ => none
  | _ => none

def maskL : List Bool → St → St
  | b :: bs, v :: vs => (if b then v else .undef) :: maskL bs vs
  | [], vs => vs
  | _, [] => []

def masked (c : Cfg) (f : FuncId) (id : Nat) (st : St) : St :=
  match c.masks f id with
  | some m => maskL m st
  | none => st

def opsX {R : Type} (c : Cfg) (call : CallF) (ops : Array Oper) : List Nat → St → Heap → (St → Heap → Option R) → Option R
  | [], st, H, K => K st H
  | i :: is, st, H, K =>
    match ops[i]? with
    | none => none
    | some o => match o.guard with
      | none => opX c call o st H fun v H => opsX c call ops is (putT st o.dst v) H K
      | some (j, want) => match (ops[j]?).bind (·.dst) with
        | none => none
        | some g => match st[g]? with
          | some (.bool b) =>
            if b = want then opX c call o (st.set g (.bool want)) H fun v H => opsX c call ops is (putT (st.set g (.bool want)) o.dst v) H K
            else opsX c call ops is (putT (st.set g (.bool (!want))) o.dst (.tup [])) H K
          | some (.tup []) => opsX c call ops is (putT st o.dst (.tup [])) H K
          | _ => none

def iterX {R : Type} (body : St → Heap → (Ex → St → Heap → Option R) → Option R) : Nat → St → Heap → (Ex → St → Heap → Option R) → Option R
  | 0, _, _, _ => none
  | n + 1, st, H, K => body st H fun e st H => match e with
    | .normal => iterX body n st H K
    | .exit id => K (.exit id) st H
    | .ret => K .ret st H

inductive Cls where
  | p | l | w
  deriving DecidableEq

def clsOf (P : Program) (o : Oper) : Cls :=
  match o.op with
  | .move _ | .assign _ | .pick .. | .build .. | .nilCheck _ | .binOp .. | .unOp .. | .makeFunc .. | .slice .. | .fieldAddr .. | .field .. | .indexAddr .. | .index .. | .extract .. => .p
  | .load _ _ => .l
  | .convert s t _ => match P.underlying t with
    | some (.int _) => .p
    | some .string => match P.underlying s with
      | some (.slice _) => .l
      | _ => .w
    | _ => .w
  | .call cl => match cl.callee with
    | .builtin .len | .builtin .min | .builtin .max => .p
    | _ => .w
  | _ => .w

def edgeMask (acc : List Nat) : List Edge → Nat
  | [] => 0
  | e :: es => if Region.binds .any e then (2 ^ e.on ||| acc.getD e.on 0) ||| edgeMask acc es else edgeMask acc es

/-- Of each operation, those that come before it whatever is drawn (a bit each). -/
def masksOf : List Oper → List Nat → List Nat
  | [], acc => acc
  | o :: os, acc => masksOf os (acc ++ [edgeMask acc o.after.toList])

def ordered (ms : List Nat) (i j : Nat) : Bool := (ms.getD j 0).testBit i || (ms.getD i 0).testBit j

def isA (o : Oper) : Bool :=
  match o.op with
  | .alloc _ | .box .. | .buildSlice .. => true
  | _ => false

/-- What a new variable holds, and its name. -/
def newX (c : Cfg) (o : Oper) (st : St) : Option (List V × (Nat → V)) :=
  match o.op with
  | .alloc t => match zeroL c.P t with
    | some z => some (z, fun s => .ptr (some (s, 0)))
    | none => none
  | .box _ x => match ev st x with
    | some .undef => none
    | some v => some (v.cells, fun s => .ptr (some (s, 0)))
    | none => none
  | .buildSlice t n parts => match c.P.underlying t, evParts st parts.toList with
    | some (.slice e), some ps => match zeroL c.P e with
      | some z => if n * esOf c.P e ≤ 16777216 ∧ 0 < esOf c.P e ∧ esOf c.P e < 8589934592 then
          match fillL (fun i => some (i * esOf c.P e, esOf c.P e)) (rep n z) ps with
          | some cs => some (cs, fun s => .sl (esOf c.P e) (some (s, 0)) n)
          | none => none
        else none
      | none => none
    | _, _ => none
  | _ => none

def readyL (ops : Array Oper) (done : List Nat) (i : Nat) : Bool :=
  match ops[i]? with
  | some o => !done.contains i && o.after.toList.all fun e => !Region.binds .any e || done.contains e.on
  | none => false

def isAat (ops : Array Oper) (i : Nat) : Bool :=
  match ops[i]? with
  | some o => isA o
  | none => false

def isWat (P : Program) (ops : Array Oper) (i : Nat) : Bool :=
  match ops[i]? with
  | some o => decide (clsOf P o = .w) && !isA o
  | none => false

def pickL (P : Program) (ops : Array Oper) (ms : List Nat) (done : List Nat) : Option Nat :=
  let todo := (List.range ops.size).filter (readyL ops done)
  match todo.find? fun i => !isAat ops i with
  | some i => some i
  | none => match (List.range ops.size).find? fun i => !done.contains i && isWat P ops i with
    | some w => match todo.find? fun i => (ms.getD w 0).testBit i with
      | some i => some i
      | none => todo.head?
    | none => todo.head?

def ordL (P : Program) (ops : Array Oper) (ms : List Nat) : Nat → List Nat → List Nat
  | 0, done => done
  | n + 1, done => match pickL P ops ms done with
    | some i => ordL P ops ms n (done ++ [i])
    | none => done

/-- The order in which the small machine takes a region's operations: the text's, but a new variable as late as can be. -/
def ordOf (P : Program) (ops : Array Oper) : List Nat :=
  if (List.range ops.size).any (isAat ops) then ordL P ops (masksOf ops.toList []) ops.size [] else List.range ops.size

def numA (P : Program) (ops : Array Oper) : Nat := ((ordOf P ops).filter (isAat ops)).length

def pairOk (P : Program) (ops : Array Oper) (ms : List Nat) (lt : Bool) (i j : Nat) : Bool :=
  match ops[i]?, ops[j]? with
  | some x, some y => i != j && ((match y.dst with
      | some d => x.dst != some d && (!(x.looksAt ops).contains d || ordered ms i j)
      | none => true) && (!(decide (clsOf P x = .w) && decide (clsOf P y = .w) && !isA y && lt) || (ms.getD j 0).testBit i))
  | _, _ => false

def edgesOk (ops : Array Oper) (before : List Nat) (i : Nat) : Bool :=
  match ops[i]? with
  | some o => o.after.toList.all fun e => !Region.binds .any e || before.contains e.on
  | none => false

def pairsOk (P : Program) (ops : Array Oper) (ms : List Nat) (i : Nat) : List Nat → Bool
  | [] => true
  | j :: js => pairOk P ops ms true i j && pairOk P ops ms false j i && pairsOk P ops ms i js

def ordOk (P : Program) (ops : Array Oper) (ms : List Nat) : List Nat → List Nat → Bool
  | _, [] => true
  | before, i :: is => edgesOk ops before i && pairsOk P ops ms i is && ordOk P ops ms (before ++ [i]) is

/-- Is the region one whose orders all come to the same, once 'chkX' has been asked? -/
def drawOk (P : Program) (ops : Array Oper) : Bool :=
  (List.range ops.size).all (fun i => (ordOf P ops).contains i) && ordOk P ops (masksOf ops.toList []) [] (ordOf P ops)

/-- What is read at a place: a variable of a type, or so many bytes as a text. -/
inductive Rd where
  | ty (t : TypeId)
  | txt (n : Nat)

def loadR (P : Program) (r : Rd) (H : Heap) (b o : Nat) : Option V :=
  match r with
  | .ty t => loadT P t H b o some
  | .txt n => (getS 1 H (some (b, o)) n).bind fun vs => (strV vs).bind fun l => some (.str ⟨l.toArray⟩)

structure Tr where
  v : V
  H : Heap
  p : Option (Rd × (Nat × Nat))
  s : Nat

def addrOf (o : Oper) (st : St) : Option (Rd × (Nat × Nat)) :=
  match o.op with
  | .load t x => match ev st x with
    | some (.ptr (some a)) => some (.ty t, a)
    | _ => none
  | .convert _ _ x => match ev st x with
    | some (.sl _ (some a) n) => some (.txt n, a)
    | _ => none
  | _ => none

/-- One operation of such a region: a new variable takes the place that is kept for it. -/
def opA {R : Type} (c : Cfg) (call : CallF) (s : Nat) (o : Oper) (st : St) (H : Heap) (K : V → Heap → Option R) : Option R :=
  if isA o then match newX c o st with
    | some (cs, mk) => K (mk s) (H.set s (.cells true cs))
    | none => none
  else opX c call o st H K

def slot' (s : Nat) (o : Oper) : Nat := if isA o then s + 1 else s

def opsD {R : Type} (c : Cfg) (call : CallF) (ops : Array Oper) : List Nat → Nat → St → Heap → List Tr → (St → Heap → List Tr → Option R) → Option R
  | [], _, st, H, tr, K => K st H tr
  | i :: is, s, st, H, tr, K =>
    match ops[i]? with
    | none => none
    | some o => match o.guard with
      | none => opA c call s o st H fun v H' => opsD c call ops is (slot' s o) (putT st o.dst v) H' (tr ++ [⟨v, H, addrOf o st, s⟩]) K
      | some (j, want) => match (ops[j]?).bind (·.dst) with
        | none => none
        | some g => match st[g]? with
          | some (.bool b) =>
            if b = want then opA c call s o (st.set g (.bool want)) H fun v H' => opsD c call ops is (slot' s o) (putT (st.set g (.bool want)) o.dst v) H' (tr ++ [⟨v, H, addrOf o (st.set g (.bool want)), s⟩]) K
            else opsD c call ops is (slot' s o) (putT (st.set g (.bool (!want))) o.dst (.tup [])) H (tr ++ [⟨.tup [], H, none, s⟩]) K
          | some (.tup []) => opsD c call ops is (slot' s o) (putT st o.dst (.tup [])) H (tr ++ [⟨.tup [], H, none, s⟩]) K
          | _ => none

def sameV : V → V → Bool
  | .int k n, .int k' m => decide (k = k') && decide (n = m)
  | .bool a, .bool b => a == b
  | .str a, .str b => decide (a = b)
  | .ptr p, .ptr q => decide (p = q)
  | .sl es p n, .sl es' q m => decide (es = es') && decide (p = q) && decide (n = m)
  | .nilFn, .nilFn => true
  | _, _ => false

def sameVs : List V → List V → Bool
  | [], [] => true
  | v :: vs, u :: us => sameV v u && sameVs vs us
  | _, _ => false

def sameVal : V → V → Bool
  | .agg vs, .agg us => sameVs vs us
  | v, u => sameV v u

def eqLoad (P : Program) (H : Heap) (p : Rd × (Nat × Nat)) (v : V) : Bool :=
  match loadR P p.1 H p.2.1 p.2.2 with
  | some u => sameVal v u
  | none => false

def hN (tr : List Tr) (Hm : Heap) (k : Nat) : Heap :=
  match tr[k]? with
  | some t => t.H
  | none => Hm

/-- A load against a new variable: another place. -/
def chkLA (ti tq : Tr) : Bool :=
  match ti.p with
  | none => true
  | some a => a.2.1 != tq.s

/-- A load against what may change the heap: before and behind, the same is read. -/
def chkLW (P : Program) (e : Nat) (ti tq : Tr) (Hn : Heap) : Bool :=
  match ti.p with
  | none => true
  | some a => (decide (a.2.1 < tq.s) || decide (e ≤ a.2.1)) && (eqLoad P tq.H a ti.v && eqLoad P Hn a ti.v)

def deadN (H : Heap) : Nat → Nat → Bool
  | _, 0 => true
  | s, n + 1 => (match H[s]? with
    | some .dead => true
    | _ => false) && deadN H (s + 1) n

/-- Position p against position q. -/
def chk1 (P : Program) (ops : Array Oper) (ms ord : List Nat) (e : Nat) (tr : List Tr) (Hm : Heap) (p q : Nat) : Bool :=
  match ord[p]?, ord[q]?, tr[p]?, tr[q]? with
  | some i, some j, some ti, some tq => match ops[i]?, ops[j]? with
    | some x, some y => if clsOf P x = .l ∧ clsOf P y = .w ∧ ordered ms i j = false then (if isA y then chkLA ti tq else chkLW P e ti tq (hN tr Hm (q + 1))) else true
    | _, _ => false
  | _, _, _, _ => false

def chkRow (P : Program) (ops : Array Oper) (ms ord : List Nat) (e : Nat) (tr : List Tr) (Hm : Heap) (p : Nat) : Nat → Bool
  | 0 => true
  | n + 1 => chk1 P ops ms ord e tr Hm p n && chkRow P ops ms ord e tr Hm p n

def chkDead (ops : Array Oper) (ord : List Nat) (e : Nat) (tr : List Tr) (q : Nat) : Bool :=
  match ord[q]?, tr[q]? with
  | some j, some tq => if isAat ops j then true else deadN tq.H tq.s (e - tq.s)
  | _, _ => false

def chkAll (P : Program) (ops : Array Oper) (ms ord : List Nat) (e : Nat) (tr : List Tr) (Hm : Heap) (m : Nat) : Nat → Bool
  | 0 => true
  | n + 1 => chkDead ops ord e tr n && chkRow P ops ms ord e tr Hm n m && chkAll P ops ms ord e tr Hm m n

/-- A region whose order is drawn. -/
def drawX {R : Type} (c : Cfg) (call : CallF) (ops : Array Oper) (st : St) (H : Heap) (K : St → Heap → Option R) : Option R :=
  if drawOk c.P ops then
    opsD c call ops (ordOf c.P ops) H.length st (H ++ List.replicate (numA c.P ops) .dead) [] fun st H' tr =>
      if chkAll c.P ops (masksOf ops.toList []) (ordOf c.P ops) (H.length + numA c.P ops) tr H' ops.size ops.size then K st H' else none
  else none

def hasBody (P : Program) (f : FuncId) : Bool :=
  match P.funcs[f]? with
  | some fn => fn.body.isSome
  | none => false

def isLoop (H : Heap) : Option Nat → Bool
  | none => true
  | some l => match H[l]? with
    | some (.loop _) => true
    | _ => false

/-- Code: of function f, with at most n rounds a loop, in a round of loop rd. -/
def codeX {R : Type} (c : Cfg) (call : CallF) (f : FuncId) (n : Nat) (rd : Option Nat) : Code → St → Heap → (Ex → St → Heap → Option R) → Option R
  | .skip, st, H, K => K .normal st H
  | .region id ops draw, st, H, K =>
    if draw then drawX c call ops (masked c f id st) H (K .normal)
    else opsX c call ops (List.range ops.size) (masked c f id st) H (K .normal)
  | .seq a b, st, H, K => codeX c call f n rd a st H fun e st H => match e with
    | .normal => codeX c call f n rd b st H K
    | .exit id => K (.exit id) st H
    | .ret => K .ret st H
  | .cond x a b, st, H, K => match ev st x with
    | some (.bool t) => if t = true then codeX c call f n rd a st H K else codeX c call f n rd b st H K
    | _ => none
  | .block id a, st, H, K => codeX c call f n rd a st H fun e st H => match e with
    | .normal => K .normal st H
    | .exit i => if i = id then K .normal st H else K (.exit i) st H
    | .ret => K .ret st H
  | .loop a, st, H, K => iterX (codeX c call f n rd a) n st H K
  | .scope a, st, H, K => codeX c call f n rd a st H K
  | .label _, st, H, K => K .normal st H
  | .exit id, st, H, K => K (.exit id) st H
  | .ret, st, H, K => K .ret st H
  | .rangeFunc x params assign body, st, H, K =>
    match ev st x with
    | some (.fn g cs) => if (isLoop H rd && hasBody c.P g) = true then
      (call (.fn g cs) [.yld H.length] (H ++ [.loop { fid := f, state := .ready, pending := none, st := st, params := params, assign := assign, body := body }])).bind fun r =>
      match r.2[H.length]? with
      | some (.loop l) => if l.state = .busy then none else
        match l.pending with
        | none => K .normal st (r.2.set H.length .dead)
        | some (.exit id) => K (.exit id) st (r.2.set H.length .dead)
        | some .ret => K .ret st (r.2.set H.length .dead)
        | _ => none
      | _ => none
      else none
    | _ => none
  | _, _, _, _ => none

/-- What a function hands back. -/
def resX {R : Type} (P : Program) (st : St) (H : Heap) : List ResultVar → (List V → Option R) → Option R
  | [], K => K []
  | .tmp t :: rs, K => match st[t]? with
    | some v => resX P st H rs fun vs => K (v :: vs)
    | none => none
  | .cell a t :: rs, K => match st[a]? with
    | some (.ptr p) => p.bind fun q => loadT P t H q.1 q.2 fun v => resX P st H rs fun vs => K (v :: vs)
    | _ => none

def oneOf : List V → V
  | [v] => v
  | vs => .tup vs

def V.plain : V → Bool
  | .int _ _ => true
  | .bool _ => true
  | .str _ => true
  | .ptr none => true
  | .sl _ none _ => true
  | .nilFn => true
  | .nilIface => true
  | _ => false

def plains : List V → Bool
  | [] => true
  | v :: vs => v.plain && plains vs

def setParams (st : St) : List Tmp → List V → St
  | t :: ts, v :: vs => setParams (st.set t v) ts vs
  | _, _ => st

def endOf : Ex → LoopState
  | .normal => .ready
  | _ => .done

def isNormal : Ex → Bool
  | .normal => true
  | _ => false

def callX (c : Cfg) : Nat → CallF
  | 0, _, _, _ => none
  | k + 1, .fn f cs, args, H =>
    match c.P.funcs[f]? with
    | none => none
    | some fn => match fn.body with
      | none => none
      | some body => if fn.name == "runtime.NumGoroutine" then none else
        if c.iso.contains f then
          (if plains args && plains cs then
            (codeX c (callX c k) f (k + 1) none body (args ++ cs ++ List.replicate (fn.ntmps - (args ++ cs).length) (.tup [])) [] fun e st H' => match e with
              | .exit _ => none
              | _ => resX c.P st H' fn.results.toList fun vs => some (oneOf vs, H')).bind fun r => if r.1.plain then some (r.1, H) else none
          else none)
        else
        codeX c (callX c k) f (k + 1) none body (args ++ cs ++ List.replicate (fn.ntmps - (args ++ cs).length) (.tup [])) H fun e st H' => match e with
          | .exit _ => none
          | _ => resX c.P st H' fn.results.toList fun vs => some (oneOf vs, H')
  | k + 1, .yld l, args, H =>
    match H[l]? with
    | some (.loop r) => if r.state = .ready ∧ args.length = r.params.size then
        codeX c (callX c k) r.fid (k + 1) (some l) r.assign (setParams r.st r.params.toList args) H fun e st1 H1 => match e with
          | .normal => match H1[l]? with
            | some (.loop r1) => if r1.state = .ready then
                codeX c (callX c k) r.fid (k + 1) (some l) r.body st1 (H1.set l (.loop { r1 with state := .busy })) fun e st2 H2 => match H2[l]? with
                  | some (.loop r2) => some (.bool (isNormal e), H2.set l (.loop { r2 with state := endOf e, pending := e.code }))
                  | _ => none
              else none
            | _ => none
          | _ => none
      else none
    | _ => none
  | _ + 1, _, _, _ => none

end Go.Vm
