import Derived.Orders
import Derived.KernelRfl
import Derived.Below
import Derived.Laws.Rows
namespace Go.Ab

/-- an abstract block: its cells, may it be written, how many cells an element has -/
structure Blk where
  cells : List Value
  own : Bool
  es : Nat

abbrev Heap := List (Option Blk)
abbrev Env := Nat → Option Value

abbrev Orc := FuncId → List Value → Option Value
abbrev HOrc := FuncId → List Value → Heap → Option (Value × Heap)

/-- the program; the calls that look at no memory; which functions these are; variables of the package -/
structure Cx where
  P : Program
  orc : Orc
  pf : FuncId → Bool
  glob : Nat → Option (List Value)

def Env.set (e : Env) (k : Nat) (v : Option Value) : Env := fun j => bif Nat.beq j k then v else e j

/-- a capacity that is not known -/
def capU : Nat := 2 ^ 64

/-- a cell that leads to no memory -/
def plainC : Value → Bool
  | .agg _ | .tuple _ | .pointer (some _) | .slice (some _) _ _ => false
  | .slice none l c => Nat.beq l 0 && Nat.beq c 0
  | _ => true

def plainV : Value → Bool
  | .agg cs => cs.toList.all plainC
  | v => plainC v

def plainT : Value → Bool
  | .tuple vs => vs.toList.all plainV
  | v => plainV v

/-- an unsigned number that its kind holds -/
def wfcB : Value → Bool
  | .int k n => k.signed || (decide (0 ≤ n) && decide (n ≤ k.max))
  | .agg _ | .tuple _ => false
  | _ => true

/-- the cells of a value -/
def vcells : Value → List Value
  | .agg cs => cs.toList
  | v => [v]

def evo (e : Env) : Operand → Option Value
  | .tmp t => e t
  | .const v => bif plainV v && (vcells v).all wfcB then some v else none
  | .global g => some (.pointer (some ⟨g, 0, some 0⟩))
  | .func f => some (.func (.func f) #[] #[])

def isTup : Value → Bool
  | .tuple _ => true
  | _ => false

def szOf (P : Program) (t : TypeId) : Option Nat := (P.info? t).map (·.size)
def zeroOf (P : Program) (t : TypeId) : Option Value := ((P.info? t).bind (·.zero)).bind fun z => bif (vcells z).all wfcB then some z else none
def bytesOf (P : Program) (t : TypeId) : Option Nat := (P.info? t).map (·.bytes)

def aggT : TypeDesc → Bool
  | .struct _ | .array _ _ => true
  | _ => false

/-- a part of cells -/
def apart (P : Program) (t : TypeId) (cs : List Value) (off : Nat) : Option Value :=
  match P.underlying t, szOf P t with
  | some d, some n =>
    if aggT d then (bif Nat.ble (off + n) cs.length then some (.agg ⟨(cs.drop off).take n⟩) else none) else cs[off]?
  | _, _ => none

def blkAt (H : Heap) (i : Nat) : Option Blk := (H[i]?).bind id

/-- the cells of an address's block ('spot': a variable of the package) -/
def cellsAt (X : Cx) (H : Heap) (a : Addr) : Option (List Value) :=
  match a.spot with
  | none => (blkAt H a.block).map (·.cells)
  | some _ => X.glob a.block

def ald (X : Cx) (H : Heap) (t : TypeId) (a : Value) : Option Value :=
  match a with
  | .pointer (some a) => (cellsAt X H a).bind fun cs => apart X.P t cs a.off
  | _ => none

def splice (cs : List Value) (off : Nat) (vs : List Value) : List Value :=
  match vs with
  | [v] => cs.set off v
  | vs => cs.take off ++ vs ++ cs.drop (off + vs.length)

def ast (P : Program) (H : Heap) (t : TypeId) (a v : Value) : Option Heap :=
  match a with
  | .pointer (some ⟨i, off, none⟩) =>
    match blkAt H i, szOf P t with
    | some b, some n => bif b.own && Nat.beq (vcells v).length n && Nat.ble (off + n) b.cells.length && !isTup v then some (H.set i (some { b with cells := splice b.cells off (vcells v) })) else none
    | _, _ => none
  | _ => none

def ibin (op : BinOp) (k : IntKind) (a b : Int) : Option Value :=
  match op with
  | .add => some (.int k (k.wrap (a + b)))
  | .sub => some (.int k (k.wrap (a - b)))
  | .mul => some (.int k (k.wrap (a * b)))
  | .quo => if b = 0 then none else some (.int k (k.wrap (a.tdiv b)))
  | .rem => if b = 0 then none else some (.int k (a.tmod b))
  | .and => some (.int k (k.wrap (BitVec.ofInt k.bits a &&& BitVec.ofInt k.bits b).toNat))
  | .or => some (.int k (k.wrap (BitVec.ofInt k.bits a ||| BitVec.ofInt k.bits b).toNat))
  | .xor => some (.int k (k.wrap (BitVec.ofInt k.bits a ^^^ BitVec.ofInt k.bits b).toNat))
  | .andNot => some (.int k (k.wrap (BitVec.ofInt k.bits a &&& ~~~BitVec.ofInt k.bits b).toNat))
  | .eql => some (.bool (a == b))
  | .neq => some (.bool (a != b))
  | .lss => some (.bool (a < b))
  | .leq => some (.bool (a ≤ b))
  | .gtr => some (.bool (a > b))
  | .geq => some (.bool (a ≥ b))
  | _ => none

def ishift (op : BinOp) (k : IntKind) (a b : Int) : Option Value :=
  if b < 0 then none else
  match op with
  | .shl => some (.int k (k.wrap (a * 2 ^ (min b.toNat k.bits))))
  | .shr => some (.int k (a.fdiv (2 ^ (min b.toNat k.bits))))
  | _ => none

def allB : List (Option Bool) → Option Bool
  | [] => some true
  | o :: r => o.bind fun b => (allB r).map fun c => b && c

/-- two values alike: ints and bools, and what is made of these -/
def aeqIn (P : Program) : Nat → TypeId → Value → Value → Option Bool
  | 0, _, _, _ => none
  | d + 1, t, x, y => match P.underlying t, x, y with
    | some .bool, .bool a, .bool b => some (a == b)
    | some (.int _), .int k a, .int k' b => if k = k' then some (a == b) else none
    | some (.struct fs), .agg xs, .agg ys => bif P.stoodInHeld t then none else
      allB (fs.toList.map fun f => if f.name ≠ "_" then (apart P f.type xs.toList f.offset).bind fun a => (apart P f.type ys.toList f.offset).bind fun b => aeqIn P d f.type a b else some true)
    | some (.array len e), .agg xs, .agg ys => (szOf P e).bind fun n =>
      allB ((List.range' 0 len).map fun i => (apart P e xs.toList (i * n)).bind fun a => (apart P e ys.toList (i * n)).bind fun b => aeqIn P d e a b)
    | _, _, _ => none

def aeq (P : Program) (t : TypeId) (x y : Value) : Option Bool :=
  match x, y with
  | .int k a, .int k' b => if k = k' then some (a == b) else none
  | .bool _, .bool _ => aeqIn P 20 t x y
  | .agg _, .agg _ => bif P.eqGuardType P.depth t then none else aeqIn P 20 t x y
  | _, _ => none

def abin (P : Program) (op : BinOp) (t : TypeId) (x y : Value) : Option Value :=
  match op, x, y with
  | .shl, .int k a, .int _ b | .shr, .int k a, .int _ b => ishift op k a b
  | op, .int k a, .int k' b => if k = k' then ibin op k a b else none
  | .eql, x, y => (aeq P t x y).map .bool
  | .neq, x, y => (aeq P t x y).map fun b => .bool !b
  | _, _, _ => none

def aun (op : UnOp) (x : Value) : Option Value :=
  match op, x with
  | .neg, .int k n => some (.int k (k.wrap (0 - n)))
  | .xor, .int k n => some (.int k (k.wrap (BitVec.ofInt k.bits (if k.signed then -1 else k.max) ^^^ BitVec.ofInt k.bits n).toNat))
  | .not, .bool b => some (.bool !b)
  | _, _ => none

def aconv (P : Program) (dst : TypeId) (x : Value) : Option Value :=
  match P.underlying dst, x with
  | some (.int k), .int _ n => some (.int k (k.wrap n))
  | _, _ => none

def aint : Value → Option Int
  | .int _ n => some n
  | _ => none

def abound (m : Nat) (x : Option Value) : Option Nat := (x.bind aint).bind fun i => if 0 ≤ i ∧ i ≤ (m : Int) then some i.toNat else none

/-- low, high, max of a slice expression -/
def abounds (len cap : Nat) (lo hi mx : Option (Option Value)) : Option (Nat × Nat × Nat) :=
  (match mx with
    | some v => abound cap v
    | none => some cap).bind fun m =>
  (match hi, mx with
    | some v, _ => abound m v
    | none, none => some len
    | none, some _ => none).bind fun h =>
  (match lo with
    | some v => abound h v
    | none => some 0).bind fun l => some (l, h, m)

def addA (a : Addr) (n : Nat) : Addr := ⟨a.block, a.off + n, a.spot⟩

def aslice (P : Program) (t : TypeId) (x : Value) (lo hi mx : Option (Option Value)) : Option Value :=
  match P.underlying t, x with
  | some (.slice e), .slice a len cap =>
    (szOf P e).bind fun sz =>
    bif Nat.beq cap capU then
      match mx with
      | none => (abounds len len lo hi none).bind fun (l, h, _) => some (.slice (a.map (addA · (l * sz))) (h - l) capU)
      | some v => bif Nat.blt 0 len then (abounds len len lo hi (some v)).bind fun (l, h, m) => some (.slice (if m = l then a else a.map (addA · (l * sz))) (h - l) (m - l)) else none
    else bif Nat.ble len cap then (abounds len cap lo hi mx).bind fun (l, h, m) => some (.slice (if m = l then a else a.map (addA · (l * sz))) (h - l) (m - l)) else none
  | some (.array n e), .pointer (some a) =>
    (szOf P e).bind fun sz => bif Nat.blt n capU then (abounds n n lo hi mx).bind fun (l, h, m) => some (.slice (some (if m = l then a else addA a (l * sz))) (h - l) (m - l)) else none
  | _, _ => none

def aindexAddr (P : Program) (t : TypeId) (x i : Value) : Option Value :=
  match P.underlying t, x, aint i with
  | some (.array len e), .pointer (some a), some i => (szOf P e).bind fun sz => if 0 ≤ i ∧ i < len then some (.pointer (some (addA a (i.toNat * sz)))) else none
  | some (.slice e), .slice (some a) len _, some i => (szOf P e).bind fun sz => if 0 ≤ i ∧ i < len then some (.pointer (some (addA a (i.toNat * sz)))) else none
  | _, _, _ => none

def aindex (P : Program) (t : TypeId) (x i : Value) : Option Value :=
  match P.underlying t, x, aint i with
  | some (.array len e), .agg cs, some i => (szOf P e).bind fun sz => if 0 ≤ i ∧ i < len then apart P e cs.toList (i.toNat * sz) else none
  | some .string, .string s, some i => if 0 ≤ i ∧ i < s.size then some (.int .u8 (s.data.toList.getD i.toNat 0).toNat) else none
  | _, _, _ => none

def afieldAddr (P : Program) (s : TypeId) (x : Value) (f : Nat) : Option Value :=
  match P.underlying s, x with
  | some (.struct fs), .pointer (some a) => (fs.toList[f]?).bind fun f => (szOf P f.type).bind fun n => if n = 0 then none else some (.pointer (some (addA a f.offset)))
  | _, _ => none

def afield (P : Program) (s : TypeId) (x : Value) (f : Nat) : Option Value :=
  match P.underlying s, x with
  | some (.struct fs), .agg cs => (fs.toList[f]?).bind fun f => apart P f.type cs.toList f.offset
  | _, _ => none

/-- the parts of a literal laid into zero cells -/
def afill (place : Nat → Option (Nat × Nat)) (cells : List Value) : List (Nat × Value) → Option (List Value)
  | [] => some cells
  | (i, v) :: rest => (place i).bind fun (off, size) =>
    if isTup v = false ∧ (vcells v).length = size ∧ off + size ≤ cells.length then afill place (splice cells off (vcells v)) rest else none

def evParts (e : Env) : List (Nat × Operand) → Option (List (Nat × Value))
  | [] => some []
  | (i, x) :: r => (evo e x).bind fun v => (evParts e r).map fun l => (i, v) :: l

def abuild (P : Program) (t : TypeId) (parts : List (Nat × Value)) : Option Value :=
  match P.underlying t, zeroOf P t with
  | some (.struct fs), some z => bif !(vcells z).all plainC then none else
    (fs.toList.mapM fun f => (P.info? f.type).map fun i => (f.offset, i.size)).bind fun places => (afill (places.toArray[·]?) (vcells z) parts).map fun cs => .agg ⟨cs⟩
  | some (.array _ e), some z => bif !(vcells z).all plainC then none else (szOf P e).bind fun sz => (afill (fun i => some (i * sz, sz)) (vcells z) parts).map fun cs => .agg ⟨cs⟩
  | _, _ => none

def alen (P : Program) (t : TypeId) (x : Value) : Option Value :=
  match P.underlying t, x with
  | some .string, .string s => some (.int .i64 s.size)
  | some (.array n _), _ => some (.int .i64 n)
  | some (.slice _), .slice _ n _ => some (.int .i64 n)
  | _, _ => none

def evArgs (e : Env) : List Operand → Option (List Value)
  | [] => some []
  | x :: r => (evo e x).bind fun v => (evArgs e r).map fun l => v :: l

/-- where a call goes -/
def target (e : Env) : Operand → Option FuncId
  | x => match evo e x with
    | some (.func (.func f) ⟨[]⟩ ⟨[]⟩) => some f
    | _ => none

def mstep (f : Int → Int → Int) (acc : Option Value) (y : Value) : Option Value :=
  match acc, y with
  | some (.int k x), .int k' y => if k = k' then some (.int k (f x y)) else none
  | _, _ => none
def amin : List Value → Option Value
  | .int k x :: r => r.foldl (mstep fun x y => if y < x then y else x) (some (.int k x))
  | _ => none
def amax : List Value → Option Value
  | .int k x :: r => r.foldl (mstep fun x y => if y > x then y else x) (some (.int k x))
  | _ => none

/-- what an operation gives that looks at no memory -/
def pv (X : Cx) (e : Env) (op : Op) : Option Value :=
  let P := X.P
  match op with
  | .move x | .assign x => evo e x
  | .pick c a b => match evo e c with
    | some (.bool true) => evo e a
    | some (.bool false) => evo e b
    | _ => none
  | .build t parts => (evParts e parts.toList).bind (abuild P t)
  | .nilCheck x => match evo e x with
    | some (.pointer (some a)) => some (.pointer (some a))
    | _ => none
  | .binOp op t x y _ => (evo e x).bind fun x => (evo e y).bind fun y => abin P op t x y
  | .unOp op _ x => (evo e x).bind fun x => aun op x
  | .convert src dst x => (P.underlying src).bind fun _ => (evo e x).bind fun x => aconv P dst x
  | .slice t x lo hi mx => (evo e x).bind fun x => aslice P t x (lo.map (evo e)) (hi.map (evo e)) (mx.map (evo e))
  | .fieldAddr t x f => (evo e x).bind fun x => afieldAddr P t x f
  | .field t x f => (evo e x).bind fun x => afield P t x f
  | .indexAddr t x i => (evo e x).bind fun x => (evo e i).bind fun i => aindexAddr P t x i
  | .index t x i => (evo e x).bind fun x => (evo e i).bind fun i => aindex P t x i
  | .extract x i => match evo e x with
    | some (.tuple vs) => vs.toList[i]?
    | _ => none
  | .call c => match c.callee with
    | .builtin .len => match c.argTypes.toList, c.args.toList with
      | [t], [x] => (evo e x).bind (alen P t)
      | _, _ => none
    | .builtin .min => (evArgs e c.args.toList).bind amin
    | .builtin .max => (evArgs e c.args.toList).bind amax
    | .value f => (target e f).bind fun f => (evArgs e c.args.toList).bind fun l => X.orc f l
    | _ => none
  | _ => none

def rowOf (X : Cx) (H : Heap) (sz n : Nat) : Value → Option (List Value)
  | .slice (some a) _ _ => bif Nat.beq n 0 then some [] else (cellsAt X H a).bind fun cs => if a.off + n * sz ≤ cs.length then some ((cs.drop a.off).take (n * sz)) else none
  | .slice none _ _ => if n = 0 then some [] else none
  | .string s => some ((s.data.toList.take n).map fun b => .int .u8 b.toNat)
  | _ => none

def lenV : Value → Option Nat
  | .slice _ n _ => some n
  | .string s => some s.size
  | _ => none

def zerosN (z : List Value) : Nat → List Value
  | 0 => []
  | n + 1 => z ++ zerosN z n

/-- builtin copy -/
def acopy (X : Cx) (H : Heap) (t : TypeId) (dst src : Value) : Option (Value × Heap) :=
  match X.P.underlying t, dst with
  | some (.slice e), .slice a dl _ =>
    (szOf X.P e).bind fun sz => (lenV src).bind fun sl =>
    let n := Nat.min sl dl
    (rowOf X H sz n src).bind fun cs =>
    match a with
    | none => some (.int .i64 n, H)
    | some ⟨i, off, none⟩ => (blkAt H i).bind fun b => if b.own ∧ off + cs.length ≤ b.cells.length then some (.int .i64 n, H.set i (some { b with cells := splice b.cells off cs })) else none
    | _ => none
  | _, _ => none

def strOne (sz : Nat) : Value → Bool
  | .string _ => Nat.beq sz 1
  | _ => true

/-- builtin append -/
def aappend (X : Cx) (H : Heap) (t : TypeId) (s x : Value) : Option (Value × Heap) :=
  match X.P.underlying t, s with
  | some (.slice e), .slice a l cap =>
    (szOf X.P e).bind fun sz => (bytesOf X.P e).bind fun by_ => (zeroOf X.P e).bind fun z => (lenV x).bind fun n => (rowOf X H sz n x).bind fun new =>
    bif !(strOne sz x && Nat.beq (vcells z).length sz) then none else
    bif Nat.beq cap capU then
      match a with
      | some ⟨i, 0, none⟩ => (blkAt H i).bind fun b =>
        if b.own ∧ b.es = sz ∧ 0 < sz ∧ 0 < by_ ∧ b.cells.length = l * sz ∧ (l + n) * by_ ≤ 2 ^ 47 then
          some (.slice (some ⟨H.length, 0, none⟩) (l + n) capU, H.set i none ++ [some { cells := b.cells ++ new, own := true, es := sz }])
        else none
      | _ => none
    else if l + n ≤ cap then
      match a with
      | none => some (s, H)
      | some ⟨i, off, none⟩ =>
        if n = 0 then some (s, H)
        else (blkAt H i).bind fun b => if b.own ∧ off + (l + n) * sz ≤ b.cells.length then some (.slice a (l + n) cap, H.set i (some { b with cells := splice b.cells (off + l * sz) new })) else none
      | _ => none
    else if 0 < sz ∧ 0 < by_ ∧ (l + n) * by_ ≤ 2 ^ 47 then
      (rowOf X H sz l s).bind fun old => some (.slice (some ⟨H.length, 0, none⟩) (l + n) capU, H ++ [some { cells := old ++ new, own := true, es := sz }])
    else none
  | _, _ => none

def isPure (pf : FuncId → Bool) (op : Op) : Bool :=
  match op with
  | .move _ | .assign _ | .pick .. | .build .. | .nilCheck _ | .binOp .. | .unOp .. | .convert .. | .slice .. | .fieldAddr .. | .field .. | .indexAddr .. | .index .. | .extract .. => true
  | .call c => match c.callee with
    | .builtin .len | .builtin .min | .builtin .max => true
    | .value (.func f) => pf f
    | .value _ => true
    | _ => false
  | _ => false

def isRead (op : Op) : Bool := match op with | .load .. => true | _ => false
def isGrow (op : Op) : Bool := match op with | .alloc _ | .box .. => true | _ => false

/-- what an operation does that may look at memory, and write it -/
def av (X : Cx) (hc : HOrc) (e : Env) (H : Heap) (op : Op) : Option (Option Value × Heap) :=
  match op with
  | .load t a => (evo e a).bind fun a => (ald X H t a).map fun v => (some v, H)
  | .alloc t => (zeroOf X.P t).bind fun z => (szOf X.P t).bind fun n => bif (vcells z).all plainC then some (some (.pointer (some ⟨H.length, 0, none⟩)), H ++ [some { cells := vcells z, own := true, es := n }]) else none
  | .box t x => (evo e x).bind fun x => (szOf X.P t).bind fun n => match x with
    | .tuple _ => none
    | x => some (some (.pointer (some ⟨H.length, 0, none⟩)), H ++ [some { cells := vcells x, own := true, es := n }])
  | .store t a x => (evo e a).bind fun a => (evo e x).bind fun x => (ast X.P H t a x).map fun H => (none, H)
  | .buildSlice t len parts => match X.P.underlying t with
    | some (.slice el) => (szOf X.P el).bind fun sz => (zeroOf X.P el).bind fun z => (evParts e parts.toList).bind fun ps =>
      (afill (fun i => some (i * sz, sz)) (zerosN (vcells z) len) ps).bind fun cs =>
      if len * sz ≤ 2 ^ 24 ∧ 0 < sz ∧ (vcells z).length = sz ∧ (vcells z).all plainC then some (some (.slice (some ⟨H.length, 0, none⟩) len len), H ++ [some { cells := cs, own := true, es := sz }]) else none
    | _ => none
  | .makeSlice t l c => match X.P.underlying t with
    | some (.slice el) => (szOf X.P el).bind fun sz => (bytesOf X.P el).bind fun by_ => (zeroOf X.P el).bind fun z => ((evo e l).bind aint).bind fun l => ((evo e c).bind aint).bind fun c =>
      if 0 ≤ l ∧ l ≤ c ∧ c * by_ ≤ 2 ^ 47 ∧ c < 2 ^ 63 ∧ 0 < sz ∧ (vcells z).length = sz ∧ (vcells z).all plainC then some (some (.slice (some ⟨H.length, 0, none⟩) l.toNat c.toNat), H ++ [some { cells := zerosN (vcells z) c.toNat, own := true, es := sz }]) else none
    | _ => none
  | .call c => match c.callee with
    | .builtin .append => match c.argTypes.toList, c.args.toList with
      | [t, t2], [s, x] => match X.P.underlying t2 with
        | some (.slice _) | some .string => (evo e s).bind fun s => (evo e x).bind fun x => (aappend X H t s x).map fun (v, H) => (some v, H)
        | _ => none
      | _, _ => none
    | .builtin .copy => match c.argTypes.toList, c.args.toList with
      | t :: _, [s, x] => (evo e s).bind fun s => (evo e x).bind fun x => (acopy X H t s x).map fun (v, H) => (some v, H)
      | _, _ => none
    | .value (.func f) => (evArgs e c.args.toList).bind fun l => (hc f l H).map fun (v, H) => (some v, H)
    | _ => none
  | _ => none

/-- an operation -/
def aop (X : Cx) (hc : HOrc) (e : Env) (H : Heap) (op : Op) : Option (Option Value × Heap) :=
  bif isPure X.pf op then (pv X e op).map fun v => (some v, H) else av X hc e H op

structure St where
  env : Env
  heap : Heap

/-- is an operation wanted? none: not known -/
def awanted (e : Env) (ops : Array Oper) (o : Oper) : Option Bool :=
  match o.guard with
  | none => some true
  | some (j, want) => match (ops[j]?).bind (·.dst) with
    | some d => match e d with
      | some (.bool b) => some (b == want)
      | some (.tuple ⟨[]⟩) => some false
      | _ => none
    | none => none

def putS (e : Env) (dst : Option Tmp) (v : Option Value) : Env :=
  match dst with
  | some d => e.set d v
  | none => e

def fitsN (N : Nat) : Option Tmp → Bool
  | some d => Nat.blt d N
  | none => true

def act1 (X : Cx) (hc : HOrc) (ops : Array Oper) (N : Nat) (e : Env) (H : Heap) (o : Oper) : Option (Option Value × Heap) :=
  bif fitsN N o.dst then
    match awanted e ops o with
    | some true => aop X hc e H o.op
    | some false => some (some (.tuple ⟨[]⟩), H)
    | none => none
  else none

def run1 (X : Cx) (hc : HOrc) (ops : Array Oper) (N : Nat) (s : St) (o : Oper) : Option St :=
  (act1 X hc ops N s.env s.heap o).map fun (v, H) => ⟨putS s.env o.dst v, H⟩

def runL (X : Cx) (hc : HOrc) (ops : Array Oper) (N : Nat) : List Oper → St → Option St
  | [], s => some s
  | o :: r, s => (run1 X hc ops N s o).bind (runL X hc ops N r)

/-- may y, which stands behind x in the text, be done ahead of x? -/
def mayPass (pf : FuncId → Bool) (ops : Array Oper) (x y : Oper) : Bool :=
  x.apart ops y && (isPure pf x.op || isPure pf y.op || (isRead x.op && (isRead y.op || isGrow y.op)))

/-- whatever is not held in the text's order may be done in either -/
def orderOk (pf : FuncId → Bool) (ops : Array Oper) : Bool :=
  let b := Region.before ops
  let l := ops.toList.zipIdx
  l.all fun (y, j) => y.after.toList.all (fun e => !Region.binds .any e || Nat.blt e.on j) && l.all fun (x, i) => !Nat.blt i j || (b.getD j 0).testBit i || mayPass pf ops x y

inductive AExit where
  | normal | ret
  | exit (id : Nat)

/-- code, with so much fuel -/
def runC (X : Cx) (hc : HOrc) (N : Nat) : Nat → Code → St → Option (AExit × St)
  | 0, _, _ => none
  | n + 1, c, s =>
    match c with
    | .skip => some (.normal, s)
    | .region _ ops draw => bif !draw || orderOk X.pf ops then (runL X hc ops N ops.toList s).map fun s => (.normal, s) else none
    | .seq a b => (runC X hc N n a s).bind fun (x, s) => match x with
      | .normal => runC X hc N n b s
      | x => some (x, s)
    | .cond c a b => match evo s.env c with
      | some (.bool t) => bif t then runC X hc N n a s else runC X hc N n b s
      | _ => none
    | .block id b => (runC X hc N n b s).map fun (x, s) => match x with
      | .exit i => (bif Nat.beq i id then .normal else .exit i, s)
      | x => (x, s)
    | .loop b => (runC X hc N n b s).bind fun (x, s) => match x with
      | .normal => runC X hc N n (.loop b) s
      | x => some (x, s)
    | .exit id => some (.exit id, s)
    | .label _ => some (.normal, s)
    | .ret => some (.ret, s)
    | _ => none

def envOf (args : List Value) : Env := fun k => args[k]?

def ares1 (X : Cx) (s : St) : ResultVar → Option Value
  | .tmp t => (s.env t).bind fun v => bif isTup v then none else some v
  | .cell a t => (s.env a).bind (ald X s.heap t)

def aresL (X : Cx) (s : St) : List ResultVar → Option (List Value)
  | [] => some []
  | r :: l => (ares1 X s r).bind fun v => (aresL X s l).map fun vs => v :: vs

def aresults (X : Cx) (fn : Func) (s : St) : Option Value :=
  (aresL X s fn.results.toList).map fun vs => match vs with | [v] => v | vs => .tuple ⟨vs⟩

/-- a body -/
def runB (X : Cx) (hc : HOrc) (fuel : Nat) (fn : Func) (args : List Value) (H : Heap) : Option (Value × Heap) :=
  fn.body.bind fun c => (runC X hc fn.ntmps fuel c ⟨envOf args, H⟩).bind fun (x, s) =>
    match x with
    | .exit _ => none
    | _ => (aresults X fn s).map fun v => (v, s.heap)

/-- a whole call; what it calls goes by 'orc', or is walked through, so deep -/
def runF (X : Cx) (fuel : Nat) : Nat → HOrc
  | 0, _, _, _ => none
  | d + 1, f, args, H => (X.P.funcs[f]?).bind fun fn => bif fn.name == "runtime.NumGoroutine" || Nat.blt fn.ntmps args.length then none else runB X (runF X fuel d) fuel fn args H

end Go.Ab
