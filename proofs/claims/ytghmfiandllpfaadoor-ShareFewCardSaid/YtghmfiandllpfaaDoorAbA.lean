import Derived.Orders
import Derived.KernelRfl
import Derived.Below
import Derived.Laws.Rows
import Derived.Laws.CopyRow
import Derived.Laws.NewBlocks
import Derived.Laws.StructEq
import Derived.LoopN
namespace Go.Ab
structure Blk where
  cells : List Value
  own : Bool
  es : Nat
abbrev Heap := List (Option Blk)
abbrev Env := Nat → Option Value
abbrev Orc := FuncId → List Value → Option Value
abbrev HOrc := FuncId → List Value → Heap → Option (Value × Heap)
structure Cx where
  P : Program
  orc : Orc
  pf : FuncId → Bool
  glob : Nat → Option (List Value)
def Env.set (e : Env) (k : Nat) (v : Option Value) : Env := fun j => bif Nat.beq j k then v else e j
def capU : Nat := 2 ^ 64
def plainC : Value → Bool
  | .agg _ | .tuple _ | .pointer (some _) | .slice (some _) _ _ => false
  | .slice none l c => Nat.beq l 0 && Nat.beq c 0
  | .func _ _ cs => cs.isEmpty
  | _ => true
def plainV : Value → Bool
  | .agg cs => cs.toList.all plainC
  | v => plainC v
def plainT : Value → Bool
  | .tuple vs => vs.toList.all plainV
  | v => plainV v
def wfcB : Value → Bool
  | .int k n => k.signed || (decide (0 ≤ n) && decide (n ≤ k.max))
  | .agg _ | .tuple _ => false
  | _ => true
def vcells : Value → List Value
  | .agg cs => cs.toList
  | v => [v]
def evo (e : Env) : Operand → Option Value
  | .tmp t => e t
  | .const v => bif plainV v && (vcells v).all wfcB then some v else none
  | .global g => some (.pointer (some ⟨g, 0, some 0⟩))
  | .func f => some (.func (.func f) #[] #[])
def isTup : Value → Bool
  | .tuple _ => true
  | _ => false
def szOf (P : Program) (t : TypeId) : Option Nat := (P.info? t).map (·.size)
def zeroOf (P : Program) (t : TypeId) : Option Value := ((P.info? t).bind (·.zero)).bind fun z => bif (vcells z).all wfcB then some z else none
def bytesOf (P : Program) (t : TypeId) : Option Nat := (P.info? t).map (·.bytes)
def aggT : TypeDesc → Bool
  | .struct _ | .array _ _ => true
  | _ => false
def apart (P : Program) (t : TypeId) (cs : List Value) (off : Nat) : Option Value :=
  match P.underlying t, szOf P t with
  | some d, some n =>
    if aggT d then (bif Nat.ble (off + n) cs.length then some (.agg ⟨(cs.drop off).take n⟩) else none) else cs[off]?
  | _, _ => none
def blkAt (H : Heap) (i : Nat) : Option Blk := (H[i]?).bind id
def cellsAt (X : Cx) (H : Heap) (a : Addr) : Option (List Value) :=
  match a.spot with
  | none => (blkAt H a.block).map (·.cells)
  | some _ => X.glob a.block
def ald (X : Cx) (H : Heap) (t : TypeId) (a : Value) : Option Value :=
  match a with
  | .pointer (some a) => (cellsAt X H a).bind fun cs => apart X.P t cs a.off
  | _ => none
def splice (cs : List Value) (off : Nat) (vs : List Value) : List Value :=
  match vs with
  | [v] => cs.set off v
  | vs => cs.take off ++ vs ++ cs.drop (off + vs.length)
def ast (P : Program) (H : Heap) (t : TypeId) (a v : Value) : Option Heap :=
  match a with
  | .pointer (some ⟨i, off, none⟩) =>
    match blkAt H i, szOf P t with
    | some b, some n => bif b.own && Nat.beq (vcells v).length n && Nat.ble (off + n) b.cells.length && !isTup v then some (H.set i (some { b with cells := splice b.cells off (vcells v) })) else none
    | _, _ => none
  | _ => none
def ibin (op : BinOp) (k : IntKind) (a b : Int) : Option Value :=
  match op with
  | .add => some (.int k (k.wrap (a + b)))
  | .sub => some (.int k (k.wrap (a - b)))
  | .mul => some (.int k (k.wrap (a * b)))
  | .quo => if b = 0 then none else some (.int k (k.wrap (a.tdiv b)))
  | .rem => if b = 0 then none else some (.int k (a.tmod b))
  | .and => some (.int k (k.wrap (BitVec.ofInt k.bits a &&& BitVec.ofInt k.bits b).toNat))
  | .or => some (.int k (k.wrap (BitVec.ofInt k.bits a ||| BitVec.ofInt k.bits b).toNat))
  | .xor => some (.int k (k.wrap (BitVec.ofInt k.bits a ^^^ BitVec.ofInt k.bits b).toNat))
  | .andNot => some (.int k (k.wrap (BitVec.ofInt k.bits a &&& ~~~BitVec.ofInt k.bits b).toNat))
  | .eql => some (.bool (a == b))
  | .neq => some (.bool (a != b))
  | .lss => some (.bool (a < b))
  | .leq => some (.bool (a ≤ b))
  | .gtr => some (.bool (a > b))
  | .geq => some (.bool (a ≥ b))
  | _ => none
def ishift (op : BinOp) (k : IntKind) (a b : Int) : Option Value :=
  if b < 0 then none else
  match op with
  | .shl => some (.int k (k.wrap (a * 2 ^ (min b.toNat k.bits))))
  | .shr => some (.int k (a.fdiv (2 ^ (min b.toNat k.bits))))
  | _ => none
def allB : List (Option Bool) → Option Bool
  | [] => some true
  | o :: r => o.bind fun b => (allB r).map fun c => b && c
def aeqIn (P : Program) : Nat → TypeId → Value → Value → Option Bool
  | 0, _, _, _ => none
  | d + 1, t, x, y => match P.underlying t, x, y with
    | some .bool, .bool a, .bool b => some (a == b)
    | some (.int _), .int k a, .int k' b => if k = k' then some (a == b) else none
    | some .string, .string a, .string b => some (a == b)
    | some (.pointer _), .pointer none, .pointer b => some b.isNone
    | some (.pointer _), .pointer (some _), .pointer none => some false
    | some (.slice _), .slice none _ _, .slice b _ _ => some b.isNone
    | some (.slice _), .slice (some _) _ _, .slice none _ _ => some false
    | some (.struct fs), .agg xs, .agg ys => bif P.stoodInHeld t then none else
      allB (fs.toList.map fun f => if f.name ≠ "_" then (apart P f.type xs.toList f.offset).bind fun a => (apart P f.type ys.toList f.offset).bind fun b => aeqIn P d f.type a b else some true)
    | some (.array len e), .agg xs, .agg ys => (szOf P e).bind fun n =>
      allB ((List.range' 0 len).map fun i => (apart P e xs.toList (i * n)).bind fun a => (apart P e ys.toList (i * n)).bind fun b => aeqIn P d e a b)
    | _, _, _ => none
def aeq (P : Program) (t : TypeId) (x y : Value) : Option Bool :=
  match x, y with
  | .int k a, .int k' b => if k = k' then some (a == b) else none
  | .bool _, .bool _ => aeqIn P 20 t x y
  | .pointer _, .pointer _ => aeqIn P 20 t x y
  | .slice _ _ _, .slice _ _ _ => aeqIn P 20 t x y
  | .agg _, .agg _ => bif P.eqGuardType P.depth t then none else aeqIn P 20 t x y
  | _, _ => none
def astr (op : BinOp) (a b : ByteArray) : Option Value :=
  match op with
  | .eql => some (.bool (a.toList == b.toList))
  | .neq => some (.bool !(a.toList == b.toList))
  | .add => if ((a.size + b.size : Nat) : Int) > IntKind.i64.max then none else some (.string (a ++ b))
  | .lss => some (.bool (Op.bytesLess a.toList b.toList))
  | .leq => some (.bool (Op.bytesLess a.toList b.toList || a.toList == b.toList))
  | .gtr => some (.bool !(Op.bytesLess a.toList b.toList || a.toList == b.toList))
  | .geq => some (.bool !(Op.bytesLess a.toList b.toList))
  | _ => none
def abin (P : Program) (op : BinOp) (t : TypeId) (x y : Value) : Option Value :=
  match op, x, y with
  | .shl, .int k a, .int _ b | .shr, .int k a, .int _ b => ishift op k a b
  | op, .int k a, .int k' b => if k = k' then ibin op k a b else none
  | op, .string a, .string b => astr op a b
  | .eql, x, y => (aeq P t x y).map .bool
  | .neq, x, y => (aeq P t x y).map fun b => .bool !b
  | _, _, _ => none
def aun (op : UnOp) (x : Value) : Option Value :=
  match op, x with
  | .neg, .int k n => some (.int k (k.wrap (0 - n)))
  | .xor, .int k n => some (.int k (k.wrap (BitVec.ofInt k.bits (if k.signed then -1 else k.max) ^^^ BitVec.ofInt k.bits n).toNat))
  | .not, .bool b => some (.bool !b)
  | _, _ => none
def aconv (P : Program) (dst : TypeId) (x : Value) : Option Value :=
  match P.underlying dst, x with
  | some (.int k), .int _ n => some (.int k (k.wrap n))
  | _, _ => none
def aint : Value → Option Int
  | .int _ n => some n
  | _ => none
def abound (m : Nat) (x : Option Value) : Option Nat := (x.bind aint).bind fun i => if 0 ≤ i ∧ i ≤ (m : Int) then some i.toNat else none
def abounds (len cap : Nat) (lo hi mx : Option (Option Value)) : Option (Nat × Nat × Nat) :=
  (match mx with
    | some v => abound cap v
    | none => some cap).bind fun m =>
  (match hi, mx with
    | some v, _ => abound m v
    | none, none => some len
    | none, some _ => none).bind fun h =>
  (match lo with
    | some v => abound h v
    | none => some 0).bind fun l => some (l, h, m)
def addA (a : Addr) (n : Nat) : Addr := ⟨a.block, a.off + n, a.spot⟩
def aslice (P : Program) (t : TypeId) (x : Value) (lo hi mx : Option (Option Value)) : Option Value :=
  match P.underlying t, x with
  | some (.slice e), .slice a len cap =>
    (szOf P e).bind fun sz =>
    bif Nat.beq cap capU then
      match mx with
      | none => (abounds len len lo hi none).bind fun (l, h, _) => some (.slice (a.map (addA · (l * sz))) (h - l) capU)
      | some v => bif Nat.blt 0 len then (abounds len len lo hi (some v)).bind fun (l, h, m) => some (.slice (if m = l then a else a.map (addA · (l * sz))) (h - l) (m - l)) else none
    else bif Nat.ble len cap then (abounds len cap lo hi mx).bind fun (l, h, m) => some (.slice (if m = l then a else a.map (addA · (l * sz))) (h - l) (m - l)) else none
  | some (.array n e), .pointer (some a) =>
    (szOf P e).bind fun sz => bif Nat.blt n capU then (abounds n n lo hi mx).bind fun (l, h, m) => some (.slice (some (if m = l then a else addA a (l * sz))) (h - l) (m - l)) else none
  | _, _ => none
def aindexAddr (P : Program) (t : TypeId) (x i : Value) : Option Value :=
  match P.underlying t, x, aint i with
  | some (.array len e), .pointer (some a), some i => (szOf P e).bind fun sz => if 0 ≤ i ∧ i < len then some (.pointer (some (addA a (i.toNat * sz)))) else none
  | some (.slice e), .slice (some a) len _, some i => (szOf P e).bind fun sz => if 0 ≤ i ∧ i < len then some (.pointer (some (addA a (i.toNat * sz)))) else none
  | _, _, _ => none
def aindex (P : Program) (t : TypeId) (x i : Value) : Option Value :=
  match P.underlying t, x, aint i with
  | some (.array len e), .agg cs, some i => (szOf P e).bind fun sz => if 0 ≤ i ∧ i < len then apart P e cs.toList (i.toNat * sz) else none
  | some .string, .string s, some i => if 0 ≤ i ∧ i < s.size then some (.int .u8 (s.data.toList.getD i.toNat 0).toNat) else none
  | _, _, _ => none
def afieldAddr (P : Program) (s : TypeId) (x : Value) (f : Nat) : Option Value :=
  match P.underlying s, x with
  | some (.struct fs), .pointer (some a) => (fs.toList[f]?).bind fun f => (szOf P f.type).bind fun n => if n = 0 then none else some (.pointer (some (addA a f.offset)))
  | _, _ => none
def afield (P : Program) (s : TypeId) (x : Value) (f : Nat) : Option Value :=
  match P.underlying s, x with
  | some (.struct fs), .agg cs => (fs.toList[f]?).bind fun f => apart P f.type cs.toList f.offset
  | _, _ => none
def afill (place : Nat → Option (Nat × Nat)) (cells : List Value) : List (Nat × Value) → Option (List Value)
  | [] => some cells
  | (i, v) :: rest => (place i).bind fun (off, size) =>
    if isTup v = false ∧ (vcells v).length = size ∧ off + size ≤ cells.length then afill place (splice cells off (vcells v)) rest else none
def evParts (e : Env) : List (Nat × Operand) → Option (List (Nat × Value))
  | [] => some []
  | (i, x) :: r => (evo e x).bind fun v => (evParts e r).map fun l => (i, v) :: l
def abuild (P : Program) (t : TypeId) (parts : List (Nat × Value)) : Option Value :=
  match P.underlying t, zeroOf P t with
  | some (.struct fs), some z => bif !(vcells z).all plainC then none else
    (fs.toList.mapM fun f => (P.info? f.type).map fun i => (f.offset, i.size)).bind fun places => (afill (places.toArray[·]?) (vcells z) parts).map fun cs => .agg ⟨cs⟩
  | some (.array _ e), some z => bif !(vcells z).all plainC then none else (szOf P e).bind fun sz => (afill (fun i => some (i * sz, sz)) (vcells z) parts).map fun cs => .agg ⟨cs⟩
  | _, _ => none
def alen (P : Program) (t : TypeId) (x : Value) : Option Value :=
  match P.underlying t, x with
  | some .string, .string s => some (.int .i64 s.size)
  | some (.array n _), _ => some (.int .i64 n)
  | some (.slice _), .slice _ n _ => some (.int .i64 n)
  | _, _ => none
def evArgs (e : Env) : List Operand → Option (List Value)
  | [] => some []
  | x :: r => (evo e x).bind fun v => (evArgs e r).map fun l => v :: l
def target (e : Env) : Operand → Option FuncId
  | x => match evo e x with
    | some (.func (.func f) ⟨[]⟩ ⟨[]⟩) => some f
    | _ => none
def mstep (f : Int → Int → Int) (acc : Option Value) (y : Value) : Option Value :=
  match acc, y with
  | some (.int k x), .int k' y => if k = k' then some (.int k (f x y)) else none
  | _, _ => none
def amin : List Value → Option Value
  | .int k x :: r => r.foldl (mstep fun x y => if y < x then y else x) (some (.int k x))
  | _ => none
def amax : List Value → Option Value
  | .int k x :: r => r.foldl (mstep fun x y => if y > x then y else x) (some (.int k x))
  | _ => none
def isPtr : Value → Bool
  | .pointer (some _) => true
  | _ => false
def pv (X : Cx) (e : Env) (op : Op) : Option Value :=
  let P := X.P
  match op with
  | .move x | .assign x => evo e x
  | .pick c a b => match evo e c with
    | some (.bool true) => evo e a
    | some (.bool false) => evo e b
    | _ => none
  | .build t parts => (evParts e parts.toList).bind (abuild P t)
  | .nilCheck x => match evo e x with
    | some (.pointer (some a)) => some (.pointer (some a))
    | _ => none
  | .binOp op t x y _ => (evo e x).bind fun x => (evo e y).bind fun y => abin P op t x y
  | .unOp op _ x => (evo e x).bind fun x => aun op x
  | .convert src dst x => (P.underlying src).bind fun _ => (evo e x).bind fun x => aconv P dst x
  | .slice t x lo hi mx => (evo e x).bind fun x => aslice P t x (lo.map (evo e)) (hi.map (evo e)) (mx.map (evo e))
  | .fieldAddr t x f => (evo e x).bind fun x => afieldAddr P t x f
  | .field t x f => (evo e x).bind fun x => afield P t x f
  | .indexAddr t x i => (evo e x).bind fun x => (evo e i).bind fun i => aindexAddr P t x i
  | .index t x i => (evo e x).bind fun x => (evo e i).bind fun i => aindex P t x i
  | .extract x i => match evo e x with
    | some (.tuple vs) => vs.toList[i]?
    | _ => none
  | .call c => match c.callee with
    | .builtin .len => match c.argTypes.toList, c.args.toList with
      | [t], [x] => (evo e x).bind (alen P t)
      | _, _ => none
    | .builtin .min => (evArgs e c.args.toList).bind amin
    | .builtin .max => (evArgs e c.args.toList).bind amax
    | .value f => (target e f).bind fun f => (evArgs e c.args.toList).bind fun l => X.orc f l
    | _ => none
  | .makeFunc (.func f) ⟨[]⟩ cs => (evArgs e cs.toList).bind fun l => bif l.all isPtr then some (.func (.func f) #[] ⟨l⟩) else none
  | _ => none
def rowOf (X : Cx) (H : Heap) (sz n : Nat) : Value → Option (List Value)
  | .slice (some a) _ _ => bif Nat.beq n 0 then some [] else (cellsAt X H a).bind fun cs => if a.off + n * sz ≤ cs.length then some ((cs.drop a.off).take (n * sz)) else none
  | .slice none _ _ => if n = 0 then some [] else none
  | .string s => some ((s.data.toList.take n).map fun b => .int .u8 b.toNat)
  | _ => none
def lenV : Value → Option Nat
  | .slice _ n _ => some n
  | .string s => some s.size
  | _ => none
def zerosN (z : List Value) : Nat → List Value
  | 0 => []
  | n + 1 => z ++ zerosN z n
def acopy (X : Cx) (H : Heap) (t : TypeId) (dst src : Value) : Option (Value × Heap) :=
  match X.P.underlying t, dst with
  | some (.slice e), .slice a dl _ =>
    (szOf X.P e).bind fun sz => (lenV src).bind fun sl =>
    let n := Nat.min sl dl
    (rowOf X H sz n src).bind fun cs =>
    match a with
    | none => some (.int .i64 n, H)
    | some ⟨i, off, none⟩ => (blkAt H i).bind fun b => if b.own ∧ off + cs.length ≤ b.cells.length then some (.int .i64 n, H.set i (some { b with cells := splice b.cells off cs })) else none
    | _ => none
  | _, _ => none
def strOne (sz : Nat) : Value → Bool
  | .string _ => Nat.beq sz 1
  | _ => true
def aappN (X : Cx) (H : Heap) (sz by_ : Nat) (s : Value) (n : Nat) (new : List Value) : Option (Value × Heap) :=
  match s with
  | .slice a l cap =>
    bif Nat.beq cap capU then
      match a with
      | some ⟨i, 0, none⟩ => (blkAt H i).bind fun b =>
        if b.own ∧ b.es = sz ∧ 0 < sz ∧ 0 < by_ ∧ b.cells.length = l * sz ∧ (l + n) * by_ ≤ 2 ^ 47 then
          some (.slice (some ⟨H.length, 0, none⟩) (l + n) capU, H.set i none ++ [some { cells := b.cells ++ new, own := true, es := sz }])
        else none
      | _ => none
    else if l + n ≤ cap then
      match a with
      | none => some (.slice a l cap, H)
      | some ⟨i, off, none⟩ =>
        if n = 0 then some (.slice a l cap, H)
        else (blkAt H i).bind fun b => if b.own ∧ off + (l + n) * sz ≤ b.cells.length then some (.slice a (l + n) cap, H.set i (some { b with cells := splice b.cells (off + l * sz) new })) else none
      | _ => none
    else if 0 < sz ∧ 0 < by_ ∧ (l + n) * by_ ≤ 2 ^ 47 then
      (rowOf X H sz l (.slice a l cap)).bind fun old => some (.slice (some ⟨H.length, 0, none⟩) (l + n) capU, H ++ [some { cells := old ++ new, own := true, es := sz }])
    else none
  | _ => none
def aappend (X : Cx) (H : Heap) (t : TypeId) (s x : Value) : Option (Value × Heap) :=
  match X.P.underlying t, s with
  | some (.slice e), .slice a l cap =>
    (szOf X.P e).bind fun sz => (bytesOf X.P e).bind fun by_ => (zeroOf X.P e).bind fun z => (lenV x).bind fun n => (rowOf X H sz n x).bind fun new =>
    bif !(strOne sz x && Nat.beq (vcells z).length sz) then none else aappN X H sz by_ (.slice a l cap) n new
  | _, _ => none
def aappendZ (X : Cx) (H : Heap) (t : TypeId) (s : Value) (n : Int) : Option (Value × Heap) :=
  match X.P.underlying t, s with
  | some (.slice e), .slice a l cap =>
    (szOf X.P e).bind fun sz => (bytesOf X.P e).bind fun by_ => (zeroOf X.P e).bind fun z =>
    if 0 ≤ n ∧ n * by_ ≤ 2 ^ 47 ∧ n < 2 ^ 63 ∧ 0 < sz ∧ (vcells z).length = sz ∧ (vcells z).all plainC then aappN X H sz by_ (.slice a l cap) n.toNat (zerosN (vcells z) n.toNat) else none
  | _, _ => none
def isPure (pf : FuncId → Bool) (op : Op) : Bool :=
  match op with
  | .move _ | .assign _ | .pick .. | .build .. | .nilCheck _ | .binOp .. | .unOp .. | .convert .. | .slice .. | .fieldAddr .. | .field .. | .indexAddr .. | .index .. | .extract .. | .makeFunc .. => true
  | .call c => match c.callee with
    | .builtin .len | .builtin .min | .builtin .max => true
    | .value (.func f) => pf f
    | .value _ => true
    | _ => false
  | _ => false
def isRead (op : Op) : Bool := match op with | .load .. => true | _ => false
def isGrow (op : Op) : Bool := match op with | .alloc _ | .box .. => true | _ => false
def av (X : Cx) (hc : HOrc) (e : Env) (H : Heap) (op : Op) : Option (Option Value × Heap) :=
  match op with
  | .load t a => (evo e a).bind fun a => (ald X H t a).map fun v => (some v, H)
  | .alloc t => (zeroOf X.P t).bind fun z => (szOf X.P t).bind fun n => bif (vcells z).all plainC then some (some (.pointer (some ⟨H.length, 0, none⟩)), H ++ [some { cells := vcells z, own := true, es := n }]) else none
  | .box t x => (evo e x).bind fun x => (szOf X.P t).bind fun n => match x with
    | .tuple _ => none
    | x => some (some (.pointer (some ⟨H.length, 0, none⟩)), H ++ [some { cells := vcells x, own := true, es := n }])
  | .store t a x => (evo e a).bind fun a => (evo e x).bind fun x => (ast X.P H t a x).map fun H => (none, H)
  | .buildSlice t len parts => match X.P.underlying t with
    | some (.slice el) => (szOf X.P el).bind fun sz => (zeroOf X.P el).bind fun z => (evParts e parts.toList).bind fun ps =>
      (afill (fun i => some (i * sz, sz)) (zerosN (vcells z) len) ps).bind fun cs =>
      if len * sz ≤ 2 ^ 24 ∧ 0 < sz ∧ (vcells z).length = sz ∧ (vcells z).all plainC then some (some (.slice (some ⟨H.length, 0, none⟩) len len), H ++ [some { cells := cs, own := true, es := sz }]) else none
    | _ => none
  | .makeSlice t l c => match X.P.underlying t with
    | some (.slice el) => (szOf X.P el).bind fun sz => (bytesOf X.P el).bind fun by_ => (zeroOf X.P el).bind fun z => ((evo e l).bind aint).bind fun l => ((evo e c).bind aint).bind fun c =>
      if 0 ≤ l ∧ l ≤ c ∧ c * by_ ≤ 2 ^ 47 ∧ c < 2 ^ 63 ∧ 0 < sz ∧ (vcells z).length = sz ∧ (vcells z).all plainC then some (some (.slice (some ⟨H.length, 0, none⟩) l.toNat c.toNat), H ++ [some { cells := zerosN (vcells z) c.toNat, own := true, es := sz }]) else none
    | _ => none
  | .call c => match c.callee with
    | .builtin .append => match c.argTypes.toList, c.args.toList with
      | [t, t2], [s, x] => match X.P.underlying t2 with
        | some (.slice _) | some .string => (evo e s).bind fun s => (evo e x).bind fun x => (aappend X H t s x).map fun (v, H) => (some v, H)
        | some (.int _) => (evo e s).bind fun s => ((evo e x).bind aint).bind fun n => (aappendZ X H t s n).map fun (v, H) => (some v, H)
        | _ => none
      | _, _ => none
    | .builtin .copy => match c.argTypes.toList, c.args.toList with
      | t :: _, [s, x] => (evo e s).bind fun s => (evo e x).bind fun x => (acopy X H t s x).map fun (v, H) => (some v, H)
      | _, _ => none
    | .value (.func f) => (evArgs e c.args.toList).bind fun l => (hc f l H).map fun (v, H) => (some v, H)
    | _ => none
  | _ => none
def aop (X : Cx) (hc : HOrc) (e : Env) (H : Heap) (op : Op) : Option (Option Value × Heap) :=
  bif isPure X.pf op then (pv X e op).map fun v => (some v, H) else av X hc e H op
structure St where
  env : Env
  heap : Heap
def awanted (e : Env) (ops : Array Oper) (o : Oper) : Option Bool :=
  match o.guard with
  | none => some true
  | some (j, want) => match (ops[j]?).bind (·.dst) with
    | some d => match e d with
      | some (.bool b) => some (b == want)
      | some (.tuple ⟨[]⟩) => some false
      | _ => none
    | none => none
def putS (e : Env) (dst : Option Tmp) (v : Option Value) : Env :=
  match dst with
  | some d => e.set d v
  | none => e
def fitsN (N : Nat) : Option Tmp → Bool
  | some d => Nat.blt d N
  | none => true
def act1 (X : Cx) (hc : HOrc) (ops : Array Oper) (N : Nat) (e : Env) (H : Heap) (o : Oper) : Option (Option Value × Heap) :=
  bif fitsN N o.dst then
    match awanted e ops o with
    | some true => aop X hc e H o.op
    | some false => some (some (.tuple ⟨[]⟩), H)
    | none => none
  else none
def run1 (X : Cx) (hc : HOrc) (ops : Array Oper) (N : Nat) (s : St) (o : Oper) : Option St :=
  (act1 X hc ops N s.env s.heap o).map fun (v, H) => ⟨putS s.env o.dst v, H⟩
def runL (X : Cx) (hc : HOrc) (ops : Array Oper) (N : Nat) : List Oper → St → Option St
  | [], s => some s
  | o :: r, s => (run1 X hc ops N s o).bind (runL X hc ops N r)
def mayPass (pf : FuncId → Bool) (ops : Array Oper) (x y : Oper) : Bool :=
  x.apart ops y && (isPure pf x.op || isPure pf y.op || (isRead x.op && (isRead y.op || isGrow y.op)))
def orderOk (pf : FuncId → Bool) (ops : Array Oper) : Bool :=
  let b := Region.before ops
  let l := ops.toList.zipIdx
  l.all fun (y, j) => y.after.toList.all (fun e => !Region.binds .any e || Nat.blt e.on j) && l.all fun (x, i) => !Nat.blt i j || (b.getD j 0).testBit i || mayPass pf ops x y
inductive AExit where
  | normal | ret
  | exit (id : Nat)
def runC (X : Cx) (hc : HOrc) (N : Nat) : Nat → Code → St → Option (AExit × St)
  | 0, _, _ => none
  | n + 1, c, s =>
    match c with
    | .skip => some (.normal, s)
    | .region _ ops draw => bif !draw || orderOk X.pf ops then (runL X hc ops N ops.toList s).map fun s => (.normal, s) else none
    | .seq a b => (runC X hc N n a s).bind fun (x, s) => match x with
      | .normal => runC X hc N n b s
      | x => some (x, s)
    | .cond c a b => match evo s.env c with
      | some (.bool t) => bif t then runC X hc N n a s else runC X hc N n b s
      | _ => none
    | .block id b => (runC X hc N n b s).map fun (x, s) => match x with
      | .exit i => (bif Nat.beq i id then .normal else .exit i, s)
      | x => (x, s)
    | .loop b => (runC X hc N n b s).bind fun (x, s) => match x with
      | .normal => runC X hc N n (.loop b) s
      | x => some (x, s)
    | .exit id => some (.exit id, s)
    | .label _ => some (.normal, s)
    | .ret => some (.ret, s)
    | _ => none
def envOf (args : List Value) : Env := fun k => args[k]?
def ares1 (X : Cx) (s : St) : ResultVar → Option Value
  | .tmp t => (s.env t).bind fun v => bif isTup v then none else some v
  | .cell a t => (s.env a).bind (ald X s.heap t)
def aresL (X : Cx) (s : St) : List ResultVar → Option (List Value)
  | [] => some []
  | r :: l => (ares1 X s r).bind fun v => (aresL X s l).map fun vs => v :: vs
def aresults (X : Cx) (fn : Func) (s : St) : Option Value :=
  (aresL X s fn.results.toList).map fun vs => match vs with | [v] => v | vs => .tuple ⟨vs⟩
def runB (X : Cx) (hc : HOrc) (fuel : Nat) (fn : Func) (args : List Value) (H : Heap) : Option (Value × Heap) :=
  fn.body.bind fun c => (runC X hc fn.ntmps fuel c ⟨envOf args, H⟩).bind fun (x, s) =>
    match x with
    | .exit _ => none
    | _ => (aresults X fn s).map fun v => (v, s.heap)
def runF (X : Cx) (fuel : Nat) : Nat → HOrc
  | 0, _, _, _ => none
  | d + 1, f, args, H => (X.P.funcs[f]?).bind fun fn => bif fn.name == "runtime.NumGoroutine" || Nat.blt fn.ntmps args.length then none else runB X (runF X fuel d) fuel fn args H
end Go.Ab
namespace Go.Ab
structure Loc where
  block : Nat
  off : Nat
  size : Nat
  es : Nat
def locA (ρ : Nat → Loc) (a : Addr) : Addr :=
  match a.spot with
  | none => ⟨(ρ a.block).block, (ρ a.block).off + a.off, none⟩
  | some _ => ⟨a.block, a.off, none⟩
def capRel (ρ : Nat → Loc) (a : Addr) (l c : Nat) (a' : Addr) (c' : Nat) : Prop :=
  if c = capU then (a' = locA ρ a ∨ (l = 0 ∧ a.off ≠ 0)) ∧ l ≤ c' ∧ c' < 2 ^ 63 ∧ (a.spot = none → a.off = 0 → c' * (ρ a.block).es ≤ (ρ a.block).size)
  else a' = locA ρ a ∧ c' = c ∧ c < capU
def LRel (R : Value → Value → Prop) (l l' : List Value) : Prop :=
  l.length = l'.length ∧ ∀ (j : Nat) (v : Value), l[j]? = some v → ∃ v' : Value, l'[j]? = some v' ∧ R v v'
def PRel (ρ : Nat → Loc) (n : Nat) : Value → Value → Prop
  | .pointer (some a), v => (a.spot = none → a.block < n) ∧ v = .pointer (some (locA ρ a))
  | _, _ => False
def CRel (ρ : Nat → Loc) (n : Nat) : Value → Value → Prop
  | .pointer (some a), v => (a.spot = none → a.block < n) ∧ v = .pointer (some (locA ρ a))
  | .slice (some a) l c, v => (a.spot = none → a.block < n) ∧ ∃ a' c', v = .slice (some a') l c' ∧ capRel ρ a l c a' c'
  | .slice none l c, v => l = 0 ∧ c = 0 ∧ v = .slice none l c
  | .agg _, _ => False
  | .tuple _, _ => False
  | .func fn fs cs, v => ∃ cs' : Array Value, v = .func fn fs cs' ∧ LRel (PRel ρ n) cs.toList cs'.toList
  | u, v => v = u
def VRel (ρ : Nat → Loc) (n : Nat) : Value → Value → Prop
  | .agg cs, v => ∃ cs', v = .agg cs' ∧ LRel (CRel ρ n) cs.toList cs'.toList
  | u, v => CRel ρ n u v
def TRel (ρ : Nat → Loc) (n : Nat) : Value → Value → Prop
  | .tuple vs, v => ∃ vs', v = .tuple vs' ∧ LRel (VRel ρ n) vs.toList vs'.toList
  | u, v => VRel ρ n u v
theorem LRel.nil {R : Value → Value → Prop} : LRel R [] [] := ⟨rfl, by simp⟩
theorem LRel.cons {R : Value → Value → Prop} {v v' : Value} {l l' : List Value} (h : R v v') (t : LRel R l l') : LRel R (v :: l) (v' :: l') := by
  refine ⟨by simp [t.1], fun j u hj => ?_⟩
  cases j with
  | zero => simp at hj; subst hj; exact ⟨v', by simp, h⟩
  | succ j => simpa using t.2 j u (by simpa using hj)
theorem LRel.mono {R S : Value → Value → Prop} {l l' : List Value} (h : LRel R l l') (hs : ∀ v v', R v v' → S v v') : LRel S l l' :=
  ⟨h.1, fun j v hj => let ⟨v', a, b⟩ := h.2 j v hj; ⟨v', a, hs _ _ b⟩⟩
theorem LRel.take {R : Value → Value → Prop} {l l' : List Value} (h : LRel R l l') (n : Nat) : LRel R (l.take n) (l'.take n) := by
  refine ⟨by simp [h.1], fun j v hj => ?_⟩
  rw [List.getElem?_take] at hj
  split at hj
  · rename_i hlt
    obtain ⟨v', a, b⟩ := h.2 j v hj
    exact ⟨v', by rw [List.getElem?_take, if_pos hlt]; exact a, b⟩
  · cases hj
theorem LRel.drop {R : Value → Value → Prop} {l l' : List Value} (h : LRel R l l') (n : Nat) : LRel R (l.drop n) (l'.drop n) := by
  refine ⟨by simp [h.1], fun j v hj => ?_⟩
  rw [List.getElem?_drop] at hj
  obtain ⟨v', a, b⟩ := h.2 _ v hj
  exact ⟨v', by rw [List.getElem?_drop]; exact a, b⟩
theorem LRel.append {R : Value → Value → Prop} {l l' m m' : List Value} (h : LRel R l l') (k : LRel R m m') : LRel R (l ++ m) (l' ++ m') := by
  refine ⟨by simp [h.1, k.1], fun j v hj => ?_⟩
  by_cases hlt : j < l.length
  · rw [List.getElem?_append_left hlt] at hj
    obtain ⟨v', a, b⟩ := h.2 j v hj
    exact ⟨v', by rw [List.getElem?_append_left (by have := h.1; omega)]; exact a, b⟩
  · rw [List.getElem?_append_right (by omega)] at hj
    obtain ⟨v', a, b⟩ := k.2 _ v hj
    exact ⟨v', by rw [List.getElem?_append_right (by have := h.1; omega), ← h.1]; exact a, b⟩
theorem LRel.set {R : Value → Value → Prop} {l l' : List Value} (h : LRel R l l') {v v' : Value} (n : Nat) (k : R v v') : LRel R (l.set n v) (l'.set n v') := by
  refine ⟨by simp [h.1], fun j u hj => ?_⟩
  rw [List.getElem?_set] at hj
  by_cases e : n = j
  · subst e
    by_cases hlt : n < l.length
    · simp [hlt] at hj; subst hj
      exact ⟨v', by rw [List.getElem?_set]; simp [h.1 ▸ hlt], k⟩
    · simp [hlt] at hj
  · simp [e] at hj
    obtain ⟨u', a, b⟩ := h.2 j u hj
    exact ⟨u', by rw [List.getElem?_set, if_neg e]; exact a, b⟩
theorem splice_eq (cs : List Value) (off : Nat) (vs : List Value) (h : off + vs.length ≤ cs.length) : splice cs off vs = cs.take off ++ vs ++ cs.drop (off + vs.length) := by
  unfold splice
  split
  · rename_i v
    simp only [List.length_singleton] at h ⊢
    rw [List.set_eq_take_append_cons_drop, if_pos (by omega)]
    simp
  · rfl
theorem LRel.splice {R : Value → Value → Prop} {l l' m m' : List Value} (h : LRel R l l') (off : Nat) (k : LRel R m m') (hl : off + m.length ≤ l.length) : LRel R (splice l off m) (splice l' off m') := by
  rw [splice_eq _ _ _ hl, splice_eq _ _ _ (by have := h.1; have := k.1; omega), ← k.1]
  exact ((h.take off).append k).append (h.drop _)
theorem length_splice (cs : List Value) (off : Nat) (vs : List Value) (h : off + vs.length ≤ cs.length) : (splice cs off vs).length = cs.length := by
  rw [splice_eq _ _ _ h]; simp; omega
theorem LRel.refl_of {R : Value → Value → Prop} {l : List Value} (h : ∀ v ∈ l, R v v) : LRel R l l :=
  ⟨rfl, fun _ v hj => ⟨v, hj, h v (List.mem_of_getElem? hj)⟩⟩
theorem LRel.eq_of {R : Value → Value → Prop} {l l' : List Value} (hR : ∀ v ∈ l, ∀ v', R v v' → v' = v) (h : LRel R l l') : l' = l := by
  apply List.ext_getElem?
  intro j
  cases hj : l[j]? with
  | none => rw [List.getElem?_eq_none_iff] at hj ⊢; have := h.1; omega
  | some v =>
    obtain ⟨v', a, b⟩ := h.2 j v hj
    rw [a, hR v (List.mem_of_getElem? hj) v' b]
theorem CRel.plain {ρ : Nat → Loc} {n : Nat} {v : Value} (h : plainC v = true) : CRel ρ n v v := by
  cases v with
  | pointer a => cases a <;> simp [plainC] at h <;> simp [CRel]
  | slice a l c => cases a <;> simp [plainC] at h <;> simp [CRel, h.1, h.2]
  | agg _ => simp [plainC] at h
  | tuple _ => simp [plainC] at h
  | func fn fs cs =>
    simp [plainC] at h
    subst h
    exact ⟨#[], rfl, rfl, by simp⟩
  | _ => simp [CRel]
theorem CRel.plain_eq {ρ : Nat → Loc} {n : Nat} {v v' : Value} (h : plainC v = true) (r : CRel ρ n v v') : v' = v := by
  cases v with
  | pointer a => cases a <;> simp [plainC] at h; simpa [CRel] using r
  | slice a l c => cases a <;> simp [plainC] at h; simp [CRel] at r; exact r.2.2
  | agg _ => simp [plainC] at h
  | tuple _ => simp [plainC] at h
  | func fn fs cs =>
    simp [plainC] at h
    subst h
    obtain ⟨cs', rfl, hl⟩ := r
    have : cs' = #[] := by apply Array.ext'; exact List.length_eq_zero_iff.1 hl.1.symm
    rw [this]
  | _ => simpa [CRel] using r
theorem LRel.plain {ρ : Nat → Loc} {n : Nat} {l : List Value} (h : l.all plainC = true) : LRel (CRel ρ n) l l :=
  .refl_of fun v hv => .plain (List.all_eq_true.1 h v hv)
theorem VRel.plain {ρ : Nat → Loc} {n : Nat} {v : Value} (h : plainV v = true) : VRel ρ n v v := by
  cases v with
  | agg cs => exact ⟨cs, rfl, .plain (by simpa [plainV] using h)⟩
  | tuple _ => simp [plainV, plainC] at h
  | _ => simp only [VRel]; exact CRel.plain (by simpa [plainV] using h)
theorem VRel.plain_eq {ρ : Nat → Loc} {n : Nat} {v v' : Value} (h : plainV v = true) (r : VRel ρ n v v') : v' = v := by
  cases v with
  | agg cs =>
    obtain ⟨cs', rfl, hl⟩ := r
    have := LRel.eq_of (fun v hv v' r => CRel.plain_eq (List.all_eq_true.1 (by simpa [plainV] using h) v hv) r) hl
    congr 1; exact Array.ext' this
  | tuple _ => simp [plainV, plainC] at h
  | _ => simp only [VRel] at r; exact CRel.plain_eq (by simpa [plainV] using h) r
theorem TRel.plain {ρ : Nat → Loc} {n : Nat} {v : Value} (h : plainT v = true) : TRel ρ n v v := by
  cases v with
  | tuple vs => exact ⟨vs, rfl, .refl_of fun v hv => .plain (List.all_eq_true.1 (by simpa [plainT] using h) v hv)⟩
  | _ => simp only [TRel]; exact VRel.plain (by simpa [plainT] using h)
theorem TRel.plain_eq {ρ : Nat → Loc} {n : Nat} {v v' : Value} (h : plainT v = true) (r : TRel ρ n v v') : v' = v := by
  cases v with
  | tuple vs =>
    obtain ⟨vs', rfl, hl⟩ := r
    have := LRel.eq_of (fun v hv v' r => VRel.plain_eq (List.all_eq_true.1 (by simpa [plainT] using h) v hv) r) hl
    congr 1; exact Array.ext' this
  | _ => simp only [TRel] at r; exact VRel.plain_eq (by simpa [plainT] using h) r
theorem plainT_of_V {v : Value} (h : plainV v = true) : plainT v = true := by
  cases v <;> first | exact h | simp [plainV, plainC] at h
theorem TRel.of_V {ρ : Nat → Loc} {n : Nat} {v v' : Value} (h : VRel ρ n v v') : TRel ρ n v v' := by
  cases v <;> first | exact h | (simp [VRel, CRel] at h)
theorem VRel.of_C {ρ : Nat → Loc} {n : Nat} {v v' : Value} (h : CRel ρ n v v') : VRel ρ n v v' := by
  cases v <;> first | exact h | (simp [CRel] at h)
theorem capRel.mono {ρ ρ' : Nat → Loc} {n : Nat} {a a' : Addr} {l c c' : Nat} (h : capRel ρ a l c a' c') (ha : a.spot = none → a.block < n) (hρ : ∀ i, i < n → ρ' i = ρ i) : capRel ρ' a l c a' c' := by
  have e : locA ρ' a = locA ρ a := by
    unfold locA; split
    · rename_i hs; rw [hρ _ (ha hs)]
    · rfl
  unfold capRel at *
  split
  · rename_i hc
    simp only [hc, if_true] at h
    rw [e]
    refine ⟨h.1, h.2.1, h.2.2.1, fun hs h0 => ?_⟩
    rw [hρ _ (ha hs)]; exact h.2.2.2 hs h0
  · rename_i hc
    simp only [hc, if_false] at h
    rw [e]; exact h
theorem PRel.mono {ρ ρ' : Nat → Loc} {n n' : Nat} {v v' : Value} (h : PRel ρ n v v') (hρ : ∀ i, i < n → ρ' i = ρ i) (hn : n ≤ n') : PRel ρ' n' v v' := by
  cases v with
  | pointer a =>
    cases a with
    | none => exact h
    | some a =>
      obtain ⟨h1, h2⟩ := h
      refine ⟨fun hs => Nat.lt_of_lt_of_le (h1 hs) hn, ?_⟩
      rw [h2]; congr 2
      unfold locA; split
      · rename_i hs; rw [hρ _ (h1 hs)]
      · rfl
  | _ => exact h
theorem CRel.mono {ρ ρ' : Nat → Loc} {n n' : Nat} {v v' : Value} (h : CRel ρ n v v') (hρ : ∀ i, i < n → ρ' i = ρ i) (hn : n ≤ n') : CRel ρ' n' v v' := by
  cases v with
  | pointer a =>
    cases a with
    | none => exact h
    | some a =>
      obtain ⟨h1, h2⟩ := h
      refine ⟨fun hs => Nat.lt_of_lt_of_le (h1 hs) hn, ?_⟩
      rw [h2]; congr 2
      unfold locA; split
      · rename_i hs; rw [hρ _ (h1 hs)]
      · rfl
  | slice a l c =>
    cases a with
    | none => exact h
    | some a =>
      obtain ⟨h1, a', c', h2, h3⟩ := h
      exact ⟨fun hs => Nat.lt_of_lt_of_le (h1 hs) hn, a', c', h2, h3.mono h1 hρ⟩
  | func fn fs cs => obtain ⟨cs', e, hl⟩ := h; exact ⟨cs', e, hl.mono fun _ _ r => PRel.mono r hρ hn⟩
  | _ => exact h
theorem VRel.mono {ρ ρ' : Nat → Loc} {n n' : Nat} {v v' : Value} (h : VRel ρ n v v') (hρ : ∀ i, i < n → ρ' i = ρ i) (hn : n ≤ n') : VRel ρ' n' v v' := by
  cases v with
  | agg cs => obtain ⟨cs', e, l⟩ := h; exact ⟨cs', e, l.mono fun _ _ r => CRel.mono r hρ hn⟩
  | _ => simp only [VRel] at h ⊢; exact CRel.mono h hρ hn
theorem TRel.mono {ρ ρ' : Nat → Loc} {n n' : Nat} {v v' : Value} (h : TRel ρ n v v') (hρ : ∀ i, i < n → ρ' i = ρ i) (hn : n ≤ n') : TRel ρ' n' v v' := by
  cases v with
  | tuple vs => obtain ⟨vs', e, l⟩ := h; exact ⟨vs', e, l.mono fun _ _ r => VRel.mono r hρ hn⟩
  | _ => simp only [TRel] at h ⊢; exact VRel.mono h hρ hn
theorem VRel.cells {ρ : Nat → Loc} {n : Nat} {v v' : Value} (h : VRel ρ n v v') : LRel (CRel ρ n) (vcells v) v'.cells.toList := by
  cases v with
  | agg cs => obtain ⟨cs', rfl, l⟩ := h; exact l
  | tuple _ => simp [VRel, CRel] at h
  | pointer a =>
    cases a with
    | none => simp [VRel, CRel] at h; subst h; exact .cons rfl .nil
    | some a => have h' := h; simp only [VRel, CRel] at h; obtain ⟨_, rfl⟩ := h; exact .cons h' .nil
  | slice a l c =>
    cases a with
    | none => have h' := h; simp only [VRel, CRel] at h; obtain ⟨_, _, rfl⟩ := h; exact .cons h' .nil
    | some a => have h' := h; simp only [VRel, CRel] at h; obtain ⟨_, _, _, rfl, _⟩ := h; exact .cons h' .nil
  | func fn fs cs => have h' := h; simp only [VRel, CRel] at h; obtain ⟨_, rfl, _⟩ := h; exact .cons h' .nil
  | _ => simp only [VRel, CRel] at h; subst h; exact .cons rfl .nil
theorem CRel.one {ρ : Nat → Loc} {n : Nat} {v v' : Value} (h : CRel ρ n v v') : v'.oneCell' = true := by
  cases v with
  | agg cs => simp [CRel] at h
  | tuple _ => simp [CRel] at h
  | pointer a => cases a <;> (simp only [CRel] at h; first | (subst h; rfl) | (obtain ⟨_, rfl⟩ := h; rfl))
  | slice a l c =>
    cases a with
    | none => simp only [CRel] at h; obtain ⟨_, _, rfl⟩ := h; rfl
    | some a => simp only [CRel] at h; obtain ⟨_, _, _, rfl, _⟩ := h; rfl
  | func fn fs cs => simp only [CRel] at h; obtain ⟨_, rfl, _⟩ := h; rfl
  | _ => simp only [CRel] at h; subst h; rfl
theorem LRel.ones {ρ : Nat → Loc} {n : Nat} {l l' : List Value} (h : LRel (CRel ρ n) l l') : ∀ v ∈ l', v.oneCell' = true := by
  intro v hv
  obtain ⟨j, hj, rfl⟩ := List.getElem_of_mem hv
  have hl : j < l.length := by rw [h.1]; exact hj
  obtain ⟨v', a, b⟩ := h.2 j l[j] (by simp [hl])
  have : l'[j] = v' := by simpa [hj] using a
  rw [this]; exact b.one
end Go.Ab
namespace Go.Ab
structure Ctx where
  w : World
  S : Nat → Prop
  n : Nat
  r : Nat → Loc
structure Sim (X : Cx) (C : Ctx) (ρ : Nat → Loc) (H : Heap) (w : World) : Prop where
  blk : ∀ i b, H[i]? = some (some b) → ∃ cs t fr, w.heap[(ρ i).block]? = some (.cells cs t fr) ∧
    (b.own = true → fr = (0, 0) ∧ cs.size = (ρ i).off + (ρ i).size ∧ b.es = (ρ i).es ∧ b.cells.length ≤ (ρ i).size) ∧
    ∀ (j : Nat) (v : Value), b.cells[j]? = some v → ∃ v', cs[(ρ i).off + j]? = some v' ∧ CRel ρ H.length v v'
  own : ∀ i b, H[i]? = some (some b) → b.own = true → C.S (ρ i).block ∨ C.w.heap.size ≤ (ρ i).block
  far : ∀ i j bi bj, H[i]? = some (some bi) → H[j]? = some (some bj) → bi.own = true → i ≠ j → (ρ i).block ≠ (ρ j).block
  os : w.os = C.w.os
  tape : w.tape = C.w.tape
  output : w.output = C.w.output
  size : C.w.heap.size ≤ w.heap.size
  keep : ∀ b, b < C.w.heap.size → ¬ C.S b → w.heap[b]? = C.w.heap[b]?
  agree : ∀ i, i < C.n → ρ i = C.r i
  len : C.n ≤ H.length
  glob : ∀ g l, X.glob g = some l → ¬ C.S g ∧ l.all plainC = true ∧ ∃ cs t fr, C.w.heap[g]? = some (.cells cs t fr) ∧ cs.toList = l
def ERel (ρ : Nat → Loc) (n : Nat) (e : Env) (tmps : Array Value) : Prop :=
  ∀ k v, e k = some v → ∃ v', tmps[k]? = some v' ∧ TRel ρ n v v'
theorem ERel.mono {ρ ρ' : Nat → Loc} {n n' : Nat} {e : Env} {tmps : Array Value} (h : ERel ρ n e tmps) (hρ : ∀ i, i < n → ρ' i = ρ i) (hn : n ≤ n') : ERel ρ' n' e tmps :=
  fun k v hk => let ⟨v', a, b⟩ := h k v hk; ⟨v', a, b.mono hρ hn⟩
theorem ERel.put {ρ : Nat → Loc} {n N : Nat} {e : Env} {a : Act} (h : ERel ρ n e a.tmps) (hN : a.tmps.size = N) {dst : Option Tmp} (hd : fitsN N dst = true) {v : Option Value} {v' : Value}
    (hv : ∀ u, v = some u → TRel ρ n u v') : ERel ρ n (putS e dst v) (a.put dst v').tmps := by
  cases dst with
  | none => exact h
  | some d =>
    simp only [fitsN, Nat.blt_eq] at hd
    intro k u hk
    simp only [putS, Env.set] at hk
    cases e' : Nat.beq k d with
    | true =>
      have : k = d := by simpa using e'
      subst this
      simp only [e', cond_true] at hk
      exact ⟨v', by simp [Act.put, hN, hd], hv u hk⟩
    | false =>
      have hne : k ≠ d := by intro h; subst h; simp at e'
      simp only [e', cond_false] at hk
      obtain ⟨u', a1, a2⟩ := h k u hk
      exact ⟨u', by simp only [Act.put]; rw [Array.getElem?_setIfInBounds_ne (fun h => hne h.symm)]; exact a1, a2⟩
theorem put_size (a : Act) (dst : Option Tmp) (v : Value) : (a.put dst v).tmps.size = a.tmps.size := by cases dst <;> simp [Act.put]
theorem put_defers (a : Act) (dst : Option Tmp) (v : Value) : (a.put dst v).defers = a.defers := by cases dst <;> rfl
def upd (ρ : Nat → Loc) (k : Nat) (L : Loc) : Nat → Loc := fun i => if i = k then L else ρ i
theorem upd_lt {ρ : Nat → Loc} {n : Nat} {L : Loc} : ∀ i, i < n → upd ρ n L i = ρ i := fun i hi => by unfold upd; rw [if_neg (by omega)]
theorem upd_same {ρ : Nat → Loc} {n : Nat} {L : Loc} : upd ρ n L n = L := by simp [upd]
section
variable {X : Cx} {C : Ctx} {ρ : Nat → Loc} {H : Heap} {w : World}
theorem Sim.lt (hs : Sim X C ρ H w) {i : Nat} {b : Blk} (h : H[i]? = some (some b)) : (ρ i).block < w.heap.size := by
  obtain ⟨cs, t, fr, a, _⟩ := hs.blk i b h
  rcases Nat.lt_or_ge (ρ i).block w.heap.size with h' | h'
  · exact h'
  · rw [Array.getElem?_eq_none h'] at a; cases a
theorem Sim.globNow (hs : Sim X C ρ H w) {g : Nat} {l : List Value} (h : X.glob g = some l) : l.all plainC = true ∧ ∃ cs t fr, w.heap[g]? = some (.cells cs t fr) ∧ cs.toList = l := by
  obtain ⟨h1, h2, cs, t, fr, h3, h4⟩ := hs.glob g l h
  have hlt : g < C.w.heap.size := by
    rcases Nat.lt_or_ge g C.w.heap.size with h' | h'
    · exact h'
    · rw [Array.getElem?_eq_none h'] at h3; cases h3
  exact ⟨h2, cs, t, fr, by rw [hs.keep g hlt h1]; exact h3, h4⟩
theorem Sim.of_alike {w' : World} (hs : Sim X C ρ H w) (h1 : w'.heap = w.heap) (h2 : w'.os = w.os) (h3 : w'.tape = w.tape) (h4 : w'.output = w.output) : Sim X C ρ H w' :=
  { blk := by rw [h1]; exact hs.blk, own := hs.own, far := hs.far, os := h2.trans hs.os, tape := h3.trans hs.tape, output := h4.trans hs.output
    size := by rw [h1]; exact hs.size, keep := by rw [h1]; exact hs.keep, agree := hs.agree, len := hs.len, glob := hs.glob }
theorem Sim.drew (hs : Sim X C ρ H w) : Sim X C ρ H w.drew := hs.of_alike rfl rfl rfl rfl
theorem getElem?_snoc {α : Type} (H : List α) (b : α) (i : Nat) (x : α) (h : (H ++ [b])[i]? = some x) : (i < H.length ∧ H[i]? = some x) ∨ (i = H.length ∧ x = b) := by
  by_cases hi : i < H.length
  · rw [List.getElem?_append_left hi] at h; exact .inl ⟨hi, h⟩
  · rw [List.getElem?_append_right (by omega)] at h
    by_cases e : i = H.length
    · subst e; simp at h; exact .inr ⟨rfl, h.symm⟩
    · rw [List.getElem?_eq_none (by simp; omega)] at h; cases h
theorem heap_alloc (w : World) (o : Obj) (k : Nat) (h : k < w.heap.size) : (w.alloc o).heap[k]? = w.heap[k]? := by
  show (w.heap.push o)[k]? = _
  rw [Array.getElem?_push, if_neg (by omega)]
theorem heap_alloc_same (w : World) (o : Obj) : (w.alloc o).heap[w.heap.size]? = some o := by
  show (w.heap.push o)[w.heap.size]? = _
  simp
theorem Sim.alloc (hs : Sim X C ρ H w) {l : List Value} {cs : Array Value} {t : TypeId} {es : Nat} (hl : l.length ≤ cs.size) (h : ∀ (j : Nat) v, l[j]? = some v → ∃ v', cs[j]? = some v' ∧ CRel ρ H.length v v') :
    Sim X C (upd ρ H.length ⟨w.heap.size, 0, cs.size, es⟩) (H ++ [some { cells := l, own := true, es := es }]) (w.alloc (.cells cs t)) := by
  have hlen : (H ++ [some { cells := l, own := true, es := es : Blk }]).length = H.length + 1 := by simp
  refine { blk := ?_, own := ?_, far := ?_, os := hs.os, tape := hs.tape, output := hs.output, size := ?_, keep := ?_, agree := ?_, len := ?_, glob := hs.glob }
  · intro i b hb
    rw [hlen]
    rcases getElem?_snoc _ _ _ _ hb with ⟨hi, hb⟩ | ⟨rfl, hb2⟩
    · rw [upd_lt i hi]
      obtain ⟨cs', t', fr, h1, h2, h3⟩ := hs.blk i b hb
      refine ⟨cs', t', fr, by rw [heap_alloc _ _ _ (hs.lt hb)]; exact h1, h2, fun j v hj => ?_⟩
      obtain ⟨v', a, r⟩ := h3 j v hj
      exact ⟨v', a, r.mono upd_lt (by omega)⟩
    · injection hb2 with hb2
      subst hb2
      rw [upd_same]
      refine ⟨cs, t, (0, 0), by simpa using heap_alloc_same w _, fun _ => ⟨rfl, by simp, rfl, hl⟩, fun j v hj => ?_⟩
      obtain ⟨v', a, r⟩ := h j v hj
      exact ⟨v', by simpa using a, r.mono upd_lt (by omega)⟩
  · intro i b hb ho
    rcases getElem?_snoc _ _ _ _ hb with ⟨hi, hb⟩ | ⟨rfl, hb⟩
    · rw [upd_lt i hi]; exact hs.own i b hb ho
    · rw [upd_same]; exact .inr hs.size
  · intro i j bi bj hi hj ho hne
    rcases getElem?_snoc _ _ _ _ hi with ⟨h1, h2⟩ | ⟨rfl, h2⟩ <;> rcases getElem?_snoc _ _ _ _ hj with ⟨h3, h4⟩ | ⟨rfl, h4⟩
    · rw [upd_lt i h1, upd_lt j h3]; exact hs.far i j bi bj h2 h4 ho hne
    · rw [upd_lt i h1, upd_same]; have := hs.lt h2; simp; omega
    · rw [upd_lt j h3, upd_same]; have := hs.lt h4; simp; omega
    · exact absurd rfl hne
  · have := hs.size; simp; omega
  · intro b hb hS
    rw [heap_alloc _ _ _ (by have := hs.size; omega)]; exact hs.keep b hb hS
  · intro i hi
    rw [upd_lt i (by have := hs.len; omega)]; exact hs.agree i hi
  · rw [hlen]; have := hs.len; omega
theorem Sim.store (hs : Sim X C ρ H w) {i : Nat} {b : Blk} (hb : H[i]? = some (some b)) (ho : b.own = true) {l : List Value} {cs cs' : Array Value} {t : TypeId} {fr : Nat × Nat}
    (hw : w.heap[(ρ i).block]? = some (.cells cs t fr)) (hsz : cs'.size = cs.size) (hl : l.length ≤ (ρ i).size)
    (h : ∀ (j : Nat) v, l[j]? = some v → ∃ v', cs'[(ρ i).off + j]? = some v' ∧ CRel ρ H.length v v') :
    Sim X C ρ (H.set i (some { b with cells := l })) (w.setRow (ρ i).block cs') := by
  have hilt : i < H.length := by
    rcases Nat.lt_or_ge i H.length with h' | h'
    · exact h'
    · rw [List.getElem?_eq_none h'] at hb; cases hb
  have at_ : ∀ k x, (H.set i (some { b with cells := l }))[k]? = some x → (k = i ∧ x = some { b with cells := l }) ∨ (k ≠ i ∧ H[k]? = some x) := by
    intro k x hk
    rw [List.getElem?_set] at hk
    by_cases e : i = k
    · subst e; simp [hilt] at hk; exact .inl ⟨rfl, hk.symm⟩
    · simp [e] at hk; exact .inr ⟨fun h => e h.symm, hk⟩
  refine { blk := ?_, own := ?_, far := ?_, os := by simpa using hs.os, tape := by simpa using hs.tape, output := by simpa using hs.output, size := by simpa using hs.size, keep := ?_, agree := hs.agree, len := by simpa using hs.len, glob := hs.glob }
  · intro k bk hk
    rw [List.length_set]
    rcases at_ k _ hk with ⟨rfl, e⟩ | ⟨hne, hk⟩
    · cases e
      obtain ⟨cs0, t0, fr0, h1, h2, _⟩ := hs.blk k b hb
      rw [hw] at h1; cases h1
      obtain ⟨rfl, h4, h5, _⟩ := h2 ho
      exact ⟨cs', t, (0, 0), setRow_heap w _ _ _ _ _ hw, fun _ => ⟨rfl, by rw [hsz]; exact h4, h5, hl⟩, h⟩
    · obtain ⟨cs0, t0, fr0, h1, h2, h3⟩ := hs.blk k bk hk
      have hfar := hs.far i k b bk hb hk ho (fun h => hne h.symm)
      exact ⟨cs0, t0, fr0, by rw [setRow_other _ _ _ _ (fun h => hfar h.symm)]; exact h1, h2, h3⟩
  · intro k bk hk hok
    rcases at_ k _ hk with ⟨rfl, e⟩ | ⟨hne, hk⟩
    · cases e; exact hs.own k b hb ho
    · exact hs.own k bk hk hok
  · intro k m bk bm hk hm hok hne
    rcases at_ k _ hk with ⟨rfl, e⟩ | ⟨hne1, hk⟩ <;> rcases at_ m _ hm with ⟨rfl, e'⟩ | ⟨hne2, hm⟩
    · exact absurd rfl hne
    · exact hs.far k m b bm hb hm ho hne
    · injection e' with e'; subst e'; exact hs.far k m bk b (by assumption) hb hok hne
    · exact hs.far k m bk bm hk hm hok hne
  · intro k hk hS
    have := hs.own i b hb ho
    have hne : k ≠ (ρ i).block := by
      rintro rfl
      rcases this with h | h
      · exact hS h
      · omega
    rw [setRow_other _ _ _ _ hne]; exact hs.keep k hk hS
theorem Sim.kill (hs : Sim X C ρ H w) (i : Nat) : Sim X C ρ (H.set i none) w := by
  have at_ : ∀ (k : Nat) (x : Blk), (H.set i none)[k]? = some (some x) → k ≠ i ∧ H[k]? = some (some x) := by
    intro k x hk
    rw [List.getElem?_set] at hk
    by_cases e : i = k
    · subst e; simp only [if_true] at hk; split at hk <;> cases hk
    · simp [e] at hk; exact ⟨fun h => e h.symm, hk⟩
  exact { blk := fun k b hk => by rw [List.length_set]; exact hs.blk k b (at_ k b hk).2, own := fun k b hk => hs.own k b (at_ k b hk).2, far := fun k m bk bm hk hm => hs.far k m bk bm (at_ _ _ hk).2 (at_ _ _ hm).2,
          os := hs.os, tape := hs.tape, output := hs.output, size := hs.size, keep := hs.keep, agree := hs.agree, len := by simpa using hs.len, glob := hs.glob }
theorem Sim.move (hs : Sim X C ρ H w) {i : Nat} {b : Blk} (hb : H[i]? = some (some b)) : Sim X C (upd ρ H.length (ρ i)) (H.set i none ++ [some b]) w := by
  have hilt : i < H.length := by
    rcases Nat.lt_or_ge i H.length with h' | h'
    · exact h'
    · rw [List.getElem?_eq_none h'] at hb; cases hb
  have hlen : (H.set i none ++ [some b]).length = H.length + 1 := by simp
  have at_ : ∀ k x, (H.set i none ++ [some b])[k]? = some (some x) → (k < H.length ∧ k ≠ i ∧ H[k]? = some (some x)) ∨ (k = H.length ∧ x = b) := by
    intro k x hk
    rcases getElem?_snoc _ _ _ _ hk with ⟨h1, h2⟩ | ⟨h1, h2⟩
    · rw [List.length_set] at h1
      rw [List.getElem?_set] at h2
      by_cases e : i = k
      · subst e; simp only [if_true] at h2; split at h2 <;> cases h2
      · simp [e] at h2; exact .inl ⟨h1, fun h => e h.symm, h2⟩
    · rw [List.length_set] at h1; injection h2 with h2; exact .inr ⟨h1, h2⟩
  have look : ∀ k x, (H.set i none ++ [some b])[k]? = some (some x) → ∃ m, H[m]? = some (some x) ∧ upd ρ H.length (ρ i) k = ρ m ∧ (k = m ∧ k ≠ i ∨ k = H.length ∧ m = i) := by
    intro k x hk
    rcases at_ k x hk with ⟨h1, h2, h3⟩ | ⟨rfl, rfl⟩
    · exact ⟨k, h3, upd_lt k h1, .inl ⟨rfl, h2⟩⟩
    · exact ⟨i, hb, upd_same, .inr ⟨rfl, rfl⟩⟩
  refine { blk := ?_, own := ?_, far := ?_, os := hs.os, tape := hs.tape, output := hs.output, size := hs.size, keep := hs.keep, agree := ?_, len := ?_, glob := hs.glob }
  · intro k x hk
    obtain ⟨m, h1, h2, _⟩ := look k x hk
    rw [h2, hlen]
    obtain ⟨cs, t, fr, g1, g2, g3⟩ := hs.blk m x h1
    refine ⟨cs, t, fr, g1, g2, fun j v hj => ?_⟩
    obtain ⟨v', a, r⟩ := g3 j v hj
    exact ⟨v', a, r.mono upd_lt (by omega)⟩
  · intro k x hk ho
    obtain ⟨m, h1, h2, _⟩ := look k x hk
    rw [h2]; exact hs.own m x h1 ho
  · intro k m bk bm hk hm ho hne
    obtain ⟨k', h1, h2, h3⟩ := look k bk hk
    obtain ⟨m', g1, g2, g3⟩ := look m bm hm
    rw [h2, g2]
    exact hs.far k' m' bk bm h1 g1 ho (by omega)
  · intro k hk
    rw [upd_lt k (by have := hs.len; omega)]; exact hs.agree k hk
  · rw [hlen]; have := hs.len; omega
def ctxOf (ρ : Nat → Loc) (H : Heap) (w : World) : Ctx :=
  { w := w, S := fun k => ∃ i b, H[i]? = some (some b) ∧ b.own = true ∧ (ρ i).block = k, n := H.length, r := ρ }
theorem Sim.enter (hs : Sim X C ρ H w) : Sim X (ctxOf ρ H w) ρ H w :=
  { blk := hs.blk, own := fun i b h ho => .inl ⟨i, b, h, ho, rfl⟩, far := hs.far, os := rfl, tape := rfl, output := rfl, size := Nat.le_refl _, keep := fun _ _ _ => rfl, agree := fun _ _ => rfl, len := Nat.le_refl _,
    glob := fun g l h => by
      obtain ⟨h1, h2⟩ := hs.globNow h
      obtain ⟨g1, g2, cs, t, fr, g3, g4⟩ := hs.glob g l h
      refine ⟨?_, h1, h2⟩
      rintro ⟨i, b, hb, ho, e⟩
      have hlt : g < C.w.heap.size := by
        rcases Nat.lt_or_ge g C.w.heap.size with h' | h'
        · exact h'
        · rw [Array.getElem?_eq_none h'] at g3; cases g3
      rcases hs.own i b hb ho with h | h
      · rw [e] at h; exact g1 h
      · omega }
theorem Sim.leave {ρ' : Nat → Loc} {H' : Heap} {w' : World} (hs : Sim X C ρ H w) (h : Sim X (ctxOf ρ H w) ρ' H' w') : Sim X C ρ' H' w' := by
  have hS : ∀ k, (ctxOf ρ H w).S k → C.S k ∨ C.w.heap.size ≤ k := by
    rintro k ⟨i, b, hb, ho, rfl⟩; exact hs.own i b hb ho
  refine { blk := h.blk, own := ?_, far := h.far, os := h.os.trans hs.os, tape := h.tape.trans hs.tape, output := h.output.trans hs.output, size := Nat.le_trans hs.size h.size, keep := ?_, agree := ?_, len := Nat.le_trans hs.len h.len, glob := hs.glob }
  · intro i b hb ho
    rcases h.own i b hb ho with h1 | h1
    · exact hS _ h1
    · exact .inr (Nat.le_trans hs.size h1)
  · intro k hk hk'
    rw [h.keep k (Nat.lt_of_lt_of_le hk hs.size) (fun h => by rcases hS k h with h | h; exact hk' h; omega)]
    exact hs.keep k hk hk'
  · intro i hi
    rw [h.agree i (Nat.lt_of_lt_of_le hi hs.len)]; exact hs.agree i hi
end
end Go.Ab
namespace Go.Ab
section
variable {X : Cx} {C : Ctx} {ρ : Nat → Loc} {n : Nat} {e : Env} {a : Act} {w : World} {P : Program}
theorem szOf_some {t : TypeId} {n : Nat} (h : szOf P t = some n) : ∃ i, P.info? t = some i ∧ i.size = n := by
  simpa [szOf] using h
theorem run_sizeOf {t : TypeId} {n : Nat} (h : szOf P t = some n) : (sizeOf t).run P w = .ok n w := by
  obtain ⟨i, h1, h2⟩ := szOf_some h
  simp [sizeOf, typeInfo, h1, h2]
theorem run_underlying' {t : TypeId} {d : TypeDesc} (h : P.underlying t = some d) : (underlying t).run P w = .ok d w := by
  simp [underlying, h]
theorem run_isAgg {t : TypeId} {d : TypeDesc} (h : P.underlying t = some d) : (isAgg t).run P w = .ok (aggT d) w := by
  cases d <;> simp [isAgg, underlying, h, aggT]
theorem zeroOf_raw {t : TypeId} {z : Value} (h : zeroOf P t = some z) : (P.info? t).bind (·.zero) = some z := by
  simp only [zeroOf] at h
  obtain ⟨u, hu, h⟩ := Option.bind_eq_some_iff.1 h
  cases hb : (vcells u).all wfcB <;> simp only [hb, cond_true, cond_false] at h
  · cases h
  · injection h with h; subst h; exact hu
theorem run_zeroValue {t : TypeId} {z : Value} (h : zeroOf P t = some z) : (zeroValue t).run P w = .ok z w := by
  replace h := zeroOf_raw h
  cases hi : P.info? t with
  | none => simp [hi] at h
  | some i => simp [hi] at h; simp [zeroValue, typeInfo, hi, h]
theorem evo_sound (he : ERel ρ n e a.tmps) {x : Operand} {v : Value} (h : evo e x = some v) : TRel ρ n v (a.eval x) := by
  cases x with
  | tmp t =>
    obtain ⟨v', h1, h2⟩ := he t v h
    simpa [Act.eval, h1] using h2
  | const c =>
    simp only [evo] at h
    cases hp : plainV c
    · simp [hp] at h
    · cases hb : (vcells c).all wfcB
      · simp only [hp, hb, Bool.true_and, cond_false] at h; cases h
      · simp only [hp, hb, Bool.true_and, cond_true, Option.some.injEq] at h
        subst h
        exact .plain (plainT_of_V hp)
  | global g =>
    simp only [evo] at h; cases h
    exact ⟨by simp, rfl⟩
  | func f => simp only [evo] at h; cases h; exact .plain rfl
theorem part_sound {t : TypeId} {cs : List Value} {cs' : Array Value} {off : Nat} {v : Value} (h : apart P t cs off = some v) (r : LRel (CRel ρ n) cs cs'.toList) :
    ∃ v', (part t cs' off).run P w = .ok v' w ∧ VRel ρ n v v' := by
  unfold apart at h
  split at h
  · rename_i d k hd hk
    split at h
    · rename_i hagg
      cases hb : Nat.ble (off + k) cs.length <;> simp [hb] at h
      subst h
      refine ⟨.agg (cs'.extract off (off + k)), ?_, cs'.extract off (off + k), rfl, ?_⟩
      · simp [part, run_isAgg hd, hagg, run_sizeOf hk]
      · have := (r.drop off).take k
        simpa [Array.toList_extract, List.extract_eq_take_drop] using this
    · rename_i hagg
      obtain ⟨v', h1, h2⟩ := r.2 off v h
      have h3 : cs'[off]? = some v' := by simpa using h1
      exact ⟨v', by simp [part, run_isAgg hd, hagg, h3], .of_C h2⟩
  · cases h
theorem TRel.V {v v' : Value} (h : TRel ρ n v v') (hv : ∀ vs, v ≠ .tuple vs) : VRel ρ n v v' := by
  cases v with
  | tuple vs => exact absurd rfl (hv vs)
  | _ => exact h
theorem TRel.int {k : IntKind} {i : Int} {v' : Value} (h : TRel ρ n (.int k i) v') : v' = .int k i := h
theorem TRel.bool {b : Bool} {v' : Value} (h : TRel ρ n (.bool b) v') : v' = .bool b := h
theorem TRel.str {s : ByteArray} {v' : Value} (h : TRel ρ n (.string s) v') : v' = .string s := h
theorem TRel.agg {cs : Array Value} {v' : Value} (h : TRel ρ n (.agg cs) v') : ∃ cs', v' = .agg cs' ∧ LRel (CRel ρ n) cs.toList cs'.toList := h
theorem TRel.ptr {p : Addr} {v' : Value} (h : TRel ρ n (.pointer (some p)) v') : (p.spot = none → p.block < n) ∧ v' = .pointer (some (locA ρ p)) := h
theorem TRel.slc {p : Addr} {l c : Nat} {v' : Value} (h : TRel ρ n (.slice (some p) l c) v') : (p.spot = none → p.block < n) ∧ ∃ a' c', v' = .slice (some a') l c' ∧ capRel ρ p l c a' c' := h
theorem TRel.slcnil {l c : Nat} {v' : Value} (h : TRel ρ n (.slice none l c) v') : l = 0 ∧ c = 0 ∧ v' = .slice none l c := h
theorem TRel.isptr {p : Option Addr} {v' : Value} (h : TRel ρ n (.pointer p) v') : ∃ q, v' = .pointer q := by
  cases p with
  | none => exact ⟨none, h⟩
  | some p => exact ⟨_, (TRel.ptr h).2⟩
theorem TRel.isslc {p : Option Addr} {l c : Nat} {v' : Value} (h : TRel ρ n (.slice p l c) v') : ∃ q l' c', v' = .slice q l' c' := by
  cases p with
  | none => exact ⟨_, _, _, (TRel.slcnil h).2.2⟩
  | some p => obtain ⟨_, a, c', e, _⟩ := TRel.slc h; exact ⟨_, _, _, e⟩
theorem forIn_list_all {α : Type} (l : List α) (w : World) (g : α → Sem (ForInStep (Option Bool × Unit))) (f : α → Option Bool)
    (hg : ∀ x ∈ l, ∀ b, f x = some b → (g x).run P w = .ok (if b then .yield (none, ()) else .done (some false, ())) w) : ∀ b, allB (l.map f) = some b →
    (forIn (m := Sem) l ((none, ()) : Option Bool × Unit) fun x _ => g x).run P w = .ok (if b then (none, ()) else (some false, ())) w := by
  induction l with
  | nil => intro b h; simp [allB] at h; subst h; simp
  | cons x l ih =>
    intro b h
    simp only [List.map_cons, allB] at h
    cases hx : f x with
    | none => simp [hx] at h
    | some b0 =>
      simp only [hx, Option.bind_some] at h
      have h0 := hg x (by simp) b0 hx
      simp only [List.forIn_cons, Sem.run_bind, h0, Result.andThen_ok]
      cases hr : allB (l.map f) with
      | none => simp [hr] at h
      | some c =>
        simp only [hr, Option.map_some, Option.some.injEq] at h
        subst h
        cases b0 with
        | false => simp
        | true =>
          simp only [if_true, Bool.true_and]
          exact ih (fun y hy => hg y (by simp [hy])) c hr
theorem aeqIn_sound (d : Nat) : ∀ (dd : Nat) (t : TypeId) (x y x' y' : Value) (b : Bool), d ≤ dd → aeqIn P d t x y = some b → VRel ρ n x x' → VRel ρ n y y' → (Op.equalIn dd t x' y').run P w = .ok b w := by
  induction d with
  | zero => intro dd t x y x' y' b _ h; simp [aeqIn] at h
  | succ d ih =>
    intro dd t x y x' y' b hd h hx hy
    obtain ⟨dd, rfl⟩ : ∃ m, dd = m + 1 := ⟨dd - 1, by omega⟩
    unfold aeqIn at h
    split at h
    · rename_i ht
      have ex := TRel.bool (TRel.of_V hx); have ey := TRel.bool (TRel.of_V hy); subst ex; subst ey
      injection h with h; subst h
      exact run_equalIn_bool' w dd t _ _ ht
    · rename_i k0 k a k' b' ht
      have ex := TRel.int (TRel.of_V hx); have ey := TRel.int (TRel.of_V hy); subst ex; subst ey
      split at h
      · rename_i e; subst e; injection h with h; subst h
        exact run_equalIn_int w dd t k k0 _ _ ht
      · cases h
    · rename_i a b' ht
      have ex := TRel.str (TRel.of_V hx); have ey := TRel.str (TRel.of_V hy); subst ex; subst ey
      injection h with h; subst h
      simp only [Op.equalIn, Sem.run_bind, run_underlying' ht, Result.andThen_ok, Sem.run_pure]
    · rename_i el b' ht
      have ex : x' = .pointer none := hx
      subst ex
      injection h with h; subst h
      cases b' with
      | none =>
        have ey : y' = .pointer none := hy
        subst ey
        simp only [Op.equalIn, Sem.run_bind, run_underlying' ht, Result.andThen_ok, Sem.run_pure]
      | some p =>
        obtain ⟨_, rfl⟩ := TRel.ptr (TRel.of_V hy)
        simp only [Op.equalIn, Sem.run_bind, run_underlying' ht, Result.andThen_ok, Sem.run_pure, Option.isNone]
    · rename_i el p ht
      obtain ⟨_, rfl⟩ := TRel.ptr (TRel.of_V hx)
      have ey : y' = .pointer none := hy
      subst ey
      injection h with h; subst h
      simp only [Op.equalIn, Sem.run_bind, run_underlying' ht, Result.andThen_ok, Sem.run_pure]
    · rename_i el l c b' l' c' ht
      obtain ⟨_, _, rfl⟩ := TRel.slcnil (TRel.of_V hx)
      injection h with h; subst h
      cases b' with
      | none =>
        obtain ⟨_, _, rfl⟩ := TRel.slcnil (TRel.of_V hy)
        simp only [Op.equalIn, Sem.run_bind, run_underlying' ht, Result.andThen_ok, Sem.run_pure]
      | some p =>
        obtain ⟨_, _, _, rfl, _⟩ := TRel.slc (TRel.of_V hy)
        simp only [Op.equalIn, Sem.run_bind, run_underlying' ht, Result.andThen_ok, Sem.run_pure, Option.isNone]
    · rename_i el p l c l' c' ht
      obtain ⟨_, _, _, rfl, _⟩ := TRel.slc (TRel.of_V hx)
      obtain ⟨_, _, rfl⟩ := TRel.slcnil (TRel.of_V hy)
      injection h with h; subst h
      simp only [Op.equalIn, Sem.run_bind, run_underlying' ht, Result.andThen_ok, Sem.run_pure]
    · rename_i fs xs ys ht
      obtain ⟨xs', rfl, rx⟩ := TRel.agg (TRel.of_V hx)
      obtain ⟨ys', rfl, ry⟩ := TRel.agg (TRel.of_V hy)
      by_cases hst0 : P.stoodInHeld t = true
      · simp only [hst0, cond_true] at h; cases h
      have hst : P.stoodInHeld t = false := by simpa using hst0
      simp only [hst, cond_false] at h
      simp only [Op.equalIn, Sem.run_bind, run_underlying' ht, Result.andThen_ok, run_program, hst, Bool.false_eq_true, if_false]
      rw [← Array.forIn_toList]
      rw [forIn_list_all fs.toList w _ _ ?_ b h]
      · cases b <;> simp
      · intro f _ b0 hb
        by_cases hname : f.name = "_"
        · simp [hname] at hb; subst hb; simp [hname]
        · simp only [ne_eq, hname, not_false_eq_true, if_true] at hb ⊢
          cases hp : apart P f.type xs.toList f.offset with
          | none => simp [hp] at hb
          | some u =>
            simp only [hp, Option.bind_some] at hb
            cases hq : apart P f.type ys.toList f.offset with
            | none => simp [hq] at hb
            | some v =>
              simp only [hq, Option.bind_some] at hb
              obtain ⟨u', r1, v1⟩ := part_sound (w := w) hp rx
              obtain ⟨v', r2, v2⟩ := part_sound (w := w) hq ry
              have r3 := ih dd f.type u v u' v' b0 (by omega) hb v1 v2
              simp only [Sem.run_bind, r1, Result.andThen_ok, r2, r3]
              cases b0 <;> simp
    · rename_i len el xs ys ht
      obtain ⟨xs', rfl, rx⟩ := TRel.agg (TRel.of_V hx)
      obtain ⟨ys', rfl, ry⟩ := TRel.agg (TRel.of_V hy)
      cases hsz : szOf P el with
      | none => simp [hsz] at h
      | some k =>
        simp only [hsz, Option.bind_some] at h
        simp only [Op.equalIn, Sem.run_bind, run_underlying' ht, Result.andThen_ok, run_sizeOf hsz]
        rw [Std.Legacy.Range.forIn_eq_forIn_range']
        simp only [Std.Legacy.Range.size, Nat.sub_zero, Nat.add_sub_cancel, Nat.div_one]
        rw [forIn_list_all (List.range' 0 len) w _ _ ?_ b h]
        · cases b <;> simp
        · intro i _ b0 hb
          cases hp : apart P el xs.toList (i * k) with
          | none => simp [hp] at hb
          | some u =>
            simp only [hp, Option.bind_some] at hb
            cases hq : apart P el ys.toList (i * k) with
            | none => simp [hq] at hb
            | some v =>
              simp only [hq, Option.bind_some] at hb
              obtain ⟨u', r1, v1⟩ := part_sound (w := w) hp rx
              obtain ⟨v', r2, v2⟩ := part_sound (w := w) hq ry
              have r3 := ih dd el u v u' v' b0 (by omega) hb v1 v2
              simp only [Sem.run_bind, r1, Result.andThen_ok, r2, r3]
              cases b0 <;> simp
    · cases h
theorem abin_sound {op : BinOp} {t : TypeId} {x y v x' y' : Value} {ox oy : Operand} (h : abin P op t x y = some v) (hx : TRel ρ n x x') (hy : TRel ρ n y y') :
    ∃ v', (do eqGuard op t ox oy x' y'; binOp op t x' y' : Sem Value).run P w = .ok v' w ∧ TRel ρ n v v' := by
  unfold abin at h
  split at h
  · rename_i k a0 k1 b0
    have ex := TRel.int hx; have ey := TRel.int hy; subst ex; subst ey
    refine ⟨v, ?_, ?_⟩
    · unfold ishift at h
      split at h
      · cases h
      · rename_i hb; simp only [Option.some.injEq] at h; subst h
        simp [eqGuard, binOp, Op.shift, hb]
    · unfold ishift at h
      split at h
      · cases h
      · simp only [Option.some.injEq] at h; subst h; rfl
  · rename_i k a0 k1 b0
    have ex := TRel.int hx; have ey := TRel.int hy; subst ex; subst ey
    refine ⟨v, ?_, ?_⟩
    · unfold ishift at h
      split at h
      · cases h
      · rename_i hb; simp only [Option.some.injEq] at h; subst h
        simp [eqGuard, binOp, Op.shift, hb]
    · unfold ishift at h
      split at h
      · cases h
      · simp only [Option.some.injEq] at h; subst h; rfl
  · rename_i k a0 k' b0 hne1 hne2
    have ex := TRel.int hx; have ey := TRel.int hy; subst ex; subst ey
    split at h
    · rename_i e; subst e
      cases op <;> simp only [ibin] at h <;> first
        | (simp at h; done)
        | (injection h with h; subst h; exact ⟨_, by simp [eqGuard, binOp, Op.intArith, Op.intBits, Op.intCmp], rfl⟩)
        | (by_cases hz : b0 = 0
           · rw [if_pos hz] at h; cases h
           · rw [if_neg hz] at h; injection h with h; subst h; exact ⟨_, by simp [eqGuard, binOp, Op.intDiv, hz], rfl⟩)
    · cases h
  · rename_i a b
    have ex := TRel.str hx; have ey := TRel.str hy; subst ex; subst ey
    cases op <;> simp only [astr] at h <;> first
      | (cases h; done)
      | (injection h with h; subst h; exact ⟨_, by simp [eqGuard, binOp, Op.stringOp], rfl⟩)
      | (by_cases hz : ((a.size + b.size : Nat) : Int) > IntKind.i64.max
         · rw [if_pos hz] at h; cases h
         · rw [if_neg hz] at h; injection h with h; subst h; exact ⟨_, by simp only [eqGuard, binOp, Op.stringOp, if_neg hz]; simp, rfl⟩)
  · simp only [Option.map_eq_some_iff] at h
    obtain ⟨b, hb, rfl⟩ := h
    unfold aeq at hb
    split at hb
    · rename_i hne _
      exact (hne _ _ _ _ rfl rfl).elim
    · have ex := TRel.bool hx; have ey := TRel.bool hy; subst ex; subst ey
      have := aeqIn_sound (ρ := ρ) (n := n) (w := w) 20 10000 t _ _ _ _ b (by omega) hb (VRel.plain rfl) (VRel.plain rfl)
      exact ⟨.bool b, by simp [eqGuard, binOp, Op.equal, Op.maxDepth, this], rfl⟩
    · have := aeqIn_sound (w := w) 20 10000 t _ _ _ _ b (by omega) hb (TRel.V hx (by simp)) (TRel.V hy (by simp))
      obtain ⟨p', rfl⟩ := TRel.isptr hx
      obtain ⟨q', rfl⟩ := TRel.isptr hy
      exact ⟨.bool b, by simp [eqGuard, binOp, Op.equal, Op.maxDepth, this], rfl⟩
    · have := aeqIn_sound (w := w) 20 10000 t _ _ _ _ b (by omega) hb (TRel.V hx (by simp)) (TRel.V hy (by simp))
      obtain ⟨p', l1, c1, rfl⟩ := TRel.isslc hx
      obtain ⟨q', l2, c2, rfl⟩ := TRel.isslc hy
      exact ⟨.bool b, by simp [eqGuard, binOp, Op.equal, Op.maxDepth, this], rfl⟩
    · obtain ⟨xs', rfl, rx⟩ := TRel.agg hx
      obtain ⟨ys', rfl, ry⟩ := TRel.agg hy
      cases hg : P.eqGuardType P.depth t <;> simp only [hg, cond_true, cond_false] at hb
      · have := aeqIn_sound (w := w) 20 10000 t _ _ _ _ b (by omega) hb (TRel.V hx (by simp)) (TRel.V hy (by simp))
        exact ⟨.bool b, by simp only [Sem.run_bind, run_eqGuard_agg w _ _ _ _ _ _ hg, Result.andThen_ok, run_eql_struct, this], rfl⟩
      · cases hb
    · cases hb
  · simp only [Option.map_eq_some_iff] at h
    obtain ⟨b, hb, rfl⟩ := h
    unfold aeq at hb
    split at hb
    · rename_i hne _
      exact (hne _ _ _ _ rfl rfl).elim
    · have ex := TRel.bool hx; have ey := TRel.bool hy; subst ex; subst ey
      have := aeqIn_sound (ρ := ρ) (n := n) (w := w) 20 10000 t _ _ _ _ b (by omega) hb (VRel.plain rfl) (VRel.plain rfl)
      exact ⟨.bool !b, by simp [eqGuard, binOp, Op.equal, Op.maxDepth, this], rfl⟩
    · have := aeqIn_sound (w := w) 20 10000 t _ _ _ _ b (by omega) hb (TRel.V hx (by simp)) (TRel.V hy (by simp))
      obtain ⟨p', rfl⟩ := TRel.isptr hx
      obtain ⟨q', rfl⟩ := TRel.isptr hy
      exact ⟨.bool !b, by simp [eqGuard, binOp, Op.equal, Op.maxDepth, this], rfl⟩
    · have := aeqIn_sound (w := w) 20 10000 t _ _ _ _ b (by omega) hb (TRel.V hx (by simp)) (TRel.V hy (by simp))
      obtain ⟨p', l1, c1, rfl⟩ := TRel.isslc hx
      obtain ⟨q', l2, c2, rfl⟩ := TRel.isslc hy
      exact ⟨.bool !b, by simp [eqGuard, binOp, Op.equal, Op.maxDepth, this], rfl⟩
    · obtain ⟨xs', rfl, rx⟩ := TRel.agg hx
      obtain ⟨ys', rfl, ry⟩ := TRel.agg hy
      cases hg : P.eqGuardType P.depth t <;> simp only [hg, cond_true, cond_false] at hb
      · have := aeqIn_sound (w := w) 20 10000 t _ _ _ _ b (by omega) hb (TRel.V hx (by simp)) (TRel.V hy (by simp))
        exact ⟨.bool !b, by simp only [Sem.run_bind, run_eqGuard_agg w _ _ _ _ _ _ hg, Result.andThen_ok, run_neq_struct, this], rfl⟩
      · cases hb
    · cases hb
  · cases h
theorem aun_sound {op : UnOp} {x v x' : Value} (h : aun op x = some v) (hx : TRel ρ n x x') : (Op.unary op x').run P w = .ok v w ∧ TRel ρ n v v := by
  unfold aun at h
  split at h
  · have ex := TRel.int hx; subst ex; injection h with h; subst h; exact ⟨by simp [Op.unary, Op.intArith], rfl⟩
  · have ex := TRel.int hx; subst ex; injection h with h; subst h; exact ⟨by simp [Op.unary, Op.intBits], rfl⟩
  · have ex := TRel.bool hx; subst ex; injection h with h; subst h; exact ⟨by simp [Op.unary], rfl⟩
  · cases h
theorem aconv_sound {src dst : TypeId} {x v x' : Value} (hsrc : ∃ d, P.underlying src = some d) (h : aconv P dst x = some v) (hx : TRel ρ n x x') : (convert src dst x').run P w = .ok v w ∧ TRel ρ n v v := by
  obtain ⟨d, hd⟩ := hsrc
  unfold aconv at h
  split at h
  · rename_i hk
    have ex := TRel.int hx; subst ex; injection h with h; subst h
    refine ⟨?_, rfl⟩
    simp only [convert, Sem.run_bind, run_underlying' hd, run_underlying' hk, Result.andThen_ok, Conv.intToInt]
    rfl
  · cases h
theorem aint_sound {x x' : Value} {i : Int} (h : aint x = some i) (hx : TRel ρ n x x') : ∃ k, x' = .int k i := by
  cases x <;> simp [aint] at h
  subst h; exact ⟨_, hx⟩
theorem run_asIntOf (k : IntKind) (i : Int) : (asIntOf (.int k i)).run P w = .ok (k, i) w := rfl
theorem add_locA {p : Addr} {m : Nat} : (locA ρ p).add m = locA ρ (addA p m) := by
  unfold Addr.add locA addA
  cases p.spot <;> simp <;> split <;> simp_all <;> omega
theorem evOpt {x : Option Operand} (he : ERel ρ n e a.tmps) : ∀ v, (x.map (evo e)) = some (some v) → ∃ o v', x = some o ∧ (x.map a.eval) = some v' ∧ TRel ρ n v v' := by
  intro v h
  cases x with
  | none => cases h
  | some o => simp at h; exact ⟨o, a.eval o, rfl, rfl, evo_sound he h⟩
theorem bound_sound {o : Operand} (he : ERel ρ n e a.tmps) {m i : Nat} (h : abound m (evo e o) = some i) (code : BoundsCode) :
    i ≤ m ∧ ∀ m' : Nat, m ≤ m' → (Instr.sliceBound (a.eval o) m' code).run P w = .ok i w := by
  unfold abound at h
  cases hv : evo e o with
  | none => simp [hv] at h
  | some v =>
    simp only [hv, Option.bind_some] at h
    cases hi : aint v with
    | none => simp [hi] at h
    | some k =>
      simp only [hi, Option.bind_some] at h
      split at h
      · rename_i hk
        injection h with h; subst h
        obtain ⟨kk, hk'⟩ := aint_sound hi (evo_sound he hv)
        refine ⟨by omega, fun m' hm => ?_⟩
        have hk2 : 0 ≤ k ∧ k ≤ (m' : Int) := ⟨hk.1, by omega⟩
        simp [Instr.sliceBound, hk', run_asIntOf, hk2]
      · cases h
theorem bounds_sound (he : ERel ρ n e a.tmps) {lo hi mx : Option Operand} {len cap cap' l h m : Nat} (isS : Bool)
    (hb : abounds len cap (lo.map (evo e)) (hi.map (evo e)) (mx.map (evo e)) = some (l, h, m)) (hlen : len ≤ cap) (hcap : cap ≤ cap') :
    l ≤ h ∧ h ≤ m ∧ m ≤ cap ∧ (mx = none → m = cap) ∧ (Instr.sliceBounds isS len cap' (lo.map a.eval) (hi.map a.eval) (mx.map a.eval)).run P w = .ok (l, h, if mx.isSome then m else cap') w := by
  unfold abounds at hb
  cases mx with
  | none =>
    simp only [Option.map_none, Option.bind_some] at hb
    cases hi with
    | none =>
      simp only [Option.map_none, Option.bind_some] at hb
      cases lo with
      | none =>
        simp only [Option.map_none, Option.bind_some, Option.some.injEq, Prod.mk.injEq] at hb
        obtain ⟨rfl, rfl, rfl⟩ := hb
        exact ⟨by omega, hlen, Nat.le_refl _, fun _ => rfl, by simp [Instr.sliceBounds]⟩
      | some o =>
        simp only [Option.map_some] at hb
        cases hx : abound len (evo e o) with
        | none => simp [hx] at hb
        | some i =>
          simp only [hx, Option.bind_some, Option.some.injEq, Prod.mk.injEq] at hb
          obtain ⟨rfl, rfl, rfl⟩ := hb
          obtain ⟨h1, h2⟩ := bound_sound (P := P) (w := w) he hx .sliceB
          exact ⟨h1, hlen, Nat.le_refl _, fun _ => rfl, by simp [Instr.sliceBounds, h2 len (Nat.le_refl _)]⟩
    | some oh =>
      simp only [Option.map_some] at hb
      cases hy : abound cap (evo e oh) with
      | none => simp [hy] at hb
      | some j =>
        simp only [hy, Option.bind_some] at hb
        obtain ⟨g1, g2⟩ := bound_sound (P := P) (w := w) he hy (if isS then .sliceAcap else .sliceAlen)
        cases lo with
        | none =>
          simp only [Option.map_none, Option.bind_some, Option.some.injEq, Prod.mk.injEq] at hb
          obtain ⟨rfl, rfl, rfl⟩ := hb
          exact ⟨by omega, g1, Nat.le_refl _, fun _ => rfl, by simp [Instr.sliceBounds, g2 cap' hcap]⟩
        | some o =>
          simp only [Option.map_some] at hb
          cases hx : abound j (evo e o) with
          | none => simp [hx] at hb
          | some i =>
            simp only [hx, Option.bind_some, Option.some.injEq, Prod.mk.injEq] at hb
            obtain ⟨rfl, rfl, rfl⟩ := hb
            obtain ⟨h1, h2⟩ := bound_sound (P := P) (w := w) he hx .sliceB
            exact ⟨h1, g1, Nat.le_refl _, fun _ => rfl, by simp [Instr.sliceBounds, g2 cap' hcap, h2 j (Nat.le_refl _)]⟩
  | some om =>
    simp only [Option.map_some] at hb
    cases hz : abound cap (evo e om) with
    | none => simp [hz] at hb
    | some k =>
      simp only [hz, Option.bind_some] at hb
      obtain ⟨f1, f2⟩ := bound_sound (P := P) (w := w) he hz (if isS then .slice3Acap else .slice3Alen)
      cases hi with
      | none => simp at hb
      | some oh =>
        simp only [Option.map_some] at hb
        cases hy : abound k (evo e oh) with
        | none => simp [hy] at hb
        | some j =>
          simp only [hy, Option.bind_some] at hb
          obtain ⟨g1, g2⟩ := bound_sound (P := P) (w := w) he hy .slice3B
          cases lo with
          | none =>
            simp only [Option.map_none, Option.bind_some, Option.some.injEq, Prod.mk.injEq] at hb
            obtain ⟨rfl, rfl, rfl⟩ := hb
            exact ⟨by omega, g1, f1, (fun h => by cases h), by simp [Instr.sliceBounds, f2 cap' hcap, g2 k (Nat.le_refl _)]⟩
          | some o =>
            simp only [Option.map_some] at hb
            cases hx : abound j (evo e o) with
            | none => simp [hx] at hb
            | some i =>
              simp only [hx, Option.bind_some, Option.some.injEq, Prod.mk.injEq] at hb
              obtain ⟨rfl, rfl, rfl⟩ := hb
              obtain ⟨h1, h2⟩ := bound_sound (P := P) (w := w) he hx .slice3C
              exact ⟨h1, g1, f1, (fun h => by cases h), by simp [Instr.sliceBounds, f2 cap' hcap, g2 k (Nat.le_refl _), h2 j (Nat.le_refl _)]⟩
theorem run_sliceAt_slice {t el : TypeId} {sz len c' l h m : Nat} {A : Option Addr} {LO HI MX : Option Value} (ht : P.underlying t = some (.slice el)) (hsz : szOf P el = some sz)
    (hb : (Instr.sliceBounds true len c' LO HI MX).run P w = .ok (l, h, m) w) : (Instr.sliceAt t (.slice A len c') LO HI MX).run P w = .ok (.slice (if m = l then A else A.map (·.add (l * sz))) (h - l) (m - l)) w := by
  simp only [Instr.sliceAt, Sem.run_bind, run_underlying' ht, Result.andThen_ok, Instr.slice, hb, run_sizeOf hsz, Sem.run_pure]
theorem run_sliceAt_array {t el : TypeId} {sz k l h m : Nat} {p : Addr} {LO HI MX : Option Value} (ht : P.underlying t = some (.array k el)) (hsz : szOf P el = some sz)
    (hb : (Instr.sliceBounds false k k LO HI MX).run P w = .ok (l, h, m) w) : (Instr.sliceAt t (.pointer (some p)) LO HI MX).run P w = .ok (.slice (some (if m = l then p else p.add (l * sz))) (h - l) (m - l)) w := by
  simp only [Instr.sliceAt, Sem.run_bind, run_underlying' ht, Result.andThen_ok, Instr.sureAddr, hb, run_sizeOf hsz, Sem.run_pure]
theorem locA_if {p : Addr} {l m sz : Nat} : (if m = l then locA ρ p else (locA ρ p).add (l * sz)) = locA ρ (if m = l then p else addA p (l * sz)) := by
  split
  · rfl
  · exact add_locA
theorem spot_if {p : Addr} {l m sz : Nat} : (if m = l then p else addA p (l * sz)).spot = p.spot := by split <;> rfl
theorem block_if {p : Addr} {l m sz : Nat} : (if m = l then p else addA p (l * sz)).block = p.block := by split <;> rfl
theorem aslice_sound (he : ERel ρ n e a.tmps) {t : TypeId} {x v x' : Value} {lo hi mx : Option Operand} (h : aslice P t x (lo.map (evo e)) (hi.map (evo e)) (mx.map (evo e)) = some v) (hx : TRel ρ n x x') :
    ∃ v', (Instr.sliceAt t x' (lo.map a.eval) (hi.map a.eval) (mx.map a.eval)).run P w = .ok v' w ∧ TRel ρ n v v' := by
  unfold aslice at h
  split at h
  · rename_i el sa len cap ht
    cases hsz : szOf P el with
    | none => simp [hsz] at h
    | some sz =>
      simp only [hsz, Option.bind_some] at h
      cases sa with
      | none =>
        obtain ⟨rfl, rfl, rfl⟩ := TRel.slcnil hx
        have hu : Nat.beq 0 capU = false := by decide
        have hu2 : Nat.ble 0 0 = true := by decide
        simp only [hu, hu2, cond_false, cond_true] at h
        cases hb : abounds 0 0 (lo.map (evo e)) (hi.map (evo e)) (mx.map (evo e)) with
        | none => simp [hb] at h
        | some q =>
          obtain ⟨l, hh, m⟩ := q
          simp only [hb, Option.bind_some, Option.some.injEq] at h
          obtain ⟨b1, b2, b3, b4, b5⟩ := bounds_sound (P := P) (w := w) (cap' := 0) he true hb (Nat.le_refl _) (Nat.le_refl _)
          obtain rfl : m = 0 := by omega
          obtain rfl : hh = 0 := by omega
          obtain rfl : l = 0 := by omega
          simp only [ite_self] at b5
          subst h
          refine ⟨.slice none 0 0, by rw [run_sliceAt_slice ht hsz b5]; rfl, ?_⟩
          simp [TRel, VRel, CRel]
      | some p =>
        obtain ⟨hp, a', c', rfl, hc⟩ := TRel.slc hx
        cases hu : Nat.beq cap capU with
        | true =>
          have hcap : cap = capU := by simpa using hu
          simp only [hu, cond_true] at h
          simp only [capRel, hcap, if_true] at hc
          obtain ⟨c1, c2, c3, c4⟩ := hc
          cases mx with
          | none =>
            simp only [Option.map_none] at h
            cases hb : abounds len len (lo.map (evo e)) (hi.map (evo e)) none with
            | none => simp [hb] at h
            | some q =>
              obtain ⟨l, hh, m⟩ := q
              simp only [hb, Option.bind_some, Option.some.injEq] at h
              obtain ⟨b1, b2, b3, b4, b5⟩ := bounds_sound (P := P) (w := w) (mx := none) (cap' := c') he true hb (Nat.le_refl _) c2
              subst h
              simp only [Option.isSome_none, Bool.false_eq_true, if_false] at b5
              refine ⟨_, run_sliceAt_slice ht hsz b5, ?_⟩
              have hlc : l ≤ c' := by omega
              simp only [Option.map_some, TRel, VRel, CRel]
              refine ⟨by simpa [addA] using hp, if c' = l then a' else a'.add (l * sz), c' - l, by split <;> rfl, ?_⟩
              simp only [capRel, if_true]
              refine ⟨?_, by omega, by omega, ?_⟩
              · rcases c1 with rfl | ⟨c1, c5⟩
                · split
                  · rename_i hcl
                    by_cases hz : l * sz = 0
                    · left; simp [addA, hz]
                    · right; exact ⟨by omega, by simp [addA]; omega⟩
                  · left; exact add_locA
                · right; exact ⟨by omega, by simp [addA]; omega⟩
              · intro hs h0
                simp only [addA] at hs h0 ⊢
                have := c4 hs (by omega)
                exact Nat.le_trans (Nat.mul_le_mul_right _ (by omega)) this
          | some om =>
            simp only [Option.map_some] at h
            by_cases hpos0 : Nat.blt 0 len = true
            · have hpos : 0 < len := by simpa using hpos0
              simp only [hpos0, cond_true] at h
              cases hb : abounds len len (lo.map (evo e)) (hi.map (evo e)) (some (evo e om)) with
              | none => simp [hb] at h
              | some q =>
                obtain ⟨l, hh, m⟩ := q
                simp only [hb, Option.bind_some, Option.some.injEq] at h
                obtain ⟨b1, b2, b3, b4, b5⟩ := bounds_sound (P := P) (w := w) (mx := some om) (cap' := c') he true hb (Nat.le_refl _) c2
                subst h
                simp only [Option.isSome_some, if_true] at b5
                have ea : a' = locA ρ p := by rcases c1 with h | ⟨h, _⟩; exact h; omega
                subst ea
                refine ⟨_, run_sliceAt_slice ht hsz b5, ?_⟩
                have hU : m - l ≠ capU := by unfold capU; omega
                have : (if m = l then some p else some (addA p (l * sz))) = some (if m = l then p else addA p (l * sz)) := by split <;> rfl
                simp only [this, TRel, VRel, CRel]
                refine ⟨by rw [spot_if, block_if]; exact hp, if m = l then locA ρ p else (locA ρ p).add (l * sz), m - l, ?_, ?_⟩
                · rw [show (if m = l then some (locA ρ p) else Option.map (fun x => x.add (l * sz)) (some (locA ρ p))) = some (if m = l then locA ρ p else (locA ρ p).add (l * sz)) from by split <;> rfl]
                · simp only [capRel, hU, if_false]
                  exact ⟨locA_if, trivial, by unfold capU; omega⟩
            · simp only [Bool.not_eq_true] at hpos0; simp only [hpos0, cond_false] at h; cases h
        | false =>
          have hcap : cap ≠ capU := by intro h; subst h; simp at hu
          simp only [hu, cond_false] at h
          simp only [capRel, hcap, if_false] at hc
          obtain ⟨rfl, rfl, hltU⟩ := hc
          by_cases hle0 : Nat.ble len c' = true
          · have hle : len ≤ c' := by simpa using hle0
            simp only [hle0, cond_true] at h
            cases hb : abounds len c' (lo.map (evo e)) (hi.map (evo e)) (mx.map (evo e)) with
            | none => simp [hb] at h
            | some q =>
              obtain ⟨l, hh, m⟩ := q
              simp only [hb, Option.bind_some, Option.some.injEq] at h
              obtain ⟨b1, b2, b3, b4, b5⟩ := bounds_sound (P := P) (w := w) (cap' := c') he true hb hle (Nat.le_refl _)
              have em : (if mx.isSome then m else c') = m := by cases mx <;> simp; exact (b4 rfl).symm
              rw [em] at b5
              subst h
              refine ⟨_, run_sliceAt_slice ht hsz b5, ?_⟩
              have hU : m - l ≠ capU := by omega
              have : (if m = l then some p else Option.map (fun x => addA x (l * sz)) (some p)) = some (if m = l then p else addA p (l * sz)) := by split <;> rfl
              simp only [this, TRel, VRel, CRel]
              refine ⟨by rw [spot_if, block_if]; exact hp, if m = l then locA ρ p else (locA ρ p).add (l * sz), m - l, ?_, ?_⟩
              · rw [show (if m = l then some (locA ρ p) else Option.map (fun x => x.add (l * sz)) (some (locA ρ p))) = some (if m = l then locA ρ p else (locA ρ p).add (l * sz)) from by split <;> rfl]
              · simp only [capRel, hU, if_false]
                exact ⟨locA_if, trivial, by omega⟩
          · simp only [Bool.not_eq_true] at hle0; simp only [hle0, cond_false] at h; cases h
  · rename_i k el p ht
    obtain ⟨hp, rfl⟩ := TRel.ptr hx
    cases hsz : szOf P el with
    | none => simp [hsz] at h
    | some sz =>
      simp only [hsz, Option.bind_some] at h
      by_cases hlt0 : Nat.blt k capU = true
      · have hlt : k < capU := by simpa using hlt0
        simp only [hlt0, cond_true] at h
        cases hb : abounds k k (lo.map (evo e)) (hi.map (evo e)) (mx.map (evo e)) with
        | none => simp [hb] at h
        | some q =>
          obtain ⟨l, hh, m⟩ := q
          simp only [hb, Option.bind_some, Option.some.injEq] at h
          obtain ⟨b1, b2, b3, b4, b5⟩ := bounds_sound (P := P) (w := w) (cap' := k) he false hb (Nat.le_refl _) (Nat.le_refl _)
          have em : (if mx.isSome then m else k) = m := by cases mx <;> simp; exact (b4 rfl).symm
          rw [em] at b5
          subst h
          refine ⟨_, run_sliceAt_array ht hsz b5, ?_⟩
          have hU : m - l ≠ capU := by omega
          simp only [TRel, VRel, CRel]
          refine ⟨by rw [spot_if, block_if]; exact hp, _, _, rfl, ?_⟩
          simp only [capRel, hU, if_false]
          exact ⟨locA_if, trivial, by omega⟩
      · simp only [Bool.not_eq_true] at hlt0; simp only [hlt0, cond_false] at h; cases h
  · cases h
theorem aindexAddr_sound {t : TypeId} {x i v x' i' : Value} (h : aindexAddr P t x i = some v) (hx : TRel ρ n x x') (hi : TRel ρ n i i') :
    ∃ v', (Instr.indexAt t x' i').run P w = .ok v' w ∧ TRel ρ n v v' := by
  unfold aindexAddr at h
  split at h
  · rename_i len el p k ht hk
    obtain ⟨hp, rfl⟩ := TRel.ptr hx
    obtain ⟨kk, rfl⟩ := aint_sound hk hi
    cases hsz : szOf P el with
    | none => simp [hsz] at h
    | some sz =>
      simp only [hsz, Option.bind_some] at h
      split at h
      · rename_i hr
        injection h with h; subst h
        refine ⟨.pointer (some ((locA ρ p).add (k.toNat * sz))), ?_, ?_⟩
        · simp [Instr.indexAt, run_asIntOf, run_underlying' ht, Instr.sureAddr, hr, run_sizeOf hsz]
        · exact ⟨by simpa [addA] using hp, by rw [add_locA]⟩
      · cases h
  · rename_i el p len cap k ht hk
    obtain ⟨hp, a', c', rfl, hc⟩ := TRel.slc hx
    obtain ⟨kk, rfl⟩ := aint_sound hk hi
    cases hsz : szOf P el with
    | none => simp [hsz] at h
    | some sz =>
      simp only [hsz, Option.bind_some] at h
      split at h
      · rename_i hr
        injection h with h; subst h
        have ea : a' = locA ρ p := by
          unfold capRel at hc
          split at hc
          · rcases hc.1 with h | ⟨h, _⟩
            · exact h
            · omega
          · exact hc.1
        subst ea
        refine ⟨.pointer (some ((locA ρ p).add (k.toNat * sz))), ?_, ?_⟩
        · simp [Instr.indexAt, run_asIntOf, run_underlying' ht, hr, run_sizeOf hsz]
        · exact ⟨by simpa [addA] using hp, by rw [add_locA]⟩
      · cases h
  · cases h
theorem aindex_sound {t : TypeId} {x i v x' i' : Value} (h : aindex P t x i = some v) (hx : TRel ρ n x x') (hi : TRel ρ n i i') :
    ∃ v', (Instr.index t x' i').run P w = .ok v' w ∧ TRel ρ n v v' := by
  unfold aindex at h
  split at h
  · rename_i len el cs k ht hk
    obtain ⟨cs', rfl, r⟩ := TRel.agg hx
    obtain ⟨kk, rfl⟩ := aint_sound hk hi
    cases hsz : szOf P el with
    | none => simp [hsz] at h
    | some sz =>
      simp only [hsz, Option.bind_some] at h
      split at h
      · rename_i hr
        obtain ⟨v', h1, h2⟩ := part_sound (w := w) h r
        exact ⟨v', by simp [Instr.index, run_asIntOf, run_underlying' ht, hr, run_sizeOf hsz, h1], .of_V h2⟩
      · cases h
  · rename_i s k ht hk
    have ex := TRel.str hx; subst ex
    obtain ⟨kk, rfl⟩ := aint_sound hk hi
    split at h
    · rename_i hr
      injection h with h; subst h
      have hlt : k.toNat < s.size := by omega
      refine ⟨_, ?_, rfl⟩
      have : s[k.toNat]? = some s[k.toNat] := by simp [hlt]
      simp only [Instr.index, Sem.run_bind, run_asIntOf, Result.andThen_ok, run_underlying' ht, if_pos hr.1, this, Sem.run_pure]
      congr 2
      simp only [List.getD_eq_getElem?_getD]
      have : s.data.toList[k.toNat]? = some s[k.toNat] := by
        have hl : k.toNat < s.data.toList.length := by simpa using hlt
        rw [List.getElem?_eq_getElem hl]; rfl
      rw [this]; rfl
    · cases h
  · cases h
theorem afieldAddr_sound {t : TypeId} {x v x' : Value} {f : Nat} (h : afieldAddr P t x f = some v) (hx : TRel ρ n x x') :
    ∃ v', (Instr.fieldAt t x' f).run P w = .ok v' w ∧ TRel ρ n v v' := by
  unfold afieldAddr at h
  split at h
  · rename_i fs p ht
    obtain ⟨hp, rfl⟩ := TRel.ptr hx
    cases hf : fs.toList[f]? with
    | none => simp [hf] at h
    | some fd =>
      simp only [hf, Option.bind_some] at h
      cases hsz : szOf P fd.type with
      | none => simp [hsz] at h
      | some sz =>
        simp only [hsz, Option.bind_some] at h
        split at h
        · cases h
        · rename_i hz
          injection h with h; subst h
          have hf' : fs[f]? = some fd := by simpa using hf
          refine ⟨.pointer (some ((locA ρ p).add fd.offset)), ?_, ?_⟩
          · simp [Instr.fieldAt, run_underlying' ht, hf', Instr.sureAddr, fieldPlace, run_sizeOf hsz, hz]
          · exact ⟨by simpa [addA] using hp, by rw [add_locA]⟩
  · cases h
theorem afield_sound {t : TypeId} {x v x' : Value} {f : Nat} (h : afield P t x f = some v) (hx : TRel ρ n x x') :
    ∃ v', (Instr.field t x' f).run P w = .ok v' w ∧ TRel ρ n v v' := by
  unfold afield at h
  split at h
  · rename_i fs cs ht
    obtain ⟨cs', rfl, r⟩ := TRel.agg hx
    cases hf : fs.toList[f]? with
    | none => simp [hf] at h
    | some fd =>
      simp only [hf, Option.bind_some] at h
      have hf' : fs[f]? = some fd := by simpa using hf
      obtain ⟨v', h1, h2⟩ := part_sound (w := w) h r
      exact ⟨v', by simp [Instr.field, run_underlying' ht, hf', asAgg, h1], .of_V h2⟩
  · cases h
theorem foldl_set (vs : List Value) : ∀ (k : Nat) (cells : Array Value) (off : Nat), off + k + vs.length ≤ cells.size →
    ((vs.zipIdx k).foldl (fun cs (x : Value × Nat) => cs.setIfInBounds (off + x.2) x.1) cells).toList = cells.toList.take (off + k) ++ vs ++ cells.toList.drop (off + k + vs.length) := by
  induction vs with
  | nil => intro k cells off h; simp
  | cons v rest ih =>
    intro k cells off h
    simp only [List.length_cons] at h
    simp only [List.zipIdx_cons, List.foldl_cons]
    rw [ih (k + 1) (cells.setIfInBounds (off + k) v) off (by simp; omega)]
    have e := list_seg_step cells.toList (off + k) v rest (by simp; omega)
    simpa [Array.toList_setIfInBounds, Nat.add_assoc] using e
theorem fill_step {v v' : Value} {cells : List Value} {cells' : Array Value} {off size : Nat} (hv : VRel ρ n v v') (r : LRel (CRel ρ n) cells cells'.toList) (h1 : (vcells v).length = size) (h2 : off + size ≤ cells.length) :
    v'.cells.size = size ∧ off + size ≤ cells'.size ∧ LRel (CRel ρ n) (splice cells off (vcells v)) (v'.cells.zipIdx.foldl (fun cs (x : Value × Nat) => cs.setIfInBounds (off + x.2) x.1) cells').toList := by
  have hc := hv.cells
  have e1 : v'.cells.size = size := by have := hc.1; simp at this; omega
  have e2 : cells.length = cells'.size := by simpa using r.1
  refine ⟨e1, by omega, ?_⟩
  rw [← Array.foldl_toList, Array.toList_zipIdx, foldl_set _ _ _ _ (by simp; omega), Nat.add_zero, ← splice_eq _ _ _ (by simp; omega)]
  exact r.splice off hc (by omega)
theorem fill_sound (place : Nat → Option (Nat × Nat)) : ∀ (parts parts' : List (Nat × Value)) (cells : List Value) (cells' : Array Value) (cs : List Value),
    afill place cells parts = some cs → LRel (CRel ρ n) cells cells'.toList → parts.length = parts'.length → (∀ (j i : Nat) (v : Value), parts[j]? = some (i, v) → ∃ v', parts'[j]? = some (i, v') ∧ TRel ρ n v v') →
    ∃ cs', Instr.fill place cells' parts' = some cs' ∧ LRel (CRel ρ n) cs cs'.toList := by
  intro parts
  induction parts with
  | nil =>
    intro parts' cells cells' cs h r hl _
    cases parts' with
    | nil => simp only [afill, Option.some.injEq] at h; subst h; exact ⟨cells', by simp [Instr.fill], r⟩
    | cons _ _ => simp at hl
  | cons p rest ih =>
    intro parts' cells cells' cs h r hl hp
    obtain ⟨i, v⟩ := p
    cases parts' with
    | nil => simp at hl
    | cons p' rest' =>
      obtain ⟨v', hv', hv⟩ := hp 0 i v (by simp)
      simp only [List.getElem?_cons_zero, Option.some.injEq] at hv'
      subst hv'
      simp only [afill] at h
      cases hpl : place i with
      | none => simp [hpl] at h
      | some q =>
        obtain ⟨off, size⟩ := q
        simp only [hpl, Option.bind_some] at h
        split at h
        · rename_i hh
          obtain ⟨f1, f2, f3⟩ := fill_step (hv.V (by intro vs e; subst e; simp [isTup] at hh)) r hh.2.1 hh.2.2
          obtain ⟨cs', g1, g2⟩ := ih rest' _ _ cs h f3 (by simpa using hl) (fun j i v hj => by simpa using hp (j + 1) i v (by simpa using hj))
          refine ⟨cs', ?_, g2⟩
          simp only [Instr.fill, hpl]
          rw [if_neg (by simp; omega)]
          exact g1
        · cases h
theorem evParts_sound (he : ERel ρ n e a.tmps) : ∀ (parts : List (Nat × Operand)) (ps : List (Nat × Value)), evParts e parts = some ps →
    (∀ (j i : Nat) (v : Value), ps[j]? = some (i, v) → ∃ v', (parts.map fun x => (x.1, a.eval x.2))[j]? = some (i, v') ∧ TRel ρ n v v') ∧ ps.length = parts.length := by
  intro parts
  induction parts with
  | nil => intro ps h; simp only [evParts, Option.some.injEq] at h; subst h; simp
  | cons p rest ih =>
    intro ps h
    obtain ⟨i, x⟩ := p
    simp only [evParts] at h
    cases hx : evo e x with
    | none => simp [hx] at h
    | some v =>
      simp only [hx, Option.bind_some] at h
      cases hr : evParts e rest with
      | none => simp [hr] at h
      | some l =>
        simp only [hr, Option.map_some, Option.some.injEq] at h
        subst h
        obtain ⟨h1, h2⟩ := ih l hr
        refine ⟨fun j i' v' hj => ?_, by simp [h2]⟩
        cases j with
        | zero => simp at hj; obtain ⟨rfl, rfl⟩ := hj; exact ⟨_, by simp, evo_sound he hx⟩
        | succ j => simpa using h1 j i' v' (by simpa using hj)
theorem parts_sound (he : ERel ρ n e a.tmps) {parts : Array (Nat × Operand)} {ps : List (Nat × Value)} (h : evParts e parts.toList = some ps) :
    ps.length = (parts.map fun (i, x) => (i, a.eval x)).toList.length ∧ ∀ (j i : Nat) (v : Value), ps[j]? = some (i, v) → ∃ v', (parts.map fun (i, x) => (i, a.eval x)).toList[j]? = some (i, v') ∧ TRel ρ n v v' := by
  obtain ⟨h1, h2⟩ := evParts_sound he _ _ h
  refine ⟨by simp [h2], fun j i v hj => ?_⟩
  obtain ⟨v', a1, a2⟩ := h1 j i v hj
  exact ⟨v', by simpa using a1, a2⟩
theorem abuild_sound (he : ERel ρ n e a.tmps) {t : TypeId} {parts : Array (Nat × Operand)} {ps : List (Nat × Value)} {v : Value} (hp : evParts e parts.toList = some ps) (h : abuild P t ps = some v) :
    ∃ v', (Instr.build t (parts.map fun (i, x) => (i, a.eval x))).run P w = .ok v' w ∧ TRel ρ n v v' := by
  obtain ⟨p1, p2⟩ := parts_sound he hp
  unfold abuild at h
  have hz0 : ∀ z, zeroOf P t = some z → ∃ it, P.info? t = some it ∧ it.zero = some z := by
    intro z hz
    replace hz := zeroOf_raw hz
    cases hi : P.info? t with
    | none => simp [hi] at hz
    | some it => exact ⟨it, rfl, by simpa [hi] using hz⟩
  have hzc : ∀ z, (vcells z).all plainC = true → LRel (CRel ρ n) (vcells z) z.cells.toList := by
    intro z hz
    cases z with
    | agg cs => exact .plain (by simpa [vcells] using hz)
    | _ => exact LRel.plain (l := [_]) hz
  split at h
  · rename_i fs z ht hz
    obtain ⟨it, hi, hz1⟩ := hz0 z hz
    by_cases hpl : (vcells z).all plainC = true
    · simp only [hpl, Bool.not_true, cond_false] at h
      cases hpm : fs.toList.mapM (fun f => (P.info? f.type).map fun i => (f.offset, i.size)) with
      | none => simp [hpm] at h
      | some places =>
        simp only [hpm, Option.bind_some, Option.map_eq_some_iff] at h
        obtain ⟨cs, hcs, rfl⟩ := h
        obtain ⟨cs', g1, g2⟩ := fill_sound _ _ _ _ z.cells _ hcs (hzc z hpl) p1 p2
        refine ⟨.agg cs', run_build w t _ cs' ?_, cs', rfl, g2⟩
        simp only [Program.built, hi, ht, hz1, hpm]; exact g1
    · simp only [Bool.not_eq_true] at hpl; simp only [hpl, Bool.not_false, cond_true] at h; cases h
  · rename_i len el z ht hz
    obtain ⟨it, hi, hz1⟩ := hz0 z hz
    by_cases hpl : (vcells z).all plainC = true
    · simp only [hpl, Bool.not_true, cond_false] at h
      cases hsz : szOf P el with
      | none => simp [hsz] at h
      | some sz =>
        obtain ⟨ie, hie, hies⟩ := szOf_some hsz
        simp only [hsz, Option.bind_some, Option.map_eq_some_iff] at h
        obtain ⟨cs, hcs, rfl⟩ := h
        obtain ⟨cs', g1, g2⟩ := fill_sound _ _ _ _ z.cells _ hcs (hzc z hpl) p1 p2
        refine ⟨.agg cs', run_build w t _ cs' ?_, cs', rfl, g2⟩
        simp only [Program.built, hi, ht, hz1, hie, hies]; exact g1
    · simp only [Bool.not_eq_true] at hpl; simp only [hpl, Bool.not_false, cond_true] at h; cases h
  · cases h
theorem evArgs_sound (he : ERel ρ n e a.tmps) : ∀ (xs : List Operand) (l : List Value), evArgs e xs = some l → LRel (TRel ρ n) l (xs.map a.eval) := by
  intro xs
  induction xs with
  | nil => intro l h; simp only [evArgs, Option.some.injEq] at h; subst h; exact .nil
  | cons x xs ih =>
    intro l h
    simp only [evArgs] at h
    cases hx : evo e x with
    | none => simp [hx] at h
    | some v =>
      simp only [hx, Option.bind_some] at h
      cases hr : evArgs e xs with
      | none => simp [hr] at h
      | some r =>
        simp only [hr, Option.map_some, Option.some.injEq] at h
        subst h
        exact .cons (evo_sound he hx) (ih r hr)
theorem alen_sound {t : TypeId} {x v x' : Value} (ty : TypeId) (h : alen P t x = some v) (hx : TRel ρ n x x') : ∀ ts : Array TypeId, ts[0]? = some t → (Builtin.len_ ts ty #[x']).run P w = .ok v w ∧ TRel ρ n v v := by
  intro ts hts
  unfold alen at h
  split at h
  · rename_i s ht
    have ex := TRel.str hx; subst ex
    injection h with h; subst h
    exact ⟨by simp [Builtin.len_, hts, run_underlying' ht, goInt], rfl⟩
  · rename_i k el ht
    injection h with h; subst h
    exact ⟨by simp [Builtin.len_, hts, run_underlying' ht, goInt], rfl⟩
  · rename_i el sa len cap ht
    injection h with h; subst h
    cases sa with
    | none => obtain ⟨rfl, rfl, rfl⟩ := TRel.slcnil hx; exact ⟨by simp [Builtin.len_, hts, run_underlying' ht, goInt], rfl⟩
    | some p => obtain ⟨_, a', c', rfl, _⟩ := TRel.slc hx; exact ⟨by simp [Builtin.len_, hts, run_underlying' ht, goInt], rfl⟩
  · cases h
theorem mfold_sound (f : Int → Int → Int) (g : Value → Value → Sem Value) (hg : ∀ k k' x y w, (g (.int k x) (.int k' y)).run P w = .ok (.int k (f x y)) w) : ∀ (r r' : List Value) (k : IntKind) (x : Int) (v : Value),
    r.foldl (mstep f) (some (.int k x)) = some v → LRel (TRel ρ n) r r' → (r'.foldlM g (.int k x)).run P w = .ok v w ∧ TRel ρ n v v := by
  intro r
  induction r with
  | nil =>
    intro r' k x v h l
    cases r' with
    | nil => simp at h; subst h; exact ⟨rfl, rfl⟩
    | cons _ _ => have := l.1; simp at this
  | cons y r ih =>
    intro r' k x v h l
    cases r' with
    | nil => have := l.1; simp at this
    | cons y' r' =>
      simp only [List.foldl_cons] at h
      obtain ⟨u, hu, hr⟩ := l.2 0 y (by simp)
      simp only [List.getElem?_cons_zero, Option.some.injEq] at hu
      subst hu
      have l' : LRel (TRel ρ n) r r' := ⟨by have := l.1; simpa using this, fun j v hj => by simpa using l.2 (j + 1) v (by simpa using hj)⟩
      cases y with
      | int k' b =>
        have e := TRel.int hr; subst e
        have hno : ∀ r : List Value, r.foldl (mstep f) none = none := by intro r; induction r <;> simp [mstep, *]
        by_cases hk : k = k'
        · simp only [mstep, if_pos hk] at h
          obtain ⟨h1, h2⟩ := ih r' k (f x b) v h l'
          exact ⟨by simp only [List.foldlM_cons, Sem.run_bind, hg, Result.andThen_ok, h1], h2⟩
        · simp only [mstep, if_neg hk, hno] at h
          cases h
      | _ =>
        exfalso
        simp only [mstep] at h
        have : ∀ r : List Value, r.foldl (mstep f) none = none := by intro r; induction r <;> simp [mstep, *]
        rw [this] at h; cases h
theorem target_sound (he : ERel ρ n e a.tmps) {x : Operand} {f : FuncId} (h : target e x = some f) : a.eval x = .func (.func f) #[] #[] := by
  simp only [target] at h
  split at h
  · rename_i f' hx
    injection h with h; subst h
    exact TRel.plain_eq rfl (evo_sound he hx)
  · cases h
theorem execOp_builtin {o : Oper} {c : Call} {b : Builtin} (ho : o.op = .call c) (hc : c.callee = .builtin b) :
    execOp a.eval o = builtin b c.argTypes o.type (c.args.map fun | .const _ => true | _ => false) (c.args.map a.eval) := by
  unfold execOp
  simp only [ho, resolve, hc]
  rfl
theorem execOp_func {o : Oper} {c : Call} {x : Operand} {f : FuncId} (ho : o.op = .call c) (hc : c.callee = .value x) (hf : a.eval x = .func (.func f) #[] #[]) :
    execOp a.eval o = callFunc f (c.args.map a.eval) := by
  unfold execOp
  simp only [ho, resolve, hc, hf, Deferred.ofValue]
  show callFunc f (#[] ++ c.args.map a.eval ++ #[]) = _
  simp
theorem execOp_clo {o : Oper} {c : Call} {x : Operand} {f : FuncId} {cs : Array Value} (ho : o.op = .call c) (hc : c.callee = .value x) (hf : a.eval x = .func (.func f) #[] cs) :
    execOp a.eval o = callFunc f (c.args.map a.eval ++ cs) := by
  unfold execOp
  simp only [ho, resolve, hc, hf, Deferred.ofValue]
  show callFunc f (#[] ++ c.args.map a.eval ++ cs) = _
  simp
theorem pv_sound (he : ERel ρ n e a.tmps) {o : Oper} {v : Value} (h : pv X e o.op = some v) :
    (∃ v', (execOp a.eval o).run X.P w = .ok (.value v') w ∧ TRel ρ n v v') ∨
    (∃ f l l', X.orc f l = some v ∧ LRel (TRel ρ n) l l' ∧ execOp a.eval o = callFunc f ⟨l'⟩) := by
  unfold pv at h
  split at h
  · rename_i x ho
    left; exact ⟨_, by simp [execOp, ho], evo_sound he h⟩
  · rename_i x ho
    left; exact ⟨_, by simp [execOp, ho], evo_sound he h⟩
  · rename_i c x y ho
    left
    split at h
    · rename_i hc
      have := TRel.bool (evo_sound he hc)
      exact ⟨_, by simp [execOp, ho, this, asBool], evo_sound he h⟩
    · rename_i hc
      have := TRel.bool (evo_sound he hc)
      exact ⟨_, by simp [execOp, ho, this, asBool], evo_sound he h⟩
    · cases h
  · rename_i t parts ho
    left
    simp only [Option.bind_eq_some_iff] at h
    obtain ⟨ps, h1, h2⟩ := h
    obtain ⟨v', g1, g2⟩ := abuild_sound (w := w) he h1 h2
    exact ⟨v', by simp only [execOp, ho, Sem.run_bind, g1, Result.andThen_ok, Sem.run_pure], g2⟩
  · rename_i x ho
    left
    split at h
    · rename_i p hx
      injection h with h; subst h
      have hx' := evo_sound he hx
      obtain ⟨h1, h2⟩ := TRel.ptr hx'
      exact ⟨.pointer (some (locA ρ p)), by simp [execOp, ho, h2], by rw [← h2]; exact hx'⟩
    · cases h
  · rename_i op t x y ty ho
    left
    simp only [Option.bind_eq_some_iff] at h
    obtain ⟨vx, hx, vy, hy, h⟩ := h
    obtain ⟨v', g1, g2⟩ := abin_sound (w := w) (ox := x) (oy := y) h (evo_sound he hx) (evo_sound he hy)
    refine ⟨v', ?_, g2⟩
    have : execOp a.eval o = (do pure (.value (← (do eqGuard op t x y (a.eval x) (a.eval y); binOp op t (a.eval x) (a.eval y)))) : Sem Next) := by unfold execOp; simp only [ho]
    rw [this, Sem.run_bind, g1]; rfl
  · rename_i op t x ho
    left
    simp only [Option.bind_eq_some_iff] at h
    obtain ⟨vx, hx, h⟩ := h
    obtain ⟨g1, g2⟩ := aun_sound (w := w) (P := X.P) h (evo_sound he hx)
    exact ⟨v, by simp [execOp, ho, g1], g2⟩
  · rename_i src dst x ho
    left
    simp only [Option.bind_eq_some_iff] at h
    obtain ⟨d, hd, vx, hx, h⟩ := h
    obtain ⟨g1, g2⟩ := aconv_sound (w := w) (P := X.P) ⟨d, hd⟩ h (evo_sound he hx)
    exact ⟨v, by simp [execOp, ho, g1], g2⟩
  · rename_i t x lo hi mx ho
    left
    simp only [Option.bind_eq_some_iff] at h
    obtain ⟨vx, hx, h⟩ := h
    obtain ⟨v', g1, g2⟩ := aslice_sound (w := w) he h (evo_sound he hx)
    exact ⟨v', by simp only [execOp, ho, Sem.run_bind, g1, Result.andThen_ok, Sem.run_pure], g2⟩
  · rename_i t x f ho
    left
    simp only [Option.bind_eq_some_iff] at h
    obtain ⟨vx, hx, h⟩ := h
    obtain ⟨v', g1, g2⟩ := afieldAddr_sound (w := w) h (evo_sound he hx)
    exact ⟨v', by simp only [execOp, ho, Sem.run_bind, g1, Result.andThen_ok, Sem.run_pure], g2⟩
  · rename_i t x f ho
    left
    simp only [Option.bind_eq_some_iff] at h
    obtain ⟨vx, hx, h⟩ := h
    obtain ⟨v', g1, g2⟩ := afield_sound (w := w) h (evo_sound he hx)
    exact ⟨v', by simp only [execOp, ho, Sem.run_bind, g1, Result.andThen_ok, Sem.run_pure], g2⟩
  · rename_i t x i ho
    left
    simp only [Option.bind_eq_some_iff] at h
    obtain ⟨vx, hx, vi, hi, h⟩ := h
    obtain ⟨v', g1, g2⟩ := aindexAddr_sound (w := w) h (evo_sound he hx) (evo_sound he hi)
    exact ⟨v', by simp only [execOp, ho, Sem.run_bind, g1, Result.andThen_ok, Sem.run_pure], g2⟩
  · rename_i t x i ho
    left
    simp only [Option.bind_eq_some_iff] at h
    obtain ⟨vx, hx, vi, hi, h⟩ := h
    obtain ⟨v', g1, g2⟩ := aindex_sound (w := w) h (evo_sound he hx) (evo_sound he hi)
    exact ⟨v', by simp only [execOp, ho, Sem.run_bind, g1, Result.andThen_ok, Sem.run_pure], g2⟩
  · rename_i x i ho
    left
    split at h
    · rename_i vs hx
      obtain ⟨vs', e', r⟩ := (show ∃ vs', a.eval x = .tuple vs' ∧ LRel (VRel ρ n) vs.toList vs'.toList from evo_sound he hx)
      obtain ⟨v', g1, g2⟩ := r.2 i v h
      have g3 : vs'[i]? = some v' := by simpa using g1
      exact ⟨v', by simp [execOp, ho, e', Instr.extract, g3], .of_V g2⟩
    · cases h
  · rename_i c ho
    split at h
    · rename_i hc
      left
      split at h
      · rename_i t x ht hx
        simp only [Option.bind_eq_some_iff] at h
        obtain ⟨vx, hvx, h⟩ := h
        have e1 : c.args.map a.eval = #[a.eval x] := by
          apply Array.ext'; simp [hx]
        obtain ⟨g1, g2⟩ := alen_sound (w := w) o.type h (evo_sound he hvx) c.argTypes (by rw [← Array.getElem?_toList, ht]; rfl)
        refine ⟨v, ?_, g2⟩
        rw [execOp_builtin ho hc, e1]
        simp only [builtin, Sem.run_bind, g1, Result.andThen_ok, Sem.run_pure]
      · cases h
    · rename_i hc
      left
      simp only [Option.bind_eq_some_iff] at h
      obtain ⟨l, hl, h⟩ := h
      have hr := evArgs_sound he _ _ hl
      unfold amin at h
      split at h
      · rename_i k x r
        cases hm : c.args.toList.map a.eval with
        | nil => rw [hm] at hr; have := hr.1; simp at this
        | cons y' r' =>
          rw [hm] at hr
          obtain ⟨u, hu, hru⟩ := hr.2 0 (.int k x) (by simp)
          simp only [List.getElem?_cons_zero, Option.some.injEq] at hu
          subst hu
          have := TRel.int hru; subst this
          obtain ⟨g1, g2⟩ := mfold_sound (P := X.P) (w := w) _ Builtin.min2 (fun k k' x y w => rfl) r r' k x v h ⟨by have := hr.1; simpa using this, fun j v hj => by simpa using hr.2 (j + 1) v (by simpa using hj)⟩
          refine ⟨v, ?_, g2⟩
          rw [execOp_builtin ho hc]
          simp only [builtin, Builtin.min_, Array.toList_map, hm, Sem.run_bind, g1, Result.andThen_ok, Sem.run_pure]
      · cases h
    · rename_i hc
      left
      simp only [Option.bind_eq_some_iff] at h
      obtain ⟨l, hl, h⟩ := h
      have hr := evArgs_sound he _ _ hl
      unfold amax at h
      split at h
      · rename_i k x r
        cases hm : c.args.toList.map a.eval with
        | nil => rw [hm] at hr; have := hr.1; simp at this
        | cons y' r' =>
          rw [hm] at hr
          obtain ⟨u, hu, hru⟩ := hr.2 0 (.int k x) (by simp)
          simp only [List.getElem?_cons_zero, Option.some.injEq] at hu
          subst hu
          have := TRel.int hru; subst this
          obtain ⟨g1, g2⟩ := mfold_sound (P := X.P) (w := w) _ Builtin.max2 (fun k k' x y w => rfl) r r' k x v h ⟨by have := hr.1; simpa using this, fun j v hj => by simpa using hr.2 (j + 1) v (by simpa using hj)⟩
          refine ⟨v, ?_, g2⟩
          rw [execOp_builtin ho hc]
          simp only [builtin, Builtin.max_, Array.toList_map, hm, Sem.run_bind, g1, Result.andThen_ok, Sem.run_pure]
      · cases h
    · rename_i x hc
      right
      simp only [Option.bind_eq_some_iff] at h
      obtain ⟨f, hf, l, hl, h⟩ := h
      refine ⟨f, l, c.args.toList.map a.eval, h, evArgs_sound he _ _ hl, ?_⟩
      rw [execOp_func ho hc (target_sound he hf)]
      congr 1
      apply Array.ext'; simp
    · cases h
  · rename_i f cs ho
    left
    simp only [Option.bind_eq_some_iff] at h
    obtain ⟨l, hl, h⟩ := h
    cases hp : l.all isPtr with
    | false => rw [hp] at h; cases h
    | true =>
      rw [hp] at h
      injection h with h; subst h
      have hr := evArgs_sound he _ _ hl
      refine ⟨.func (.func f) #[] (cs.map a.eval), ?_, ⟨cs.map a.eval, rfl, ?_⟩⟩
      · unfold execOp
        have e0 : Array.map a.eval { toList := [] } = #[] := by simp
        simp only [ho, Instr.makeFunc, e0, Sem.run_bind, Sem.run_pure, Result.andThen_ok]
      · refine ⟨by simpa using hr.1, fun j u hj => ?_⟩
        have hj : l[j]? = some u := hj
        obtain ⟨u', k1, k2⟩ := hr.2 j u hj
        refine ⟨u', by simpa using k1, ?_⟩
        have hu := List.all_eq_true.1 hp u (List.mem_of_getElem? hj)
        cases u with
        | pointer p =>
          cases p with
          | none => cases hu
          | some p => exact k2
        | _ => cases hu
  · cases h
end
end Go.Ab
namespace Go.Ab
def Has (X : Cx) (f : FuncId) : Prop := ∃ fn, X.P.funcs[f]? = some fn ∧ (fn.name == "runtime.NumGoroutine") = false ∧ fn.body.isNone = false
def GlobOK (X : Cx) (w : World) : Prop := ∀ g l, X.glob g = some l → l.all plainC = true ∧ ∃ cs t fr, w.heap[g]? = some (.cells cs t fr) ∧ cs.toList = l
def PCall (X : Cx) (f : FuncId) (l : List Value) (v : Value) : Prop :=
  l.all plainT = true ∧ plainT v = true ∧ ((Has X f ∧ ∀ w, GlobOK X w → Calls X.P f ⟨l⟩ w (fun e w' => e = .returned v ∧ RowKit.Below w.heap.size w w')) ∨
    (∀ w, (callFunc f ⟨l⟩).run X.P w = .ok (.value v) w))
def OrcOK (X : Cx) : Prop := ∀ f l v, X.orc f l = some v → PCall X f l v
def HCall (X : Cx) (f : FuncId) (l : List Value) (H : Heap) (v : Value) (H' : Heap) : Prop :=
  Has X f ∧ ∀ C ρ w l', LRel (TRel ρ H.length) l l' → Sim X C ρ H w →
    Calls X.P f ⟨l'⟩ w (fun e w' => ∃ v' ρ', e = .returned v' ∧ TRel ρ' H'.length v v' ∧ (∀ i, i < H.length → ρ' i = ρ i) ∧ H.length ≤ H'.length ∧ Sim X C ρ' H' w')
def HOK (X : Cx) (hc : HOrc) : Prop := ∀ f l H v H', hc f l H = some (v, H') → HCall X f l H v H'
section
variable {X : Cx} {C : Ctx} {ρ : Nat → Loc} {H : Heap} {n : Nat} {e : Env} {a : Act} {w : World}
theorem Sim.globOK (hs : Sim X C ρ H w) : GlobOK X w := fun _ _ h => hs.globNow h
theorem Sim.below {w' : World} (hs : Sim X C ρ H w) (hb : RowKit.Below w.heap.size w w') : Sim X C ρ H w' :=
  { blk := fun i b h => by
      obtain ⟨cs, t, fr, h1, h2⟩ := hs.blk i b h
      exact ⟨cs, t, fr, by rw [hb.block _ (hs.lt h)]; exact h1, h2⟩
    own := hs.own, far := hs.far, os := hb.os.trans hs.os, tape := hb.tape.trans hs.tape, output := hb.output.trans hs.output, size := Nat.le_trans hs.size hb.size
    keep := fun b h1 h2 => by rw [hb.block b (Nat.lt_of_lt_of_le h1 hs.size)]; exact hs.keep b h1 h2
    agree := hs.agree, len := hs.len, glob := hs.glob }
theorem run_callFunc {P : Program} {f : FuncId} {fn : Func} {args : Array Value} (h1 : P.funcs[f]? = some fn) (h2 : (fn.name == "runtime.NumGoroutine") = false) (h3 : fn.body.isNone = false) :
    (callFunc f args).run P w = .ok (.enter f args) w := by
  simp only [callFunc, Sem.run_bind, run_program, Result.andThen_ok, h1, h2, h3]
  rfl
theorem blkAt_some {i : Nat} {b : Blk} (h : blkAt H i = some b) : H[i]? = some (some b) := by
  unfold blkAt at h
  cases hi : H[i]? with
  | none => simp [hi] at h
  | some x => simp [hi] at h; subst h; rfl
theorem cellsAt_sound (hs : Sim X C ρ H w) {p : Addr} {cs : List Value} (h : cellsAt X H p = some cs) :
    ∃ cs' t fr off, w.heap[(locA ρ p).block]? = some (.cells cs' t fr) ∧ locA ρ p = ⟨(locA ρ p).block, off + p.off, none⟩ ∧ ∀ (j : Nat) v, cs[j]? = some v → ∃ v', cs'[off + j]? = some v' ∧ CRel ρ H.length v v' := by
  unfold cellsAt at h
  split at h
  · rename_i hsp
    simp only [Option.map_eq_some_iff] at h
    obtain ⟨b, hb, rfl⟩ := h
    obtain ⟨cs', t, fr, h1, h2, h3⟩ := hs.blk _ b (blkAt_some hb)
    exact ⟨cs', t, fr, (ρ p.block).off, by simpa [locA, hsp] using h1, by simp [locA, hsp], h3⟩
  · rename_i x hsp
    obtain ⟨h0, cs', t, fr, h1, h2⟩ := hs.globNow h
    refine ⟨cs', t, fr, 0, by simpa [locA, hsp] using h1, by simp [locA, hsp], fun j v hj => ⟨v, ?_, ?_⟩⟩
    · rw [← h2] at hj; simpa using hj
    · exact .plain (List.all_eq_true.1 h0 v (List.mem_of_getElem? hj))
theorem cell_at {p : Addr} {b off : Nat} {cs' : Array Value} {t : TypeId} {fr : Nat × Nat} (h1 : w.heap[b]? = some (.cells cs' t fr)) (h2 : p = ⟨b, off, none⟩) (j : Nat) : w.cell? (p.add j) = cs'[off + j]? := by
  subst h2
  have hadd : (⟨b, off, none⟩ : Addr).add j = ⟨b, off + j, none⟩ := by unfold Addr.add; split <;> simp_all
  rw [hadd]; simp [World.cell?, h1]
theorem load_row (hs : Sim X C ρ H w) {p : Addr} {cs : List Value} (h : cellsAt X H p = some cs) {k : Nat} (hk : p.off + k ≤ cs.length) :
    ∃ cs', (loadCells (locA ρ p) k).run X.P w = .ok cs' w ∧ LRel (CRel ρ H.length) ((cs.drop p.off).take k) cs'.toList := by
  obtain ⟨cs', t, fr, off, h1, h2, h3⟩ := cellsAt_sound hs h
  have hlen : ((cs'.toList.drop (off + p.off)).take k).length = k := by
    rcases Nat.lt_or_ge 0 k with hk0 | hk0
    · obtain ⟨v', g, _⟩ := h3 (p.off + k - 1) cs[p.off + k - 1] (by rw [List.getElem?_eq_getElem (by omega)])
      have := (Array.getElem?_eq_some_iff.1 g).1
      simp; omega
    · obtain rfl : k = 0 := by omega
      simp
  have hl : LRel (CRel ρ H.length) ((cs.drop p.off).take k) ((cs'.toList.drop (off + p.off)).take k) := by
    refine ⟨by rw [hlen]; simp; omega, fun j v hj => ?_⟩
    rw [List.getElem?_take] at hj
    split at hj
    · rename_i hlt
      rw [List.getElem?_drop] at hj
      obtain ⟨v', g1, g2⟩ := h3 _ v hj
      exact ⟨v', by rw [List.getElem?_take, if_pos hlt, List.getElem?_drop, Nat.add_assoc]; simpa using g1, g2⟩
    · cases hj
  have hr := run_loadCells_list (P := X.P) w (locA ρ p) ((cs'.toList.drop (off + p.off)).take k) (fun j v hj => by
    rw [cell_at h1 h2 j]
    rw [List.getElem?_take] at hj
    split at hj
    · rw [List.getElem?_drop] at hj; simpa using hj
    · cases hj)
  rw [hlen] at hr
  exact ⟨_, hr, by simpa using hl⟩
theorem ald_sound (hs : Sim X C ρ H w) {t : TypeId} {x v x' : Value} (h : ald X H t x = some v) (hx : TRel ρ H.length x x') :
    ∃ p, x' = .pointer (some p) ∧ ∃ v', (loadVar t p).run X.P w = .ok v' w ∧ VRel ρ H.length v v' := by
  unfold ald at h
  split at h
  · rename_i p
    obtain ⟨hp, rfl⟩ := TRel.ptr hx
    simp only [Option.bind_eq_some_iff] at h
    obtain ⟨cs, hcs, h⟩ := h
    refine ⟨_, rfl, ?_⟩
    unfold apart at h
    split at h
    · rename_i d k hd hk
      split at h
      · rename_i hagg
        cases hb : Nat.ble (p.off + k) cs.length with
        | false => simp [hb] at h
        | true =>
          simp only [hb, cond_true, Option.some.injEq] at h
          subst h
          obtain ⟨cs', g1, g2⟩ := load_row hs hcs (k := k) (by simpa using hb)
          exact ⟨.agg cs', by simp [loadVar, run_isAgg hd, hagg, run_sizeOf hk, g1], cs', rfl, g2⟩
      · rename_i hagg
        obtain ⟨cs', t', fr, off, h1, h2, h3⟩ := cellsAt_sound hs hcs
        obtain ⟨v', g1, g2⟩ := h3 _ v h
        have hc := cell_at h1 h2 0
        have ha : (locA ρ p).add 0 = locA ρ p := rfl
        rw [ha, Nat.add_zero, g1] at hc
        exact ⟨v', by simp [loadVar, run_isAgg hd, hagg, hc], .of_C g2⟩
    · cases h
  · cases h
theorem store_row (hs : Sim X C ρ H w) {i off : Nat} {b : Blk} (hb : H[i]? = some (some b)) (ho : b.own = true) {l l' : List Value} (hl : LRel (CRel ρ H.length) l l') (hfit : off + l.length ≤ b.cells.length) :
    ∃ w', (storeCells (locA ρ ⟨i, off, none⟩) l').run X.P w = .ok () w' ∧ Sim X C ρ (H.set i (some { b with cells := splice b.cells off l })) w' := by
  obtain ⟨cs, t, fr, h1, h2, h3⟩ := hs.blk i b hb
  obtain ⟨rfl, h4, h5, h6⟩ := h2 ho
  have hlen := hl.1
  have hst := run_storeCells_at X.P (ρ i).block ((ρ i).off + off) t l' 0 cs w h1 (by omega) hl.ones
  refine ⟨_, hst, ?_⟩
  refine hs.store hb ho h1 ?_ (by rw [length_splice _ _ _ hfit]; exact h6) ?_
  · simp; omega
  · intro j v hj
    rw [splice_eq _ _ _ hfit] at hj
    simp only [Nat.add_zero]
    rw [← Array.getElem?_toList]
    simp only [List.append_assoc] at hj ⊢
    by_cases hj1 : j < off
    · rw [List.getElem?_append_left (by simp; omega), List.getElem?_take, if_pos hj1] at hj
      obtain ⟨v', g1, g2⟩ := h3 j v hj
      refine ⟨v', ?_, g2⟩
      rw [List.getElem?_append_left (by simp; omega), List.getElem?_take, if_pos (by omega)]; simpa using g1
    · rw [List.getElem?_append_right (by simp; omega)] at hj
      have e1 : (List.take off b.cells).length = off := by simp; omega
      have e2 : (List.take ((ρ i).off + off) cs.toList).length = (ρ i).off + off := by simp; omega
      rw [e1] at hj
      rw [List.getElem?_append_right (by omega), e2]
      have e3 : (ρ i).off + j - ((ρ i).off + off) = j - off := by omega
      rw [e3]
      by_cases hj2 : j - off < l.length
      · rw [List.getElem?_append_left hj2] at hj
        obtain ⟨v', g1, g2⟩ := hl.2 _ v hj
        exact ⟨v', by rw [List.getElem?_append_left (by omega)]; exact g1, g2⟩
      · rw [List.getElem?_append_right (by omega), List.getElem?_drop] at hj
        obtain ⟨v', g1, g2⟩ := h3 _ v hj
        refine ⟨v', ?_, g2⟩
        rw [List.getElem?_append_right (by omega), List.getElem?_drop]
        have e4 : (ρ i).off + (off + l.length + (j - off - l.length)) = (ρ i).off + off + l'.length + (j - off - l'.length) := by omega
        rw [← e4]; simpa using g1
theorem ast_sound (hs : Sim X C ρ H w) {t : TypeId} {x v x' v' : Value} {H' : Heap} (h : ast X.P H t x v = some H') (hx : TRel ρ H.length x x') (hv : TRel ρ H.length v v') :
    ∃ w', (Instr.storeAt t x' v').run X.P w = .ok () w' ∧ Sim X C ρ H' w' ∧ H'.length = H.length := by
  unfold ast at h
  split at h
  · rename_i i off
    obtain ⟨_, rfl⟩ := TRel.ptr hx
    split at h
    · rename_i b k hb hk
      cases hc : (b.own && Nat.beq (vcells v).length k && Nat.ble (off + k) b.cells.length && !isTup v) with
      | false => simp [hc] at h
      | true =>
        simp only [hc, cond_true, Option.some.injEq] at h
        simp only [Bool.and_eq_true, Nat.ble_eq, Bool.not_eq_true'] at hc
        obtain ⟨⟨⟨c1, c2⟩, c3⟩, c4⟩ := hc
        have c2 : (vcells v).length = k := Nat.eq_of_beq_eq_true c2
        subst h
        have hvr : VRel ρ H.length v v' := hv.V (by intro vs e; subst e; simp [isTup] at c4)
        have hcell := hvr.cells
        obtain ⟨w', g1, g2⟩ := store_row hs (off := off) (blkAt_some hb) c1 hcell (by omega)
        refine ⟨w', ?_, g2, by simp⟩
        have hsz : v'.cells.size = k := by have := hcell.1; simp at this; omega
        simp [Instr.storeAt, Instr.sureAddr, storeVar, run_sizeOf hk, hsz, g1]
    · cases h
  · cases h
theorem run_newVar (P : Program) (t : TypeId) (v : Value) (w : World) : (newVar t v).run P w = .ok ⟨w.heap.size, 0, none⟩ (w.alloc (.cells v.cells t)) := rfl
theorem newVar_sound (hs : Sim X C ρ H w) {t : TypeId} {v v' : Value} {es : Nat} (hv : VRel ρ H.length v v') :
    ∃ ρ' w', (newVar t v').run X.P w = .ok ⟨w.heap.size, 0, none⟩ w' ∧ (∀ i, i < H.length → ρ' i = ρ i) ∧ Sim X C ρ' (H ++ [some { cells := vcells v, own := true, es := es }]) w' ∧
      TRel ρ' (H.length + 1) (.pointer (some ⟨H.length, 0, none⟩)) (.pointer (some ⟨w.heap.size, 0, none⟩)) := by
  have hc := hv.cells
  have hlen : (vcells v).length = v'.cells.size := by have := hc.1; simpa using this
  refine ⟨_, _, run_newVar _ _ _ _, upd_lt, hs.alloc (es := es) (t := t) (l := vcells v) (cs := v'.cells) (by omega) (fun j u hj => ?_), ?_⟩
  · obtain ⟨u', a1, a2⟩ := hc.2 j u hj
    exact ⟨u', by simpa using a1, a2⟩
  · exact ⟨fun _ => by simp, by simp [locA, upd_same]⟩
theorem lenV_sound {x x' : Value} {k : Nat} (h : lenV x = some k) (hx : TRel ρ n x x') : ∀ w, (Builtin.lenOf x').run X.P w = .ok k w := by
  intro w
  unfold lenV at h
  split at h
  · rename_i sa l c
    injection h with h; subst h
    cases sa with
    | none => obtain ⟨rfl, rfl, rfl⟩ := TRel.slcnil hx; rfl
    | some p => obtain ⟨_, a', c', rfl, _⟩ := TRel.slc hx; rfl
  · have := TRel.str hx; subst this
    injection h with h; subst h; rfl
  · cases h
theorem run_loadCells_zero (P : Program) (p : Addr) (w : World) : (loadCells p 0).run P w = .ok #[] w := rfl
theorem rowOf_sound (hs : Sim X C ρ H w) {sz k l : Nat} {x x' : Value} {cs : List Value} (h : rowOf X H sz k x = some cs) (hl : lenV x = some l) (hk : k ≤ l) (hx : TRel ρ H.length x x') :
    (isTup x = false → cs.length = k * sz ∨ ∃ s, x = .string s ∧ cs.length = k) ∧ ∃ cs', (Builtin.firstCells sz k x').run X.P w = .ok cs' w ∧ LRel (CRel ρ H.length) cs cs'.toList := by
  unfold rowOf at h
  split at h
  · rename_i p len cap
    obtain ⟨_, a', c', rfl, hc⟩ := TRel.slc hx
    simp only [lenV, Option.some.injEq] at hl
    subst hl
    cases hk0 : Nat.beq k 0 with
    | true =>
      have hk0 := Nat.eq_of_beq_eq_true hk0
      subst hk0
      simp only [Nat.beq_refl, cond_true, Option.some.injEq] at h
      subst h
      refine ⟨fun _ => .inl (by simp), #[], ?_, .nil⟩
      simp only [Builtin.firstCells, Nat.zero_mul]; exact run_loadCells_zero _ _ _
    | false =>
    rw [hk0] at h
    simp only [cond_false, Option.bind_eq_some_iff] at h
    obtain ⟨cs0, h0, h⟩ := h
    split at h
    · rename_i hfit
      injection h with h; subst h
      refine ⟨fun _ => .inl (by simp; omega), ?_⟩
      have hor : a' = locA ρ p ∨ len = 0 := by
        unfold capRel at hc
        split at hc
        · exact hc.1.imp id (·.1)
        · exact .inl hc.1
      rcases hor with rfl | hz
      · obtain ⟨cs', g1, g2⟩ := load_row hs h0 hfit
        exact ⟨cs', by simpa [Builtin.firstCells] using g1, g2⟩
      · obtain rfl : k = 0 := by omega
        refine ⟨#[], ?_, ?_⟩
        · simp only [Builtin.firstCells, Nat.zero_mul]; exact run_loadCells_zero _ _ _
        · simp only [Nat.zero_mul, List.take_zero]; exact .nil
    · cases h
  · obtain ⟨rfl, rfl, rfl⟩ := TRel.slcnil hx
    split at h
    · rename_i hz
      injection h with h; subst h; subst hz
      exact ⟨fun _ => .inl (by simp), #[], rfl, .nil⟩
    · cases h
  · rename_i s
    have := TRel.str hx; subst this
    simp only [lenV, Option.some.injEq] at hl
    injection h with h; subst h
    refine ⟨fun _ => .inr ⟨s, rfl, by simp; have : s.data.size = s.size := rfl; omega⟩, _, rfl, ?_⟩
    have e1 : ((s.extract 0 k).data.map fun b => Value.int .u8 b.toNat).toList = (s.data.toList.take k).map fun b => Value.int .u8 b.toNat := by
      simp [ByteArray.data_extract, Array.toList_extract, List.extract_eq_take_drop]
    rw [e1]
    exact LRel.refl_of fun v hv => by
      simp only [List.mem_map] at hv
      obtain ⟨b, _, rfl⟩ := hv
      exact rfl
  · cases h
theorem newRow_sound (hs : Sim X C ρ H w) {t : TypeId} {l : List Value} {cs : Array Value} {es : Nat} (hl : l.length ≤ cs.size) (h : ∀ (j : Nat) v, l[j]? = some v → ∃ v', cs[j]? = some v' ∧ CRel ρ H.length v v') :
    ∃ ρ' w', (newRow t cs).run X.P w = .ok ⟨w.heap.size, 0, none⟩ w' ∧ (∀ i, i < H.length → ρ' i = ρ i) ∧ Sim X C ρ' (H ++ [some { cells := l, own := true, es := es }]) w' ∧
      ρ' H.length = ⟨w.heap.size, 0, cs.size, es⟩ :=
  ⟨_, _, rfl, upd_lt, hs.alloc (es := es) (t := t) hl h, upd_same⟩
theorem growBy_le (nl : Nat) : ∀ (k c : Nat), c ≤ 2 * nl → 256 ≤ nl → Builtin.growBy nl k c ≤ 2 * nl := by
  intro k
  induction k with
  | zero => intro c h _; simpa [Builtin.growBy] using h
  | succ k ih =>
    intro c h h2
    simp only [Builtin.growBy]
    split
    · exact h
    · rename_i hlt
      exact ih _ (by omega) h2
theorem nextcap_le (need old : Nat) (h : old < need) : Builtin.nextslicecap need old ≤ 2 * need := by
  unfold Builtin.nextslicecap
  split
  · omega
  · split
    · omega
    · exact growBy_le _ _ _ (by omega) (by omega)
theorem size_zeroCells (z : Array Value) (k : Nat) : (Builtin.zeroCells z k).size = k * z.size := by simp [Builtin.zeroCells]
theorem bytesOf_some {P : Program} {t : TypeId} {n : Nat} (h : bytesOf P t = some n) : ∃ i, P.info? t = some i ∧ i.bytes = n := by
  simpa [bytesOf] using h
theorem acopy_sound (hs : Sim X C ρ H w) {t : TypeId} {d s d' s' v : Value} {H' : Heap} (h : acopy X H t d s = some (v, H')) (hd : TRel ρ H.length d d') (hsr : TRel ρ H.length s s') (ts : Array TypeId) (ty : TypeId) (ht : ts[0]? = some t) :
    ∃ w', (Builtin.copy_ ts ty #[d', s']).run X.P w = .ok v w' ∧ Sim X C ρ H' w' ∧ H'.length = H.length ∧ TRel ρ H'.length v v := by
  unfold acopy at h
  split at h
  · rename_i el da dl dc hu
    simp only [Option.bind_eq_some_iff] at h
    obtain ⟨sz, hsz, sl, hsl, cs, hcs, h⟩ := h
    obtain ⟨_, cs', f1, f2⟩ := rowOf_sound hs hcs hsl (Nat.min_le_left _ _) hsr
    have hdst : ∃ da' dc', d' = .slice da' dl dc' ∧ (da = none → da' = none) ∧ ∀ p, da = some p → ∃ a', da' = some a' ∧ (a' = locA ρ p ∨ dl = 0) := by
      cases da with
      | none => obtain ⟨rfl, rfl, rfl⟩ := TRel.slcnil hd; exact ⟨_, _, rfl, fun _ => rfl, by simp⟩
      | some p =>
        obtain ⟨_, a', c', rfl, hc⟩ := TRel.slc hd
        refine ⟨_, _, rfl, by simp, fun q hq => ⟨a', rfl, ?_⟩⟩
        cases hq
        unfold capRel at hc
        split at hc
        · exact hc.1.imp id (·.1)
        · exact .inl hc.1
    obtain ⟨da', dc', rfl, k1, k2⟩ := hdst
    have hrun : (Builtin.copy_ ts ty #[.slice da' dl dc', s']).run X.P w = ((if let some a := da' then storeCells a cs'.toList else pure () : Sem Unit).run X.P w).andThen fun _ w' => .ok (.int .i64 (Nat.min sl dl)) w' := by
      simp only [Builtin.copy_, ht, List.getElem?_toArray, List.getElem?_cons_zero, List.getElem?_cons_succ, Sem.run_bind, run_underlying' hu, Result.andThen_ok, lenV_sound (X := X) hsl hsr, run_sizeOf hsz, f1]
      cases da' <;> simp [goInt]
    split at h
    · simp only [Option.some.injEq, Prod.mk.injEq] at h
      obtain ⟨rfl, rfl⟩ := h
      have := k1 rfl; subst this
      exact ⟨w, by rw [hrun]; rfl, hs, rfl, rfl⟩
    · rename_i i off
      simp only [Option.bind_eq_some_iff] at h
      obtain ⟨b, hb, h⟩ := h
      split at h
      · rename_i hfit
        simp only [Option.some.injEq, Prod.mk.injEq] at h
        obtain ⟨rfl, rfl⟩ := h
        obtain ⟨a', rfl, ha⟩ := k2 _ rfl
        by_cases hz : cs = []
        · subst hz
          have hcs'0 : cs'.toList = [] := by have := f2.1; simp at this; simpa using this.symm
          refine ⟨w, ?_, ?_, by simp, rfl⟩
          · rw [hrun, hcs'0]; rfl
          · have e0 : splice b.cells off [] = b.cells := by simp [splice]
            rw [e0]
            have : H.set i (some { b with cells := b.cells }) = H := by
              have hb' := blkAt_some hb
              apply List.ext_getElem?
              intro j
              rw [List.getElem?_set]
              by_cases e : i = j
              · subst e
                have : i < H.length := (List.getElem?_eq_some_iff.1 hb').1
                rw [if_pos rfl, if_pos this, hb']
              · simp [e]
            rw [this]; exact hs
        · have hdl : a' = locA ρ ⟨i, off, none⟩ := by
            rcases ha with h | h
            · exact h
            · exfalso
              apply hz
              subst h
              have : Nat.min sl 0 = 0 := by simp
              rw [this] at hcs
              unfold rowOf at hcs
              split at hcs
              · simpa using hcs.symm
              · simpa using hcs.symm
              · simpa using hcs.symm
              · cases hcs
          subst hdl
          obtain ⟨w', g1, g2⟩ := store_row hs (blkAt_some hb) hfit.1 f2 hfit.2
          exact ⟨w', by rw [hrun]; simp only [g1, Result.andThen_ok], g2, by simp, rfl⟩
      · cases h
    · cases h
  · cases h
section
variable {P : Program} {ts : Array TypeId} {ty t t2 el : TypeId} {d2 : TypeDesc} {sz l k : Nat} {x' : Value} {new' : Array Value}
theorem run_append_in {sa' : Option Addr} {cap' : Nat} {w' : World} (ht : ts[0]? = some t) (ht2 : ts[1]? = some t2) (hu : P.underlying t = some (.slice el)) (hsz : szOf P el = some sz)
    (hu2 : P.underlying t2 = some d2) (hd2 : (∃ e2, d2 = .slice e2) ∨ d2 = .string) (hlen : (Builtin.lenOf x').run P w = .ok k w) (hnew : (Builtin.firstCells sz k x').run P w = .ok new' w) (hfit : l + k ≤ cap')
    (hst : ((if let some a := sa' then storeCells (a.add (l * sz)) new'.toList else pure () : Sem Unit).run P w) = .ok () w') :
    (Builtin.append_ ts ty #[.slice sa' l cap', x']).run P w = .ok (.slice sa' (l + k) cap') w' := by
  rcases hd2 with ⟨e2, rfl⟩ | rfl <;> cases sa' with
  | none =>
    simp only [Sem.run_pure, Result.ok.injEq, true_and] at hst
    subst hst
    simp only [Builtin.append_, ht, ht2, List.getElem?_toArray, List.getElem?_cons_zero, List.getElem?_cons_succ, Sem.run_bind, run_underlying' hu, run_underlying' hu2, Result.andThen_ok, run_sizeOf hsz, Bool.false_eq_true, if_false, hlen, if_pos hfit, Bool.not_false, if_true, hnew, Sem.run_pure]
  | some a =>
    simp only at hst
    simp only [Builtin.append_, ht, ht2, List.getElem?_toArray, List.getElem?_cons_zero, List.getElem?_cons_succ, Sem.run_bind, run_underlying' hu, run_underlying' hu2, Result.andThen_ok, run_sizeOf hsz, Bool.false_eq_true, if_false, hlen, if_pos hfit, Bool.not_false, if_true, hnew, hst, Sem.run_pure]
theorem run_append_grow {sa' : Option Addr} {cap' by_ : Nat} {old' : Array Value} {z : Value} (ht : ts[0]? = some t) (ht2 : ts[1]? = some t2) (hu : P.underlying t = some (.slice el)) (hsz : szOf P el = some sz) (hby : bytesOf P el = some by_) (hzv : zeroOf P el = some z)
    (hu2 : P.underlying t2 = some d2) (hd2 : (∃ e2, d2 = .slice e2) ∨ d2 = .string) (hlen : (Builtin.lenOf x').run P w = .ok k w) (hfit : cap' < l + k) (hby0 : 0 < by_) (hbound : (l + k) * by_ ≤ 2 ^ 47)
    (hold : (Builtin.firstCells sz l (.slice sa' l cap')).run P w.drew = .ok old' w.drew) (hnew : (Builtin.firstCells sz k x').run P w.drew = .ok new' w.drew) :
    ∃ newCap w1, l + k ≤ newCap ∧ newCap < 2 ^ 63 ∧ w1 = w.drew ∧
      (Builtin.append_ ts ty #[.slice sa' l cap', x']).run P w = .ok (.slice (some ⟨w.heap.size, 0, none⟩) (l + k) newCap) (w1.alloc (.cells (old' ++ new' ++ Builtin.zeroCells z.cells (newCap - (l + k))) el)) := by
  obtain ⟨ie, hie, hieb⟩ := bytesOf_some hby
  have hneed : l + k ≤ 2 ^ 47 := Nat.le_trans (Nat.le_mul_of_pos_right _ hby0) hbound
  have hnext : ¬ (Builtin.nextslicecap (l + k) cap' * by_ > 2 ^ 48) := by
    have h1 := nextcap_le (l + k) cap' hfit
    have h2 := Nat.mul_le_mul_right by_ h1
    have h3 : 2 * (l + k) * by_ = 2 * ((l + k) * by_) := Nat.mul_assoc _ _ _
    omega
  have hbig : ¬ (((l + k : Nat) : Int) > IntKind.i64.max ∧ (False ∨ by_ = 0)) := by
    rintro ⟨_, h | h⟩
    · exact h
    · omega
  refine ⟨(l + k) + w.tape w.drawn (.appendCap (l + k) cap' el) % (2 ^ 63 - (l + k)), w.drew, by omega, ?_, rfl, ?_⟩
  · have : w.tape w.drawn (.appendCap (l + k) cap' el) % (2 ^ 63 - (l + k)) < 2 ^ 63 - (l + k) := Nat.mod_lt _ (by omega)
    omega
  · have hti : (typeInfo el).run P w = .ok ie w := by simp [typeInfo, hie]
    have hti' : (typeInfo el).run P w.drew = .ok ie w.drew := by simp [typeInfo, hie]
    have hzr : (zeroValue el).run P w.drew = .ok z w.drew := run_zeroValue hzv
    have hch : (choose (.appendCap (l + k) cap' el)).run P w = .ok ((l + k) + w.tape w.drawn (.appendCap (l + k) cap' el) % (2 ^ 63 - (l + k))) w.drew := by
      simp [run_choose, Question.forced, Question.cut]
    have hnr : ∀ (cs : Array Value), (newRow el cs).run P w.drew = .ok ⟨w.heap.size, 0, none⟩ (w.drew.alloc (.cells cs el)) := fun _ => rfl
    rcases hd2 with ⟨e2, rfl⟩ | rfl <;>
      (simp only [Builtin.append_, ht, ht2, List.getElem?_toArray, List.getElem?_cons_zero, List.getElem?_cons_succ, Sem.run_bind, run_underlying' hu, run_underlying' hu2, Result.andThen_ok, run_sizeOf hsz, Bool.false_eq_true, if_false, hlen,
        if_neg (by omega : ¬ l + k ≤ cap'), Bool.not_false, if_true, hti, hieb, Sem.run_pure]
       rw [if_neg hbig]
       simp only [Sem.run_bind, hti, Result.andThen_ok, hieb]
       rw [if_neg hnext]
       simp only [Sem.run_bind, hch, Result.andThen_ok, hti', run_askRoom, hold, hnew, hzr, hnr, Sem.run_pure])
end
theorem vcells_size (v : Value) : v.cells.size = (vcells v).length := by cases v <;> simp [Value.cells, vcells]
theorem set_same {i : Nat} {b : Blk} (hb : H[i]? = some (some b)) : H.set i (some b) = H := by
  apply List.ext_getElem?
  intro j
  rw [List.getElem?_set]
  by_cases e : i = j
  · subst e
    rw [if_pos rfl, if_pos (List.getElem?_eq_some_iff.1 hb).1, hb]
  · simp [e]
theorem LRel.ahead {R : Value → Value → Prop} {l : List Value} {cs : Array Value} {z : Array Value} (h : LRel R l cs.toList) : l.length ≤ (cs ++ z).size ∧ ∀ (j : Nat) v, l[j]? = some v → ∃ v', (cs ++ z)[j]? = some v' ∧ R v v' := by
  have hl : l.length = cs.size := by simpa using h.1
  refine ⟨by simp; omega, fun j v hj => ?_⟩
  obtain ⟨v', a, r⟩ := h.2 j v hj
  have hlt : j < cs.size := by have := (List.getElem?_eq_some_iff.1 hj).1; omega
  exact ⟨v', by rw [Array.getElem?_append_left hlt]; simpa using a, r⟩
theorem aappN_sound (hs : Sim X C ρ H w) {ts : Array TypeId} {ty el : TypeId} {s s' x' v z : Value} {H' : Heap} {sz by_ k : Nat} {new : List Value} {new' newd : Array Value} (h : aappN X H sz by_ s k new = some (v, H')) (hsr : TRel ρ H.length s s')
    (hzsz : z.cells.size = sz) (hnlen : new.length = k * sz) (n2 : LRel (CRel ρ H.length) new new'.toList) (d2' : LRel (CRel ρ H.length) new newd.toList)
    (hin : ∀ {sa' : Option Addr} {l cap' : Nat} {w' : World}, l + k ≤ cap' → ((if let some a := sa' then storeCells (a.add (l * sz)) new'.toList else pure () : Sem Unit).run X.P w) = .ok () w' →
      (Builtin.append_ ts ty #[.slice sa' l cap', x']).run X.P w = .ok (.slice sa' (l + k) cap') w')
    (hgrow : ∀ {sa' : Option Addr} {l cap' : Nat} {old' : Array Value}, cap' < l + k → 0 < by_ → (l + k) * by_ ≤ 2 ^ 47 → (Builtin.firstCells sz l (.slice sa' l cap')).run X.P w.drew = .ok old' w.drew →
      ∃ newCap w1, l + k ≤ newCap ∧ newCap < 2 ^ 63 ∧ w1 = w.drew ∧
        (Builtin.append_ ts ty #[.slice sa' l cap', x']).run X.P w = .ok (.slice (some ⟨w.heap.size, 0, none⟩) (l + k) newCap) (w1.alloc (.cells (old' ++ newd ++ Builtin.zeroCells z.cells (newCap - (l + k))) el))) :
    ∃ ρ' w' v', (Builtin.append_ ts ty #[s', x']).run X.P w = .ok v' w' ∧ (∀ i, i < H.length → ρ' i = ρ i) ∧ Sim X C ρ' H' w' ∧ H.length ≤ H'.length ∧ TRel ρ' H'.length v v' := by
  unfold aappN at h
  split at h
  · rename_i sa l cap
    by_cases hcU : Nat.beq cap capU = true
    · simp only [hcU, cond_true] at h
      have hcap : cap = capU := Nat.eq_of_beq_eq_true hcU
      split at h
      · rename_i i
        simp only [Option.bind_eq_some_iff] at h
        obtain ⟨b, hb, h⟩ := h
        split at h
        · rename_i hc
          obtain ⟨c1, c2, c3, c4, c5, c6⟩ := hc
          simp only [Option.some.injEq, Prod.mk.injEq] at h
          obtain ⟨rfl, rfl⟩ := h
          obtain ⟨hp, a', c', rfl, hcr⟩ := TRel.slc hsr
          simp only [capRel, hcap, if_true] at hcr
          obtain ⟨k1, k2, k3, k4⟩ := hcr
          have ea : a' = locA ρ ⟨i, 0, none⟩ := by
            rcases k1 with h | ⟨_, h⟩
            · exact h
            · exact absurd rfl h
          subst ea
          have hb' := blkAt_some hb
          obtain ⟨cs, t0, fr, b1, b2, b3⟩ := hs.blk i b hb'
          obtain ⟨rfl, b4, b5, b6⟩ := b2 c1
          have k4 := k4 trivial trivial
          have hilt : i < H.length := (List.getElem?_eq_some_iff.1 hb').1
          by_cases hfit : l + k ≤ c'
          · -- there is room
            have hroom : (l + k) * sz ≤ (ρ i).size := by
              rw [← b5, c2] at k4
              exact Nat.le_trans (Nat.mul_le_mul_right _ hfit) k4
            have hnl' : new'.toList.length = k * sz := by rw [← n2.1, hnlen]
            have hns : new'.size = k * sz := by rw [← hnl']; simp
            have hadd : (locA ρ ⟨i, 0, none⟩).add (l * sz) = ⟨(ρ i).block, (ρ i).off + l * sz, none⟩ := by rw [add_locA]; simp [locA, addA]
            have hmul : (l + k) * sz = l * sz + k * sz := Nat.add_mul _ _ _
            have hst := run_storeCells_at X.P (ρ i).block ((ρ i).off + l * sz) t0 new'.toList 0 cs w b1 (by omega) n2.ones
            have hrun := hin (sa' := some (locA ρ ⟨i, 0, none⟩)) (cap' := c') hfit (by simp only [hadd]; exact hst)
            have hsim := hs.store hb' c1 b1 (cs' := (cs.toList.take ((ρ i).off + l * sz + 0) ++ new'.toList ++ cs.toList.drop ((ρ i).off + l * sz + 0 + new'.toList.length)).toArray) (l := b.cells ++ new)
              (by simp only [List.size_toArray, List.length_append, List.length_take, List.length_drop, Array.length_toList]; omega) (by simp only [List.length_append, c5, hnlen]; omega) (by
                intro j u hj
                rw [← Array.getElem?_toList]
                simp only [List.append_assoc, Nat.add_zero]
                by_cases hj1 : j < b.cells.length
                · rw [List.getElem?_append_left hj1] at hj
                  obtain ⟨u', g1, g2⟩ := b3 j u hj
                  refine ⟨u', ?_, g2⟩
                  rw [List.getElem?_append_left (by simp; omega), List.getElem?_take, if_pos (by omega)]; simpa using g1
                · rw [List.getElem?_append_right (by omega)] at hj
                  obtain ⟨u', g1, g2⟩ := n2.2 _ u hj
                  refine ⟨u', ?_, g2⟩
                  have e2 : (List.take ((ρ i).off + l * sz) cs.toList).length = (ρ i).off + l * sz := by simp; omega
                  rw [List.getElem?_append_right (by omega), e2]
                  have hjlt : j - b.cells.length < new.length := (List.getElem?_eq_some_iff.1 hj).1
                  rw [show (ρ i).off + j - ((ρ i).off + l * sz) = j - b.cells.length from by omega, List.getElem?_append_left (by omega)]
                  exact g1)
            have hmv := hsim.move (i := i) (b := { b with cells := b.cells ++ new }) (by simp [hilt])
            simp only [List.length_set, List.set_set] at hmv
            have hbb : ({ b with cells := b.cells ++ new } : Blk) = { cells := b.cells ++ new, own := true, es := sz } := by cases b; simp_all
            rw [hbb] at hmv
            refine ⟨_, _, _, hrun, upd_lt, hmv, by simp, ?_⟩
            simp only [TRel, VRel, CRel]
            refine ⟨fun _ => by simp, locA ρ ⟨i, 0, none⟩, c', rfl, ?_⟩
            simp only [capRel, if_true]
            refine ⟨.inl (by simp [locA, upd_same]), hfit, k3, fun _ _ => ?_⟩
            rw [upd_same]; exact k4
          · -- it grows
            obtain ⟨hol, old', o1, o2⟩ := rowOf_sound (sz := sz) (k := l) (l := l) (cs := (b.cells.drop 0).take (l * sz)) hs.drew (x := .slice (some ⟨i, 0, none⟩) l cap) (by cases hl0 : Nat.beq l 0 with
              | true => have := Nat.eq_of_beq_eq_true hl0; subst this; simp [rowOf]
              | false => simp [rowOf, cellsAt, hb, c5, hl0]) rfl (Nat.le_refl _) hsr
            obtain ⟨newCap, w1, g1, g2, rfl, g3⟩ := hgrow (by omega) c4 c6 o1
            have e0 : (b.cells.drop 0).take (l * sz) = b.cells := by rw [← c5]; simp
            rw [e0] at o2
            have hall : LRel (CRel ρ H.length) (b.cells ++ new) (old' ++ newd).toList := by rw [Array.toList_append]; exact o2.append d2'
            obtain ⟨a1, a2⟩ := hall.ahead (z := Builtin.zeroCells z.cells (newCap - (l + k)))
            have hk2 := (hs.drew.kill i).alloc (es := sz) (t := el) (l := b.cells ++ new) (cs := old' ++ newd ++ Builtin.zeroCells z.cells (newCap - (l + k))) a1 (by simpa using a2)
            simp only [List.length_set] at hk2
            refine ⟨_, _, _, g3, upd_lt, hk2, by simp, ?_⟩
            simp only [TRel, VRel, CRel]
            refine ⟨fun _ => by simp, ⟨w.heap.size, 0, none⟩, newCap, rfl, ?_⟩
            simp only [capRel, if_true]
            refine ⟨.inl (by simp [locA, upd_same]), g1, g2, fun _ _ => ?_⟩
            rw [upd_same]
            have e3 : old'.size = l * sz := by have := o2.1; simp at this; omega
            have e4 : newd.size = k * sz := by have := d2'.1; simp at this; omega
            simp only [Array.size_append, e3, e4, size_zeroCells, hzsz]
            rw [← Nat.add_mul, ← Nat.add_mul]
            exact Nat.mul_le_mul_right _ (by omega)
        · cases h
      · cases h
    · simp only [Bool.not_eq_true] at hcU
      simp only [hcU, cond_false] at h
      have hcap : cap ≠ capU := by intro e; subst e; simp at hcU
      have hsv : ∃ sa' : Option Addr, s' = .slice sa' l cap ∧ (sa = none → sa' = none ∧ l = 0 ∧ cap = 0) ∧ ∀ p, sa = some p → sa' = some (locA ρ p) ∧ cap < capU := by
        cases sa with
        | none => obtain ⟨rfl, rfl, rfl⟩ := TRel.slcnil hsr; exact ⟨_, rfl, fun _ => ⟨rfl, rfl, rfl⟩, by simp⟩
        | some p =>
          obtain ⟨_, a', c', rfl, hc⟩ := TRel.slc hsr
          simp only [capRel, hcap, if_false] at hc
          obtain ⟨rfl, rfl, hlt⟩ := hc
          exact ⟨_, rfl, by simp, fun q hq => by cases hq; exact ⟨rfl, hlt⟩⟩
      obtain ⟨sa', rfl, s1, s2⟩ := hsv
      split at h
      · rename_i hfit
        split at h
        · simp only [Option.some.injEq, Prod.mk.injEq] at h
          obtain ⟨rfl, rfl⟩ := h
          obtain ⟨rfl, rfl, rfl⟩ := s1 rfl
          obtain rfl : k = 0 := by omega
          have hrun := hin (sa' := none) (cap' := 0) hfit rfl
          exact ⟨ρ, w, _, hrun, fun _ _ => rfl, hs, Nat.le_refl _, hsr⟩
        · rename_i i off
          obtain ⟨rfl, hltU⟩ := s2 _ rfl
          split at h
          · rename_i hk0
            simp only [Option.some.injEq, Prod.mk.injEq] at h
            obtain ⟨rfl, rfl⟩ := h
            subst hk0
            have hn00 : new'.toList = [] := by
              have h1 := n2.1
              rw [hnlen, Nat.zero_mul] at h1
              exact List.length_eq_zero_iff.1 h1.symm
            have hrun := hin (sa' := some (locA ρ ⟨i, off, none⟩)) (cap' := cap) hfit (by simp only [hn00]; rfl)
            exact ⟨ρ, w, _, hrun, fun _ _ => rfl, hs, Nat.le_refl _, hsr⟩
          · simp only [Option.bind_eq_some_iff] at h
            obtain ⟨b, hb, h⟩ := h
            split at h
            · rename_i hc
              simp only [Option.some.injEq, Prod.mk.injEq] at h
              obtain ⟨rfl, rfl⟩ := h
              have hmul : (l + k) * sz = l * sz + k * sz := Nat.add_mul _ _ _
              obtain ⟨w', g1, g2⟩ := store_row hs (off := off + l * sz) (blkAt_some hb) hc.1 n2 (by omega)
              have hadd : (locA ρ ⟨i, off, none⟩).add (l * sz) = locA ρ ⟨i, off + l * sz, none⟩ := by rw [add_locA]; rfl
              have hrun := hin (sa' := some (locA ρ ⟨i, off, none⟩)) (cap' := cap) hfit (by simp only [hadd]; exact g1)
              refine ⟨ρ, w', _, hrun, fun _ _ => rfl, g2, by simp, ?_⟩
              simp only [TRel, VRel, CRel, List.length_set]
              refine ⟨fun _ => (List.getElem?_eq_some_iff.1 (blkAt_some hb)).1, _, _, rfl, ?_⟩
              simp only [capRel, hcap, if_false]
              exact ⟨trivial, trivial, hltU⟩
            · cases h
        · cases h
      · rename_i hfit
        split at h
        · rename_i hc
          obtain ⟨c3, c4, c6⟩ := hc
          simp only [Option.bind_eq_some_iff, Option.some.injEq, Prod.mk.injEq] at h
          obtain ⟨old, hold, rfl, rfl⟩ := h
          obtain ⟨hol, old', o1, o2⟩ := rowOf_sound hs.drew hold rfl (Nat.le_refl _) hsr
          obtain ⟨newCap, w1, g1, g2, rfl, g3⟩ := hgrow (by omega) c4 c6 o1
          have holen : old.length = l * sz := by
            rcases hol rfl with h | ⟨_, h, _⟩
            · exact h
            · cases h
          have hall : LRel (CRel ρ H.length) (old ++ new) (old' ++ newd).toList := by rw [Array.toList_append]; exact o2.append d2'
          obtain ⟨a1, a2⟩ := hall.ahead (z := Builtin.zeroCells z.cells (newCap - (l + k)))
          have hk2 := hs.drew.alloc (es := sz) (t := el) (l := old ++ new) (cs := old' ++ newd ++ Builtin.zeroCells z.cells (newCap - (l + k))) a1 a2
          refine ⟨_, _, _, g3, upd_lt, hk2, by simp, ?_⟩
          simp only [TRel, VRel, CRel]
          refine ⟨fun _ => by simp, ⟨w.heap.size, 0, none⟩, newCap, rfl, ?_⟩
          simp only [capRel, if_true]
          refine ⟨.inl (by simp [locA, upd_same]), g1, g2, fun _ _ => ?_⟩
          rw [upd_same]
          have e3 : old'.size = l * sz := by have := o2.1; simp at this; omega
          have e4 : newd.size = k * sz := by have := d2'.1; simp at this; omega
          simp only [Array.size_append, e3, e4, size_zeroCells, hzsz]
          rw [← Nat.add_mul, ← Nat.add_mul]
          exact Nat.mul_le_mul_right _ (by omega)
        · cases h
  · cases h
theorem aappend_sound (hs : Sim X C ρ H w) {t t2 : TypeId} {s x s' x' v : Value} {H' : Heap} (h : aappend X H t s x = some (v, H')) (hsr : TRel ρ H.length s s') (hx : TRel ρ H.length x x') (ts : Array TypeId) (ty : TypeId)
    (ht : ts[0]? = some t) (ht2 : ts[1]? = some t2) {d2 : TypeDesc} (hu2 : X.P.underlying t2 = some d2) (hd2 : (∃ e2, d2 = .slice e2) ∨ d2 = .string) :
    ∃ ρ' w' v', (Builtin.append_ ts ty #[s', x']).run X.P w = .ok v' w' ∧ (∀ i, i < H.length → ρ' i = ρ i) ∧ Sim X C ρ' H' w' ∧ H.length ≤ H'.length ∧ TRel ρ' H'.length v v' := by
  unfold aappend at h
  split at h
  · rename_i el sa l cap hu
    simp only [Option.bind_eq_some_iff] at h
    obtain ⟨sz, hsz, by_, hby, z, hz, k, hk, new, hnew, h⟩ := h
    cases hchk : (strOne sz x && Nat.beq (vcells z).length sz) with
    | false => simp [hchk] at h
    | true =>
    simp only [hchk, Bool.not_true, cond_false] at h
    simp only [Bool.and_eq_true] at hchk
    obtain ⟨hstr, hzsz0⟩ := hchk
    have hzsz : z.cells.size = sz := by rw [vcells_size]; exact Nat.eq_of_beq_eq_true hzsz0
    obtain ⟨hn0, new', n1, n2⟩ := rowOf_sound hs hnew hk (Nat.le_refl _) hx
    obtain ⟨_, newd, d1, d2'⟩ := rowOf_sound hs.drew hnew hk (Nat.le_refl _) hx
    have hnlen : new.length = k * sz := by
      have hnt : isTup x = false := by
        cases x <;> first | rfl | (simp [lenV] at hk)
      rcases hn0 hnt with h | ⟨s0, rfl, h⟩
      · exact h
      · simp only [strOne] at hstr
        have := Nat.eq_of_beq_eq_true hstr
        rw [h, this, Nat.mul_one]
    have hlenx := lenV_sound (X := X) hk hx w
    refine aappN_sound (z := z) hs h hsr hzsz hnlen n2 d2' (fun hfit hst => run_append_in ht ht2 hu hsz hu2 hd2 hlenx n1 hfit hst) (fun h1 h2 h3 h4 => run_append_grow ht ht2 hu hsz hby hz hu2 hd2 hlenx h1 h2 h3 h4 d1)
  · cases h
end
end Go.Ab
namespace Go.Ab
section
variable {X : Cx} {C : Ctx} {ρ : Nat → Loc} {H : Heap} {n : Nat} {e : Env} {a : Act} {w : World}
theorem zerosN_get (z : List Value) : ∀ (m j : Nat), (zerosN z m)[j]? = if j < m * z.length then z[j % z.length]? else none := by
  intro m
  induction m with
  | zero => intro j; simp [zerosN]
  | succ m ih =>
    intro j
    simp only [zerosN]
    by_cases hj : j < z.length
    · rw [List.getElem?_append_left hj, Nat.mod_eq_of_lt hj, if_pos]
      rw [Nat.add_mul]; omega
    · rw [List.getElem?_append_right (by omega), ih, Nat.add_mul, Nat.one_mul]
      by_cases h2 : j < m * z.length + z.length
      · rw [if_pos h2, if_pos (by omega), ← Nat.mod_eq_sub_mod (a := j) (b := z.length) (by omega)]
      · rw [if_neg h2, if_neg (by omega)]
theorem zerosN_length (z : List Value) : ∀ m, (zerosN z m).length = m * z.length := by
  intro m; induction m with
  | zero => simp [zerosN]
  | succ m ih => simp [zerosN, ih, Nat.add_mul]; omega
theorem zerosN_rel {z : Value} {sz : Nat} (hsz : (vcells z).length = sz) (hpos : 0 < sz) (hpl : (vcells z).all plainC = true) (m : Nat) :
    ∀ (j : Nat) v, (zerosN (vcells z) m)[j]? = some v → ∃ v', ((Array.range (m * sz)).map (z.cells[· % z.cells.size]!))[j]? = some v' ∧ CRel ρ n v v' := by
  intro j v hj
  rw [zerosN_get] at hj
  split at hj
  · rename_i hlt
    refine ⟨v, ?_, .plain (List.all_eq_true.1 hpl v (List.mem_of_getElem? hj))⟩
    have hzs : z.cells.size = sz := by rw [vcells_size]; exact hsz
    have hzl : z.cells.toList = vcells z := by cases z <;> simp [Value.cells, vcells]
    rw [hsz] at hj hlt
    have hm : j % sz < z.cells.size := by rw [hzs]; exact Nat.mod_lt _ hpos
    have hget : z.cells[j % sz]? = some v := by rw [← Array.getElem?_toList, hzl]; exact hj
    simp only [Array.getElem?_map, hzs]
    have hr : (Array.range (m * sz))[j]? = some j := by simp [hlt]
    rw [hr]
    simp only [Option.map_some, Option.some.injEq]
    rw [getElem!_pos z.cells (j % sz) hm]
    rw [Array.getElem?_eq_getElem hm] at hget
    exact Option.some.inj hget
  · cases hj
section
variable {P : Program} {ts : Array TypeId} {ty t t2 el : TypeId} {kd : IntKind} {sz k : Nat} {by_ : Nat} {z : Value}
theorem run_appendZ_in {sa' : Option Addr} {l cap' : Nat} {w' : World} {kx : IntKind} (ht : ts[0]? = some t) (ht2 : ts[1]? = some t2) (hu : P.underlying t = some (.slice el)) (hsz : szOf P el = some sz) (hby : bytesOf P el = some by_) (hzv : zeroOf P el = some z)
    (hu2 : P.underlying t2 = some (.int kd)) (hk : k * by_ ≤ 2 ^ 47) (hk2 : k < 2 ^ 63) (hsz0 : 0 < sz) (hfit : l + k ≤ cap')
    (hst : ((if let some a := sa' then storeCells (a.add (l * sz)) (Builtin.zeroCells z.cells k).toList else pure () : Sem Unit).run P w) = .ok () w') :
    (Builtin.append_ ts ty #[.slice sa' l cap', .int kx (k : Int)]).run P w = .ok (.slice sa' (l + k) cap') w' := by
  obtain ⟨ie, hie, hieb⟩ := bytesOf_some hby
  have hti : (typeInfo el).run P w = .ok ie w := by simp [typeInfo, hie]
  have hzr : (zeroValue el).run P w = .ok z w := run_zeroValue hzv
  have hw : IntKind.i64.wrap ((k : Nat) : Int) = ((k : Nat) : Int) := by unfold IntKind.wrap IntKind.bits IntKind.signed; simp; omega
  have hai : (asInt (.int kx ((k : Nat) : Int))).run P w = .ok ((k : Nat) : Int) w := rfl
  have h1 : ¬ ((k : Nat) : Int) * ((by_ : Nat) : Int) > 2 ^ 48 := by
    have : ((k * by_ : Nat) : Int) ≤ 2 ^ 47 := by omega
    rw [Int.natCast_mul] at this; omega
  have h0 : ¬ ((k : Nat) : Int) < 0 := by omega
  by_cases hk0 : k = 0
  · subst hk0
    have e0 : (Builtin.zeroCells z.cells 0).toList = [] := by simp [Builtin.zeroCells]
    rw [e0] at hst
    cases sa' with
    | none =>
      simp only [Sem.run_pure, Result.ok.injEq, true_and] at hst
      subst hst
      simp only [Builtin.append_, ht, ht2, List.getElem?_toArray, List.getElem?_cons_zero, List.getElem?_cons_succ, Sem.run_bind, run_underlying' hu, run_underlying' hu2, Result.andThen_ok, run_sizeOf hsz, if_true, hai, Sem.run_pure, hw, if_neg h0, hti, hieb, if_neg h1, Int.toNat_natCast, if_pos hfit, Bool.not_true, Bool.false_eq_true, if_false, Nat.zero_mul]
    | some a =>
      simp only at hst
      simp only [Builtin.append_, ht, ht2, List.getElem?_toArray, List.getElem?_cons_zero, List.getElem?_cons_succ, Sem.run_bind, run_underlying' hu, run_underlying' hu2, Result.andThen_ok, run_sizeOf hsz, if_true, hai, Sem.run_pure, hw, if_neg h0, hti, hieb, if_neg h1, Int.toNat_natCast, if_pos hfit, Bool.not_true, Bool.false_eq_true, if_false, Nat.zero_mul, hst]
  · have hks : ¬ k * sz = 0 := by
      have := Nat.mul_pos (Nat.pos_of_ne_zero hk0) hsz0; omega
    cases sa' with
    | none =>
      simp only [Sem.run_pure, Result.ok.injEq, true_and] at hst
      subst hst
      simp only [Builtin.append_, ht, ht2, List.getElem?_toArray, List.getElem?_cons_zero, List.getElem?_cons_succ, Sem.run_bind, run_underlying' hu, run_underlying' hu2, Result.andThen_ok, run_sizeOf hsz, if_true, hai, Sem.run_pure, hw, if_neg h0, hti, hieb, if_neg h1, Int.toNat_natCast, if_pos hfit, Bool.not_true, Bool.false_eq_true, if_false, if_neg hks, hzr]
    | some a =>
      simp only at hst
      simp only [Builtin.append_, ht, ht2, List.getElem?_toArray, List.getElem?_cons_zero, List.getElem?_cons_succ, Sem.run_bind, run_underlying' hu, run_underlying' hu2, Result.andThen_ok, run_sizeOf hsz, if_true, hai, Sem.run_pure, hw, if_neg h0, hti, hieb, if_neg h1, Int.toNat_natCast, if_pos hfit, Bool.not_true, Bool.false_eq_true, if_false, if_neg hks, hzr, hst]
theorem run_appendZ_grow {sa' : Option Addr} {l cap' : Nat} {kx : IntKind} {old' : Array Value} (ht : ts[0]? = some t) (ht2 : ts[1]? = some t2) (hu : P.underlying t = some (.slice el)) (hsz : szOf P el = some sz) (hby : bytesOf P el = some by_) (hzv : zeroOf P el = some z)
    (hu2 : P.underlying t2 = some (.int kd)) (hk : k * by_ ≤ 2 ^ 47) (hk2 : k < 2 ^ 63) (hsz0 : 0 < sz) (hfit : cap' < l + k) (hby0 : 0 < by_) (hbound : (l + k) * by_ ≤ 2 ^ 47)
    (hold : (Builtin.firstCells sz l (.slice sa' l cap')).run P w.drew = .ok old' w.drew) :
    ∃ newCap w1, l + k ≤ newCap ∧ newCap < 2 ^ 63 ∧ w1 = w.drew ∧
      (Builtin.append_ ts ty #[.slice sa' l cap', .int kx (k : Int)]).run P w = .ok (.slice (some ⟨w.heap.size, 0, none⟩) (l + k) newCap) (w1.alloc (.cells (old' ++ Builtin.zeroCells z.cells k ++ Builtin.zeroCells z.cells (newCap - (l + k))) el)) := by
  obtain ⟨ie, hie, hieb⟩ := bytesOf_some hby
  have hneed : l + k ≤ 2 ^ 47 := Nat.le_trans (Nat.le_mul_of_pos_right _ hby0) hbound
  have hnext : ¬ (Builtin.nextslicecap (l + k) cap' * by_ > 2 ^ 48) := by
    have h1 := nextcap_le (l + k) cap' hfit
    have h2 := Nat.mul_le_mul_right by_ h1
    have h3 : 2 * (l + k) * by_ = 2 * ((l + k) * by_) := Nat.mul_assoc _ _ _
    omega
  have hbig : ¬ (((l + k : Nat) : Int) > IntKind.i64.max ∧ (True ∨ by_ = 0)) := by
    rintro ⟨h, _⟩
    have h : ((l + k : Nat) : Int) > 2 ^ 63 - 1 := h
    omega
  refine ⟨(l + k) + w.tape w.drawn (.appendCap (l + k) cap' el) % (2 ^ 63 - (l + k)), w.drew, by omega, ?_, rfl, ?_⟩
  · have : w.tape w.drawn (.appendCap (l + k) cap' el) % (2 ^ 63 - (l + k)) < 2 ^ 63 - (l + k) := Nat.mod_lt _ (by omega)
    omega
  · have hti : (typeInfo el).run P w = .ok ie w := by simp [typeInfo, hie]
    have hti' : (typeInfo el).run P w.drew = .ok ie w.drew := by simp [typeInfo, hie]
    have hzr : (zeroValue el).run P w.drew = .ok z w.drew := run_zeroValue hzv
    have hch : (choose (.appendCap (l + k) cap' el)).run P w = .ok ((l + k) + w.tape w.drawn (.appendCap (l + k) cap' el) % (2 ^ 63 - (l + k))) w.drew := by
      simp [run_choose, Question.forced, Question.cut]
    have hnr : ∀ (cs : Array Value), (newRow el cs).run P w.drew = .ok ⟨w.heap.size, 0, none⟩ (w.drew.alloc (.cells cs el)) := fun _ => rfl
    have hw : IntKind.i64.wrap ((k : Nat) : Int) = ((k : Nat) : Int) := by unfold IntKind.wrap IntKind.bits IntKind.signed; simp; omega
    have hai : (asInt (.int kx ((k : Nat) : Int))).run P w = .ok ((k : Nat) : Int) w := rfl
    have h1 : ¬ ((k : Nat) : Int) * ((by_ : Nat) : Int) > 2 ^ 48 := by
      have : ((k * by_ : Nat) : Int) ≤ 2 ^ 47 := by omega
      rw [Int.natCast_mul] at this; omega
    have h0 : ¬ ((k : Nat) : Int) < 0 := by omega
    have e0 : Builtin.zeroCells z.cells 0 = #[] := by simp [Builtin.zeroCells]
    simp only [Builtin.append_, ht, ht2, List.getElem?_toArray, List.getElem?_cons_zero, List.getElem?_cons_succ, Sem.run_bind, run_underlying' hu, run_underlying' hu2, Result.andThen_ok, run_sizeOf hsz, if_true, hai, Sem.run_pure, hw, if_neg h0, hti, hieb, if_neg h1, Int.toNat_natCast,
      if_neg (by omega : ¬ l + k ≤ cap'), Bool.not_true, Bool.false_eq_true, if_false]
    rw [if_neg hbig]
    simp only [Sem.run_bind, hti, Result.andThen_ok, hieb]
    rw [if_neg hnext]
    by_cases hk0 : k = 0
    · subst hk0
      simp only [Sem.run_bind, hch, Result.andThen_ok, hti', run_askRoom, hold, hzr, hnr, Sem.run_pure, Nat.zero_mul, if_true, e0]
    · have hks : ¬ k * sz = 0 := by
        have := Nat.mul_pos (Nat.pos_of_ne_zero hk0) hsz0; omega
      simp only [Sem.run_bind, hch, Result.andThen_ok, hti', run_askRoom, hold, hzr, hnr, Sem.run_pure, if_neg hks]
end
theorem aappendZ_sound (hs : Sim X C ρ H w) {t t2 : TypeId} {s s' v x' : Value} {k : Int} {kx kd : IntKind} {H' : Heap} (h : aappendZ X H t s k = some (v, H')) (hsr : TRel ρ H.length s s') (hx : x' = .int kx k) (ts : Array TypeId) (ty : TypeId)
    (ht : ts[0]? = some t) (ht2 : ts[1]? = some t2) (hu2 : X.P.underlying t2 = some (.int kd)) :
    ∃ ρ' w' v', (Builtin.append_ ts ty #[s', x']).run X.P w = .ok v' w' ∧ (∀ i, i < H.length → ρ' i = ρ i) ∧ Sim X C ρ' H' w' ∧ H.length ≤ H'.length ∧ TRel ρ' H'.length v v' := by
  unfold aappendZ at h
  split at h
  · rename_i el sa l cap hu
    simp only [Option.bind_eq_some_iff] at h
    obtain ⟨sz, hsz, by_, hby, z, hz, h⟩ := h
    split at h
    · rename_i hc
      obtain ⟨c1, c2, c3, c4, c5, c6⟩ := hc
      obtain ⟨m, rfl⟩ := Int.eq_ofNat_of_zero_le c1
      rw [Int.toNat_natCast] at h
      have hzs : z.cells.size = sz := by rw [vcells_size]; exact c5
      have hk : m * by_ ≤ 2 ^ 47 := by
        have e : ((m * by_ : Nat) : Int) ≤ 2 ^ 47 := by rw [Int.natCast_mul]; exact c2
        omega
      have hrel : LRel (CRel ρ H.length) (zerosN (vcells z) m) (Builtin.zeroCells z.cells m).toList := by
        refine ⟨?_, fun j v hj => ?_⟩
        · rw [zerosN_length, c5, Array.length_toList, size_zeroCells, hzs]
        · obtain ⟨v', a1, a2⟩ := zerosN_rel (ρ := ρ) (n := H.length) c5 c4 c6 m j v hj
          refine ⟨v', ?_, a2⟩
          rw [Array.getElem?_toList]
          unfold Builtin.zeroCells
          rw [hzs] at a1 ⊢
          exact a1
      subst hx
      exact aappN_sound (z := z) (new' := Builtin.zeroCells z.cells m) (newd := Builtin.zeroCells z.cells m) hs h hsr hzs (by rw [zerosN_length, c5]) hrel hrel
        (fun hfit hst => run_appendZ_in ht ht2 hu hsz hby hz hu2 hk (by omega) c4 hfit hst) (fun h1 h2 h3 h4 => run_appendZ_grow ht ht2 hu hsz hby hz hu2 hk (by omega) c4 h1 h2 h3 h4)
    · cases h
  · cases h
theorem run_makeSlice {P : Program} {t el : TypeId} {l c : Int} {kl kc : IntKind} {sz by_ : Nat} {z : Value} (hu : P.underlying t = some (.slice el)) (hsz : szOf P el = some sz) (hby : bytesOf P el = some by_) (hz : zeroOf P el = some z)
    (h0 : 0 ≤ l) (h1 : l ≤ c) (h2 : c * by_ ≤ 2 ^ 47) (h3 : c < 2 ^ 63) :
    (Instr.makeSlice t (.int kl l) (.int kc c)).run P w = .ok (.slice (some ⟨w.heap.size, 0, none⟩) l.toNat c.toNat) (w.alloc (.cells ((Array.range (c.toNat * sz)).map (z.cells[· % z.cells.size]!)) el)) := by
  obtain ⟨ie, hie, hieb⟩ := bytesOf_some hby
  have hti : (typeInfo el).run P w = .ok ie w := by simp [typeInfo, hie]
  have wl : IntKind.i64.wrap l = l := by
    unfold IntKind.wrap IntKind.bits IntKind.signed; simp; omega
  have wc : IntKind.i64.wrap c = c := by
    unfold IntKind.wrap IntKind.bits IntKind.signed; simp; omega
  have big : ((by_ : Int) * c > 2 ^ 48) = False := by
    rw [Int.mul_comm]; simp; omega
  have hlt : (decide (c < 0) || decide ((by_ : Int) * c > 2 ^ 48) || decide (l < 0) || decide (l > c)) = false := by
    simp only [big, decide_false, Bool.or_false]; simp; omega
  have hnr : ∀ (cs : Array Value), (newRow el cs).run P w = .ok ⟨w.heap.size, 0, none⟩ (w.alloc (.cells cs el)) := fun _ => rfl
  have hasi : ∀ (k : IntKind) (i : Int), (asInt (.int k i)).run P w = .ok i w := fun _ _ => rfl
  simp only [Instr.makeSlice, Sem.run_bind, run_underlying' hu, Result.andThen_ok, hasi, hti, hieb, wl, wc]
  rw [if_neg (by rw [hlt]; decide)]
  simp only [Sem.run_bind, run_askRoom, Result.andThen_ok, run_sizeOf hsz]
  by_cases h0 : c.toNat * sz = 0
  · rw [if_pos h0]
    have e0 : ∀ f : Nat → Value, (Array.range 0).map f = #[] := fun f => by apply Array.ext'; simp
    simp only [Sem.run_bind, Sem.run_pure, Result.andThen_ok, hnr, h0, e0]
  · rw [if_neg h0]
    simp only [Sem.run_bind, Sem.run_pure, Result.andThen_ok, hnr, run_zeroValue hz]
theorem run_buildSlice {P : Program} {t el : TypeId} {sz len : Nat} {z : Value} {parts : Array (Nat × Value)} {cs : Array Value} (hu : P.underlying t = some (.slice el)) (hsz : szOf P el = some sz) (hz : zeroOf P el = some z) (hbig : len * sz ≤ 2 ^ 24)
    (hf : Instr.fill (fun i => some (i * sz, sz)) ((Array.range (len * sz)).map ((if len * sz = 0 then #[] else z.cells)[· % (if len * sz = 0 then #[] else z.cells).size]!)) parts.toList = some cs) :
    (Instr.buildSlice t len parts).run P w = .ok (.slice (some ⟨w.heap.size, 0, none⟩) len len) (w.alloc (.cells cs el)) := by
  have hnr : ∀ (cs : Array Value), (newRow el cs).run P w = .ok ⟨w.heap.size, 0, none⟩ (w.alloc (.cells cs el)) := fun _ => rfl
  simp only [Instr.buildSlice, Sem.run_bind, run_underlying' hu, Result.andThen_ok, run_sizeOf hsz]
  rw [if_neg (by omega)]
  by_cases h0 : len * sz = 0
  · simp only [h0, if_true] at hf ⊢
    simp only [Sem.run_bind, Sem.run_pure, Result.andThen_ok, hf, hnr]
  · simp only [h0, if_false] at hf ⊢
    simp only [Sem.run_bind, Sem.run_pure, Result.andThen_ok, run_zeroValue hz, hf, hnr]
theorem av_sound {hc : HOrc} (hs : Sim X C ρ H w) (he : ERel ρ H.length e a.tmps) {o : Oper} {r : Option Value} {H' : Heap} (h : av X hc e H o.op = some (r, H')) :
    (∃ nx ρ' w', (execOp a.eval o).run X.P w = .ok nx w' ∧ (∀ i, i < H.length → ρ' i = ρ i) ∧ Sim X C ρ' H' w' ∧ H.length ≤ H'.length ∧
      ((∃ v v', nx = .value v' ∧ r = some v ∧ TRel ρ' H'.length v v') ∨ (nx = .skip ∧ r = none))) ∨
    (∃ f l l' v, hc f l H = some (v, H') ∧ r = some v ∧ LRel (TRel ρ H.length) l l' ∧ execOp a.eval o = callFunc f ⟨l'⟩) := by
  unfold av at h
  split at h
  · rename_i t x ho
    left
    simp only [Option.bind_eq_some_iff, Option.map_eq_some_iff, Prod.mk.injEq] at h
    obtain ⟨vx, hx, v, hv, rfl, rfl⟩ := h
    obtain ⟨p, hp, v', g1, g2⟩ := ald_sound hs hv (evo_sound he hx)
    refine ⟨.value v', ρ, w, ?_, fun _ _ => rfl, hs, Nat.le_refl _, .inl ⟨v, v', rfl, rfl, .of_V g2⟩⟩
    simp only [execOp, ho, hp, Instr.loadAt, Instr.sureAddr, Sem.run_bind, Sem.run_pure, Result.andThen_ok, g1]
  · rename_i t ho
    left
    simp only [Option.bind_eq_some_iff] at h
    obtain ⟨z, hz, k, hk, h⟩ := h
    cases hpl : (vcells z).all plainC with
    | false => simp [hpl] at h
    | true =>
      simp only [hpl, cond_true, Option.some.injEq, Prod.mk.injEq] at h
      obtain ⟨rfl, rfl⟩ := h
      have hzr : VRel ρ H.length z z := by
        cases z with
        | tuple vs => simp [vcells, plainC] at hpl
        | agg cs => exact ⟨cs, rfl, .plain (by simpa [vcells] using hpl)⟩
        | _ => exact VRel.plain (by simpa [vcells, plainV] using hpl)
      obtain ⟨ρ', w', g1, g2, g3, g4⟩ := newVar_sound hs (t := t) (es := k) hzr
      refine ⟨_, ρ', w', ?_, g2, g3, by simp, .inl ⟨_, _, rfl, rfl, by simpa using g4⟩⟩
      simp only [execOp, ho, Instr.alloc, Sem.run_bind, run_zeroValue hz, Result.andThen_ok, g1, Sem.run_pure]
  · rename_i t x ho
    left
    simp only [Option.bind_eq_some_iff] at h
    obtain ⟨vx, hx, k, hk, h⟩ := h
    have hnt : ∀ vs, vx ≠ .tuple vs := by rintro vs rfl; simp at h
    have h2 : some (some (.pointer (some ⟨H.length, 0, none⟩)), H ++ [some { cells := vcells vx, own := true, es := k }]) = some (r, H') := by
      cases vx <;> first | exact h | exact absurd rfl (hnt _)
    simp only [Option.some.injEq, Prod.mk.injEq] at h2
    obtain ⟨rfl, rfl⟩ := h2
    obtain ⟨ρ', w', g1, g2, g3, g4⟩ := newVar_sound hs (t := t) (es := k) ((evo_sound he hx).V hnt)
    refine ⟨_, ρ', w', ?_, g2, g3, by simp, .inl ⟨_, _, rfl, rfl, by simpa using g4⟩⟩
    simp only [execOp, ho, Instr.box, Sem.run_bind, Result.andThen_ok, g1, Sem.run_pure]
  · rename_i t x y ho
    left
    simp only [Option.bind_eq_some_iff, Option.map_eq_some_iff, Prod.mk.injEq] at h
    obtain ⟨vx, hx, vy, hy, H2, hst, rfl, rfl⟩ := h
    obtain ⟨w', g1, g2, g3⟩ := ast_sound hs hst (evo_sound he hx) (evo_sound he hy)
    refine ⟨.skip, ρ, w', ?_, fun _ _ => rfl, g2, by omega, .inr ⟨rfl, rfl⟩⟩
    simp only [execOp, ho, Sem.run_bind, g1, Result.andThen_ok, Sem.run_pure]
  · rename_i t len parts ho
    left
    split at h
    · rename_i el hu
      simp only [Option.bind_eq_some_iff] at h
      obtain ⟨sz, hsz, z, hz, ps, hps, cs, hcs, h⟩ := h
      split at h
      · rename_i hc
        obtain ⟨c1, c2, c3, c4⟩ := hc
        simp only [Option.some.injEq, Prod.mk.injEq] at h
        obtain ⟨rfl, rfl⟩ := h
        obtain ⟨p1, p2⟩ := parts_sound he hps
        have hz0 : LRel (CRel ρ H.length) (zerosN (vcells z) len) ((Array.range (len * sz)).map ((if len * sz = 0 then #[] else z.cells)[· % (if len * sz = 0 then #[] else z.cells).size]!)).toList := by
          refine ⟨by simp [zerosN_length, c3], fun j v hj => ?_⟩
          have hne : len * sz ≠ 0 := by
            have := (List.getElem?_eq_some_iff.1 hj).1
            rw [zerosN_length, c3] at this; omega
          simp only [hne, if_false]
          obtain ⟨v', a1, a2⟩ := zerosN_rel (ρ := ρ) (n := H.length) c3 c2 c4 len j v hj
          exact ⟨v', by rw [Array.getElem?_toList]; exact a1, a2⟩
        obtain ⟨cs', f1, f2⟩ := fill_sound _ _ _ _ _ _ hcs hz0 p1 p2
        have hrun := run_buildSlice (w := w) hu hsz hz c1 f1
        obtain ⟨a1, a2⟩ := f2.ahead (z := #[])
        have hsim := hs.alloc (es := sz) (t := el) (l := cs) (cs := cs') (by simpa using a1) (by simpa using a2)
        refine ⟨_, _, _, ?_, upd_lt, hsim, by simp, .inl ⟨_, .slice (some ⟨w.heap.size, 0, none⟩) len len, rfl, rfl, ?_⟩⟩
        · simp only [execOp, ho, Sem.run_bind, hrun, Result.andThen_ok, Sem.run_pure]
        · simp only [TRel, VRel, CRel]
          refine ⟨fun _ => by simp, _, _, rfl, ?_⟩
          have hlt : len < capU := by
            have : len ≤ len * sz := Nat.le_mul_of_pos_right _ c2
            unfold capU; omega
          simp only [capRel, if_neg (by omega : ¬ len = capU)]
          exact ⟨by simp [locA, upd_same], trivial, hlt⟩
      · cases h
    · cases h
  · rename_i t l c ho
    left
    split at h
    · rename_i el hu
      simp only [Option.bind_eq_some_iff] at h
      obtain ⟨sz, hsz, by_, hby, z, hz, li, ⟨lv, hlv, hli⟩, ci, ⟨cv, hcv, hci⟩, h⟩ := h
      split at h
      · rename_i hcnd
        obtain ⟨c1, c2, c3, c4, c5, c6, c7⟩ := hcnd
        simp only [Option.some.injEq, Prod.mk.injEq] at h
        obtain ⟨rfl, rfl⟩ := h
        obtain ⟨kl, el1⟩ := aint_sound hli (evo_sound he hlv)
        obtain ⟨kc, ec1⟩ := aint_sound hci (evo_sound he hcv)
        have hrun := run_makeSlice (w := w) (kl := kl) (kc := kc) hu hsz hby hz c1 c2 c3 c4
        have hsim := hs.alloc (es := sz) (t := el) (l := zerosN (vcells z) ci.toNat) (cs := (Array.range (ci.toNat * sz)).map (z.cells[· % z.cells.size]!)) (by simp [zerosN_length, c6]) (zerosN_rel c6 c5 c7 ci.toNat)
        refine ⟨_, _, _, ?_, upd_lt, hsim, by simp, .inl ⟨_, .slice (some ⟨w.heap.size, 0, none⟩) li.toNat ci.toNat, rfl, rfl, ?_⟩⟩
        · simp only [execOp, ho, Sem.run_bind, el1, ec1, hrun, Result.andThen_ok, Sem.run_pure]
        · simp only [TRel, VRel, CRel]
          refine ⟨fun _ => by simp, _, _, rfl, ?_⟩
          have hlt : ci.toNat < capU := by unfold capU; omega
          simp only [capRel, if_neg (by omega : ¬ ci.toNat = capU)]
          exact ⟨by simp [locA, upd_same], trivial, hlt⟩
      · cases h
    · cases h
  · rename_i c ho
    split at h
    · rename_i hcl
      left
      split at h
      · rename_i t t2 s x hts hxs
        split at h
        · rename_i e2 hu2
          simp only [Option.bind_eq_some_iff, Option.map_eq_some_iff, Prod.mk.injEq, Prod.exists] at h
          obtain ⟨vs, hvs, vx, hvx, v, H2, hap, rfl, rfl⟩ := h
          have e1 : c.args.map a.eval = #[a.eval s, a.eval x] := by apply Array.ext'; simp [hxs]
          obtain ⟨ρ', w', v', g1, g2, g3, g4, g5⟩ := aappend_sound hs hap (evo_sound he hvs) (evo_sound he hvx) c.argTypes o.type (by rw [← Array.getElem?_toList, hts]; rfl) (by rw [← Array.getElem?_toList, hts]; rfl) hu2 (.inl ⟨e2, rfl⟩)
          refine ⟨.value v', ρ', w', ?_, g2, g3, g4, .inl ⟨v, v', rfl, rfl, g5⟩⟩
          rw [execOp_builtin ho hcl, e1]
          simp only [builtin, Sem.run_bind, g1, Result.andThen_ok, Sem.run_pure]
        · rename_i hu2
          simp only [Option.bind_eq_some_iff, Option.map_eq_some_iff, Prod.mk.injEq, Prod.exists] at h
          obtain ⟨vs, hvs, vx, hvx, v, H2, hap, rfl, rfl⟩ := h
          have e1 : c.args.map a.eval = #[a.eval s, a.eval x] := by apply Array.ext'; simp [hxs]
          obtain ⟨ρ', w', v', g1, g2, g3, g4, g5⟩ := aappend_sound hs hap (evo_sound he hvs) (evo_sound he hvx) c.argTypes o.type (by rw [← Array.getElem?_toList, hts]; rfl) (by rw [← Array.getElem?_toList, hts]; rfl) hu2 (.inr rfl)
          refine ⟨.value v', ρ', w', ?_, g2, g3, g4, .inl ⟨v, v', rfl, rfl, g5⟩⟩
          rw [execOp_builtin ho hcl, e1]
          simp only [builtin, Sem.run_bind, g1, Result.andThen_ok, Sem.run_pure]
        · rename_i kd hu2
          simp only [Option.bind_eq_some_iff, Option.map_eq_some_iff, Prod.mk.injEq, Prod.exists] at h
          obtain ⟨vs, hvs, n, ⟨vx, hvx, hn⟩, v, H2, hap, rfl, rfl⟩ := h
          have e1 : c.args.map a.eval = #[a.eval s, a.eval x] := by apply Array.ext'; simp [hxs]
          obtain ⟨kx, ex⟩ := aint_sound hn (evo_sound he hvx)
          obtain ⟨ρ', w', v', g1, g2, g3, g4, g5⟩ := aappendZ_sound hs hap (evo_sound he hvs) ex c.argTypes o.type (by rw [← Array.getElem?_toList, hts]; rfl) (by rw [← Array.getElem?_toList, hts]; rfl) hu2
          refine ⟨.value v', ρ', w', ?_, g2, g3, g4, .inl ⟨v, v', rfl, rfl, g5⟩⟩
          rw [execOp_builtin ho hcl, e1]
          simp only [builtin, Sem.run_bind, g1, Result.andThen_ok, Sem.run_pure]
        · cases h
      · cases h
    · rename_i hcl
      left
      split at h
      · rename_i t ts s x hts hxs
        simp only [Option.bind_eq_some_iff, Option.map_eq_some_iff, Prod.mk.injEq, Prod.exists] at h
        obtain ⟨vs, hvs, vx, hvx, v, H2, hap, rfl, rfl⟩ := h
        have e1 : c.args.map a.eval = #[a.eval s, a.eval x] := by apply Array.ext'; simp [hxs]
        obtain ⟨w', g1, g2, g3, g4⟩ := acopy_sound hs hap (evo_sound he hvs) (evo_sound he hvx) c.argTypes o.type (by rw [← Array.getElem?_toList, hts]; rfl)
        refine ⟨.value v, ρ, w', ?_, fun _ _ => rfl, g2, by omega, .inl ⟨v, v, rfl, rfl, g4⟩⟩
        rw [execOp_builtin ho hcl, e1]
        simp only [builtin, Sem.run_bind, g1, Result.andThen_ok, Sem.run_pure]
      · cases h
    · rename_i f hcl
      right
      simp only [Option.bind_eq_some_iff, Option.map_eq_some_iff, Prod.mk.injEq, Prod.exists] at h
      obtain ⟨l, hl, v, H2, hcall, rfl, rfl⟩ := h
      refine ⟨f, l, c.args.toList.map a.eval, v, hcall, rfl, evArgs_sound he _ _ hl, ?_⟩
      rw [execOp_func ho hcl (f := f) rfl]
      congr 1
      apply Array.ext'; simp
    · cases h
  · cases h
theorem aop_sound {hc : HOrc} (horc : OrcOK X) (hhc : HOK X hc) (hs : Sim X C ρ H w) (he : ERel ρ H.length e a.tmps) {o : Oper} {r : Option Value} {H' : Heap} (h : aop X hc e H o.op = some (r, H'))
    {K : Act → World → Prop} {Q : Exit → Act → World → Prop} (hK : ∀ ρ' w' x, (∀ i, i < H.length → ρ' i = ρ i) → H.length ≤ H'.length → Sim X C ρ' H' w' → (∀ v, r = some v → TRel ρ' H'.length v x) → K (a.put o.dst x) w') :
    o.wp X.P a w K Q := by
  unfold aop at h
  cases hp : isPure X.pf o.op with
  | true =>
    simp only [hp, cond_true, Option.map_eq_some_iff, Prod.mk.injEq] at h
    obtain ⟨v, hv, rfl, rfl⟩ := h
    rcases pv_sound (w := w) he hv with ⟨v', g1, g2⟩ | ⟨f, l, l', g1, g2, g3⟩
    · unfold Oper.wp
      rw [g1]
      exact hK ρ w v' (fun _ _ => rfl) (Nat.le_refl _) hs (fun u hu => by cases hu; exact g2)
    · obtain ⟨c1, c2, ⟨⟨fn, c3, c4, c5⟩, c6⟩ | c6⟩ := horc f l v g1
      · have el : l' = l := LRel.eq_of (fun u hu u' r => TRel.plain_eq (List.all_eq_true.1 c1 u hu) r) g2
        unfold Oper.wp
        rw [g3, run_callFunc c3 c4 c5, el]
        refine (c6 w hs.globOK).mono fun en w' ⟨e1, e2⟩ => ?_
        subst e1
        exact hK ρ w' v (fun _ _ => rfl) (Nat.le_refl _) (hs.below e2) (fun u hu => by cases hu; exact .plain c2)
      · have el : l' = l := LRel.eq_of (fun u hu u' r => TRel.plain_eq (List.all_eq_true.1 c1 u hu) r) g2
        unfold Oper.wp
        rw [g3, el, c6 w]
        exact hK ρ w v (fun _ _ => rfl) (Nat.le_refl _) hs (fun u hu => by cases hu; exact .plain c2)
  | false =>
    simp only [hp, cond_false] at h
    rcases av_sound hs he h with ⟨nx, ρ', w', g1, g2, g3, g4, g5⟩ | ⟨f, l, l', v, g1, g2, g3, g4⟩
    · unfold Oper.wp
      rw [g1]
      rcases g5 with ⟨v, v', rfl, rfl, g6⟩ | ⟨rfl, rfl⟩
      · exact hK ρ' w' v' g2 g4 g3 (fun u hu => by cases hu; exact g6)
      · exact hK ρ' w' undef g2 g4 g3 (fun u hu => by cases hu)
    · obtain ⟨⟨fn, c3, c4, c5⟩, c6⟩ := hhc f l H v H' g1
      unfold Oper.wp
      rw [g4, run_callFunc c3 c4 c5]
      refine (c6 C ρ w l' g3 hs).mono fun en w' ⟨v', ρ', e1, e2, e3, e4, e5⟩ => ?_
      subst e1
      exact hK ρ' w' v' e3 e4 e5 (fun u hu => by rw [g2] at hu; cases hu; exact e2)
end
end Go.Ab
namespace Go.Ab
section
variable {X : Cx} {hc : HOrc} {ops : Array Oper} {N : Nat} {e e' : Env} {H : Heap}
theorem evParts_congr : ∀ (ps : List (Nat × Operand)), (∀ x ∈ ps.map (·.2), evo e x = evo e' x) → evParts e ps = evParts e' ps := by
  intro ps
  induction ps with
  | nil => intro _; rfl
  | cons p ps ih =>
    intro h
    obtain ⟨i, x⟩ := p
    simp only [evParts, h x (by simp), ih (fun y hy => h y (by simp at hy ⊢; exact .inr hy))]
theorem evArgs_congr : ∀ (xs : List Operand), (∀ x ∈ xs, evo e x = evo e' x) → evArgs e xs = evArgs e' xs := by
  intro xs
  induction xs with
  | nil => intro _; rfl
  | cons x xs ih =>
    intro h
    simp only [evArgs, h x (by simp), ih (fun y hy => h y (by simp [hy]))]
theorem pv_congr {op : Op} (h : ∀ x ∈ op.operands, evo e x = evo e' x) : pv X e op = pv X e' op := by
  cases op <;> simp only [Op.operands] at h <;> simp only [pv]
  case build t ps => rw [evParts_congr ps.toList fun x hx => h x (by simpa using hx)]
  case slice t x lo hi mx => cases lo <;> cases hi <;> cases mx <;> simp_all
  case call c =>
    cases hc : c.callee with
    | builtin b =>
      have ha : ∀ x ∈ c.args.toList, evo e x = evo e' x := fun x hx => h x (by simp [Call.operands, hc]; simpa using hx)
      cases b <;> simp only
      case len =>
        split
        · rename_i t x h1 h2; rw [ha x (by rw [h2]; simp)]
        · rfl
      case min => rw [evArgs_congr _ ha]
      case max => rw [evArgs_congr _ ha]
    | value f =>
      simp only
      have ha : ∀ x ∈ c.args.toList, evo e x = evo e' x := fun x hx => h x (by simp [Call.operands, hc]; right; simpa using hx)
      have hf : evo e f = evo e' f := h f (by simp [Call.operands, hc])
      rw [evArgs_congr _ ha]
      simp only [target, hf]
    | invoke _ _ => rfl
  case makeFunc fn fs cs =>
    have ha : ∀ x ∈ cs.toList, evo e x = evo e' x := fun x hx => h x (by simp; right; simpa using hx)
    cases fn with
    | func f =>
      obtain ⟨fs⟩ := fs
      cases fs with
      | nil => simp only [evArgs_congr _ ha]
      | cons a b => rfl
    | _ => rfl
  all_goals (first | rfl | (simp_all; done))
theorem av_congr {op : Op} (h : ∀ x ∈ op.operands, evo e x = evo e' x) : av X hc e H op = av X hc e' H op := by
  cases op <;> simp only [Op.operands] at h <;> simp only [av]
  case buildSlice t n ps => simp only [evParts_congr ps.toList fun x hx => h x (by simpa using hx)]
  case call c =>
    cases hcl : c.callee with
    | builtin b =>
      have ha : ∀ x ∈ c.args.toList, evo e x = evo e' x := fun x hx => h x (by simp [Call.operands, hcl]; simpa using hx)
      cases b <;> simp only
      case append =>
        split
        · rename_i t t2 s x h1 h2
          rw [ha s (by rw [h2]; simp), ha x (by rw [h2]; simp)]
        · rfl
      case copy =>
        split
        · rename_i t ts s x h1 h2
          rw [ha s (by rw [h2]; simp), ha x (by rw [h2]; simp)]
        · rfl
    | value f =>
      cases f <;> simp only
      have ha : ∀ x ∈ c.args.toList, evo e x = evo e' x := fun x hx => h x (by simp [Call.operands, hcl]; right; simpa using hx)
      rw [evArgs_congr _ ha]
    | invoke _ _ => rfl
  all_goals (first | rfl | (simp_all; done))
theorem evo_putS {d : Option Tmp} {v : Option Value} {x : Operand} (h : ∀ t, d = some t → x ≠ .tmp t) : evo (putS e d v) x = evo e x := by
  cases d with
  | none => rfl
  | some t =>
    cases x with
    | tmp k =>
      have hne : k ≠ t := fun he => h t rfl (he ▸ rfl)
      have : Nat.beq k t = false := by cases hb : Nat.beq k t with | false => rfl | true => exact absurd (Nat.eq_of_beq_eq_true hb) hne
      simp [evo, putS, Env.set, this]
    | _ => rfl
theorem act1_congr {o : Oper} {d : Option Tmp} {v : Option Value} (h : ∀ t, d = some t → t ∉ o.looksAt ops) : act1 X hc ops N (putS e d v) H o = act1 X hc ops N e H o := by
  have hop : ∀ x ∈ o.op.operands, evo (putS e d v) x = evo e x := fun x hx => evo_putS fun t ht hxt => h t ht (by
    subst hxt
    exact List.mem_append_left _ (List.mem_filterMap.2 ⟨.tmp t, by simpa using hx, rfl⟩))
  have hw : awanted (putS e d v) ops o = awanted e ops o := by
    unfold awanted
    cases hg : o.guard with
    | none => rfl
    | some gw =>
      obtain ⟨g, want⟩ := gw
      simp only
      cases ht : (ops[g]?).bind (·.dst) with
      | none => rfl
      | some t =>
        simp only
        have : putS e d v t = e t := by
          have := evo_putS (e := e) (d := d) (v := v) (x := .tmp t) (fun t' ht' he => h t' ht' (by cases he; simp [Oper.looksAt, hg, ht]))
          simpa [evo] using this
        rw [this]
  unfold act1 aop
  rw [hw, pv_congr hop, av_congr hop]
theorem putS_comm {d d' : Option Tmp} {v v' : Option Value} (h : ∀ t, d = some t → d' ≠ some t) : putS (putS e d v) d' v' = putS (putS e d' v') d v := by
  cases d with
  | none => rfl
  | some t =>
    cases d' with
    | none => rfl
    | some t' =>
      have hne : t' ≠ t := fun he => h t rfl (he ▸ rfl)
      funext k
      simp only [putS, Env.set]
      by_cases h1 : k = t <;> by_cases h2 : k = t'
      · exact absurd (h2.symm.trans h1) hne
      · have : Nat.beq k t' = false := by cases hb : Nat.beq k t' with | false => rfl | true => exact absurd (Nat.eq_of_beq_eq_true hb) h2
        simp [this]
      · have : Nat.beq k t = false := by cases hb : Nat.beq k t with | false => rfl | true => exact absurd (Nat.eq_of_beq_eq_true hb) h1
        simp [this]
      · have a1 : Nat.beq k t = false := by cases hb : Nat.beq k t with | false => rfl | true => exact absurd (Nat.eq_of_beq_eq_true hb) h1
        have a2 : Nat.beq k t' = false := by cases hb : Nat.beq k t' with | false => rfl | true => exact absurd (Nat.eq_of_beq_eq_true hb) h2
        simp [a1, a2]
theorem act1_pure {o : Oper} (hp : isPure X.pf o.op = true) {v : Option Value} {H' : Heap} (h : act1 X hc ops N e H o = some (v, H')) : H' = H ∧ ∀ H2, act1 X hc ops N e H2 o = some (v, H2) := by
  unfold act1 aop at *
  cases hf : fitsN N o.dst <;> simp only [hf, cond_true, cond_false] at h ⊢
  · cases h
  · cases hw : awanted e ops o with
    | none => simp [hw] at h
    | some b =>
      cases b with
      | false => simp only [hw, Option.some.injEq, Prod.mk.injEq] at h ⊢; obtain ⟨rfl, rfl⟩ := h; exact ⟨rfl, fun _ => by simp⟩
      | true =>
        simp only [hw, hp, cond_true, Option.map_eq_some_iff, Prod.mk.injEq] at h ⊢
        obtain ⟨u, hu, rfl, rfl⟩ := h
        exact ⟨rfl, fun H2 => ⟨u, hu, by simp⟩⟩
theorem isRead_load {op : Op} (h : isRead op = true) : ∃ t a, op = .load t a := by
  cases op <;> simp [isRead] at h
  exact ⟨_, _, rfl⟩
theorem cellsAt_snoc {a : Addr} {cs : List Value} {b : Option Blk} (h : cellsAt X H a = some cs) : cellsAt X (H ++ [b]) a = some cs := by
  unfold cellsAt at *
  split
  · rename_i hs
    simp only [hs] at h
    simp only [blkAt, Option.map_eq_some_iff, Option.bind_eq_some_iff] at h ⊢
    obtain ⟨x, ⟨y, h1, h2⟩, h3⟩ := h
    have hlt : a.block < H.length := (List.getElem?_eq_some_iff.1 h1).1
    exact ⟨x, ⟨y, by rw [List.getElem?_append_left hlt]; exact h1, h2⟩, h3⟩
  · rename_i hs; simp only [hs] at h; exact h
theorem act1_read {o : Oper} (hr : isRead o.op = true) {v : Option Value} {H' : Heap} (h : act1 X hc ops N e H o = some (v, H')) : H' = H ∧ ∀ b, act1 X hc ops N e (H ++ [b]) o = some (v, H ++ [b]) := by
  obtain ⟨t, x, ho⟩ := isRead_load hr
  unfold act1 aop at *
  cases hf : fitsN N o.dst <;> simp only [hf, cond_true, cond_false] at h ⊢
  · cases h
  · cases hw : awanted e ops o with
    | none => simp [hw] at h
    | some b =>
      cases b with
      | false => simp only [hw, Option.some.injEq, Prod.mk.injEq] at h ⊢; obtain ⟨rfl, rfl⟩ := h; exact ⟨rfl, fun _ => by simp⟩
      | true =>
        have hp : isPure X.pf (.load t x) = false := rfl
        simp only [hw, ho, hp, cond_false, av, Option.bind_eq_some_iff, Option.map_eq_some_iff, Prod.mk.injEq] at h ⊢
        obtain ⟨vx, hx, u, hu, rfl, rfl⟩ := h
        refine ⟨rfl, fun b => ⟨vx, hx, u, ?_, by simp⟩⟩
        unfold ald at hu ⊢
        split
        · rename_i p
          simp only [Option.bind_eq_some_iff] at hu ⊢
          obtain ⟨cs, h1, h2⟩ := hu
          exact ⟨cs, cellsAt_snoc h1, h2⟩
        · simp at hu
theorem act1_grow {o : Oper} (hg : isGrow o.op = true) {v : Option Value} {H' : Heap} (h : act1 X hc ops N e H o = some (v, H')) : H' = H ∨ ∃ b, H' = H ++ [b] := by
  unfold act1 at h
  cases hf : fitsN N o.dst <;> simp only [hf, cond_true, cond_false] at h
  · cases h
  · cases hw : awanted e ops o with
    | none => simp [hw] at h
    | some b =>
      cases b with
      | false => simp only [hw, Option.some.injEq, Prod.mk.injEq] at h; exact .inl h.2.symm
      | true =>
        simp only [hw] at h
        right
        cases hop : o.op <;> simp only [hop, isGrow] at hg h <;> try (cases hg; done)
        · rename_i t
          have hp : isPure X.pf (.alloc t) = false := rfl
          simp only [aop, hp, cond_false, av, Option.bind_eq_some_iff] at h
          obtain ⟨z, _, k, _, h⟩ := h
          cases hpl : (vcells z).all plainC <;> simp only [hpl, cond_true, cond_false] at h
          · cases h
          · simp only [Option.some.injEq, Prod.mk.injEq] at h; exact ⟨_, h.2.symm⟩
        · rename_i t x
          have hp : isPure X.pf (.box t x) = false := rfl
          simp only [aop, hp, cond_false, av, Option.bind_eq_some_iff] at h
          obtain ⟨vx, _, k, _, h⟩ := h
          cases vx <;> simp only [Option.some.injEq, Prod.mk.injEq] at h <;> first | (cases h; done) | exact ⟨_, h.2.symm⟩
theorem run1_swap {x y : Oper} (hm : mayPass X.pf ops x y = true) {s s1 s2 : St} (h1 : run1 X hc ops N s x = some s1) (h2 : run1 X hc ops N s1 y = some s2) :
    ∃ s1', run1 X hc ops N s y = some s1' ∧ run1 X hc ops N s1' x = some s2 := by
  unfold mayPass at hm
  simp only [Bool.and_eq_true, Bool.or_eq_true] at hm
  obtain ⟨hap, hcl⟩ := hm
  obtain ⟨p1, p2, p3⟩ := Oper.apart_spec hap
  unfold run1 at h1 h2 ⊢
  simp only [Option.map_eq_some_iff, Prod.exists] at h1 h2 ⊢
  obtain ⟨vx, Hx, a1, rfl⟩ := h1
  obtain ⟨vy, Hy, a2, rfl⟩ := h2
  simp only at a2 ⊢
  rw [act1_congr p1] at a2
  have fin : ∀ Hm, act1 X hc ops N s.env s.heap y = some (vy, Hm) → act1 X hc ops N s.env Hm x = some (vx, Hy) →
      ∃ s1', (∃ a b, act1 X hc ops N s.env s.heap y = some (a, b) ∧ St.mk (putS s.env y.dst a) b = s1') ∧ ∃ a b, act1 X hc ops N s1'.env s1'.heap x = some (a, b) ∧ St.mk (putS s1'.env x.dst a) b = ⟨putS (putS s.env x.dst vx) y.dst vy, Hy⟩ := by
    intro Hm g1 g2
    refine ⟨_, ⟨vy, Hm, g1, rfl⟩, vx, Hy, ?_, ?_⟩
    · simp only; rw [act1_congr p3]; exact g2
    · simp only; rw [putS_comm p2]
  rcases hcl with (hpx | hpy) | ⟨hrx, hry | hgy⟩
  · obtain ⟨rfl, ax⟩ := act1_pure hpx a1
    exact fin Hy a2 (ax Hy)
  · obtain ⟨rfl, ay⟩ := act1_pure hpy a2
    exact fin s.heap (ay s.heap) a1
  · obtain ⟨rfl, _⟩ := act1_read hrx a1
    obtain ⟨rfl, _⟩ := act1_read hry a2
    exact fin _ a2 a1
  · obtain ⟨rfl, ax⟩ := act1_read hrx a1
    rcases act1_grow hgy a2 with rfl | ⟨b, rfl⟩
    · exact fin _ a2 a1
    · exact fin _ a2 (ax b)
end
end Go.Ab
namespace Go.Ab
structure SRel (X : Cx) (C : Ctx) (N : Nat) (ρ : Nat → Loc) (s : St) (a : Act) (w : World) : Prop where
  sim : Sim X C ρ s.heap w
  env : ERel ρ s.heap.length s.env a.tmps
  size : a.tmps.size = N
  defers : a.defers = []
def Then (X : Cx) (C : Ctx) (N : Nat) (ρ : Nat → Loc) (s : St) (s' : St) (a' : Act) (w' : World) : Prop :=
  ∃ ρ', (∀ i, i < s.heap.length → ρ' i = ρ i) ∧ s.heap.length ≤ s'.heap.length ∧ SRel X C N ρ' s' a' w'
section
variable {X : Cx} {C : Ctx} {hc : HOrc} {ops : Array Oper} {N : Nat} {ρ : Nat → Loc} {a : Act} {w : World}
theorem Then.trans {s s1 s2 : St} {a2 : Act} {w2 : World} {ρ1 : Nat → Loc} (h1 : ∀ i, i < s.heap.length → ρ1 i = ρ i) (h2 : s.heap.length ≤ s1.heap.length) (h : Then X C N ρ1 s1 s2 a2 w2) : Then X C N ρ s s2 a2 w2 := by
  obtain ⟨ρ2, g1, g2, g3⟩ := h
  exact ⟨ρ2, fun i hi => by rw [g1 i (by omega), h1 i hi], by omega, g3⟩
theorem awanted_sound {e : Env} {n : Nat} (he : ERel ρ n e a.tmps) {o : Oper} {b : Bool} (h : awanted e ops o = some b) : Region.wanted o (yielded ops a.tmps) = b := by
  unfold awanted at h
  unfold Region.wanted
  cases hg : o.guard with
  | none => simp only [hg, Option.some.injEq] at h; subst h; rfl
  | some gw =>
    obtain ⟨g, want⟩ := gw
    simp only [hg] at h ⊢
    cases ht : (ops[g]?).bind (·.dst) with
    | none => simp [ht] at h
    | some t =>
      simp only [ht] at h
      cases hv : e t with
      | none => simp [hv] at h
      | some v =>
        simp only [hv] at h
        split at h
        · rename_i b0 hb0
          cases hb0
          obtain ⟨v', h1, h2⟩ := he t _ hv
          have := TRel.bool h2; subst this
          simp only [Option.some.injEq] at h; subst h
          have hy : yielded ops a.tmps g = some b0 := by unfold yielded; simp [ht, h1]
          rw [hy]
          cases b0 <;> cases want <;> rfl
        · rename_i hb0
          cases hb0
          obtain ⟨v', h1, h2⟩ := he t _ hv
          obtain ⟨vs', rfl, _⟩ := h2
          simp only [Option.some.injEq] at h; subst h
          have hy : yielded ops a.tmps g = none := by unfold yielded; simp [ht, h1]
          rw [hy]; rfl
        · cases h
theorem wpOp_sound (horc : OrcOK X) (hhc : HOK X hc) {s s' : St} (hs : SRel X C N ρ s a w) {i : Nat} {o : Oper} (ho : ops[i]? = some o) (h : run1 X hc ops N s o = some s')
    {K : Act → World → Prop} {Q : Exit → Act → World → Prop} (hK : ∀ a' w', Then X C N ρ s s' a' w' → K a' w') : wpOp X.P ops Q i K a w := by
  unfold run1 at h
  simp only [Option.map_eq_some_iff, Prod.exists] at h
  obtain ⟨r, H', h, rfl⟩ := h
  unfold act1 at h
  cases hf : fitsN N o.dst <;> simp only [hf, cond_true, cond_false] at h
  · cases h
  · cases hw : awanted s.env ops o with
    | none => simp [hw] at h
    | some b =>
      have hw' := awanted_sound hs.env hw
      unfold wpOp
      simp only [ho]
      cases b with
      | false =>
        simp only [hw, Option.some.injEq, Prod.mk.injEq] at h
        obtain ⟨rfl, rfl⟩ := h
        rw [if_neg (by rw [hw']; decide)]
        exact hK _ _ ⟨ρ, fun _ _ => rfl, Nat.le_refl _, hs.sim, hs.env.put hs.size hf (fun u hu => by cases hu; exact ⟨#[], rfl, .nil⟩), by rw [put_size]; exact hs.size, by rw [put_defers]; exact hs.defers⟩
      | true =>
        simp only [hw] at h
        rw [if_pos hw']
        left
        refine aop_sound horc hhc hs.sim hs.env h (fun ρ' w' x g1 g2 g3 g4 => hK _ _ ⟨ρ', g1, g2, g3, ?_, by rw [put_size]; exact hs.size, by rw [put_defers]; exact hs.defers⟩)
        exact (hs.env.mono g1 g2).put hs.size hf g4
theorem wpOps_sound (horc : OrcOK X) (hhc : HOK X hc) {Q : Exit → Act → World → Prop} : ∀ (l : List Oper) (k : Nat) (s s' : St) (ρ : Nat → Loc) (a : Act) (w : World), (∀ j o, l[j]? = some o → ops[k + j]? = some o) → SRel X C N ρ s a w → runL X hc ops N l s = some s' →
    (∀ a' w', Then X C N ρ s s' a' w' → Q .normal a' w') → wpOps X.P ops Q (List.range' k l.length) a w := by
  intro l
  induction l with
  | nil =>
    intro k s s' ρ a w _ hs h hQ
    simp only [runL, Option.some.injEq] at h; subst h
    exact hQ _ _ ⟨ρ, fun _ _ => rfl, Nat.le_refl _, hs⟩
  | cons o l ih =>
    intro k s s' ρ a w hl hs h hQ
    simp only [runL, Option.bind_eq_some_iff] at h
    obtain ⟨s1, h1, h2⟩ := h
    simp only [List.length_cons, List.range'_succ]
    rw [wpOps_cons]
    refine wpOp_sound horc hhc hs (hl 0 o (by simp)) h1 (fun a1 w1 ⟨ρ1, g1, g2, g3⟩ => ?_)
    refine ih (k + 1) s1 s' ρ1 a1 w1 (fun j o' hj => by have := hl (j + 1) o' (by simpa using hj); rw [Nat.add_assoc, Nat.add_comm 1 j]; exact this) g3 h2 (fun a' w' ht => hQ _ _ (ht.trans g1 g2))
def runIx (X : Cx) (hc : HOrc) (ops : Array Oper) (N : Nat) : List Nat → St → Option St
  | [], s => some s
  | i :: r, s => (ops[i]?).bind fun o => (run1 X hc ops N s o).bind (runIx X hc ops N r)
theorem runIx_append (l m : List Nat) (s : St) : runIx X hc ops N (l ++ m) s = (runIx X hc ops N l s).bind (runIx X hc ops N m) := by
  induction l generalizing s with
  | nil => rfl
  | cons i l ih =>
    simp only [List.cons_append, runIx]
    cases ops[i]? with
    | none => rfl
    | some o =>
      simp only [Option.bind_some]
      cases run1 X hc ops N s o with
      | none => rfl
      | some s1 => simp only [Option.bind_some]; exact ih s1
theorem runIx_range (l : List Oper) (k : Nat) (hl : ∀ j o, l[j]? = some o → ops[k + j]? = some o) (s : St) : runIx X hc ops N (List.range' k l.length) s = runL X hc ops N l s := by
  induction l generalizing k s with
  | nil => rfl
  | cons o l ih =>
    simp only [List.length_cons, List.range'_succ, runIx, runL]
    rw [show ops[k]? = some o from hl 0 o (by simp)]
    simp only [Option.bind_some]
    congr 1
    funext s1
    exact ih (k + 1) (fun j o' hj => by have := hl (j + 1) o' (by simpa using hj); rw [Nat.add_assoc, Nat.add_comm 1 j]; exact this) s1
theorem runIx_bubble {i : Nat} {oi : Oper} (hi : ops[i]? = some oi) : ∀ (pre post : List Nat) (s sf : St), (∀ x ∈ pre, ∀ ox, ops[x]? = some ox → mayPass X.pf ops ox oi = true) → runIx X hc ops N (pre ++ i :: post) s = some sf → runIx X hc ops N (i :: (pre ++ post)) s = some sf := by
  intro pre
  induction pre with
  | nil => intro post s sf _ h; exact h
  | cons x pre ih =>
    intro post s sf hp h
    simp only [List.cons_append, runIx, Option.bind_eq_some_iff] at h
    obtain ⟨ox, hox, s1, h1, h2⟩ := h
    have h3 := ih post s1 sf (fun y hy => hp y (by simp [hy])) h2
    simp only [runIx, hi, Option.bind_some, Option.bind_eq_some_iff] at h3
    obtain ⟨s2, h4, h5⟩ := h3
    obtain ⟨s1', g1, g2⟩ := run1_swap (hp x (by simp) ox hox) h1 h4
    simp only [List.cons_append, runIx, hi, Option.bind_some, Option.bind_eq_some_iff]
    exact ⟨s1', g1, ox, hox, s2, g2, h5⟩
def rem (ops : Array Oper) (listed : Array Bool) : List Nat := (List.range ops.size).filter fun i => !listed.getD i true
theorem rem_set {listed : Array Bool} {i : Nat} (hsz : listed.size = ops.size) {pre post : List Nat} (h : rem ops listed = pre ++ i :: post) : rem ops (listed.setIfInBounds i true) = pre ++ post := by
  have hnd : (rem ops listed).Nodup := (List.Pairwise.filter _ List.pairwise_lt_range).imp Nat.ne_of_lt
  have e : rem ops (listed.setIfInBounds i true) = (rem ops listed).filter (fun j => j != i) := by
    unfold rem
    rw [List.filter_filter]
    apply List.filter_congr
    intro j hj
    have hj' : j < ops.size := by simpa using hj
    by_cases e : j = i
    · subst e; simp [hsz, hj']
    · rw [getD_set_ne true (fun h => e h.symm)]; simp [e]
  rw [e, h]
  rw [h] at hnd
  have h1 := (List.nodup_append.1 hnd)
  obtain ⟨n1, n2, n3⟩ := h1
  have hpre : pre.filter (fun j => j != i) = pre := List.filter_eq_self.2 fun j hj => by
    have := n3 j hj i (by simp); simpa using this
  have hpost : post.filter (fun j => j != i) = post := List.filter_eq_self.2 fun j hj => by
    have := (List.nodup_cons.1 n2).1
    simp only [bne_iff_ne]; rintro rfl; exact this hj
  simp [hpre, hpost]
def Closed (ops : Array Oper) (listed : Array Bool) : Prop := ∀ j o, ops[j]? = some o → listed.getD j true = true → ∀ e ∈ o.after, Region.binds .any e = true → listed.getD e.on false = true
theorem fold_bits (A : Array Nat) (i : Nat) : ∀ (l : List Edge) (s : Nat), (l.foldl (fun s e => if Region.binds .any e then s ||| 2 ^ e.on ||| A.getD e.on 0 else s) s).testBit i = true →
    s.testBit i = true ∨ ∃ e ∈ l, Region.binds .any e = true ∧ (e.on = i ∨ (A.getD e.on 0).testBit i = true) := by
  intro l
  induction l with
  | nil => intro s h; exact .inl h
  | cons e l ih =>
    intro s h
    simp only [List.foldl_cons] at h
    rcases ih _ h with h | ⟨e', h1, h2⟩
    · by_cases hb : Region.binds .any e = true
      · rw [if_pos hb] at h
        simp only [Nat.testBit_or, Bool.or_eq_true] at h
        rcases h with (h | h) | h
        · exact .inl h
        · right
          refine ⟨e, by simp, hb, .inl ?_⟩
          rw [Nat.testBit_two_pow] at h
          simpa using h
        · exact .inr ⟨e, by simp, hb, .inr h⟩
      · rw [if_neg hb] at h; exact .inl h
    · exact .inr ⟨e', by simp [h1], h2⟩
def BInv (pre : List Oper) (A : Array Nat) : Prop :=
  A.size = pre.length ∧ ∀ j o, pre[j]? = some o → ∀ i, (A.getD j 0).testBit i = true → ∃ e ∈ o.after, Region.binds .any e = true ∧ (e.on = i ∨ (e.on < j ∧ (A.getD e.on 0).testBit i = true))
theorem binv_fold : ∀ (l pre : List Oper) (A : Array Nat), BInv pre A → BInv (pre ++ l) (l.foldl (fun acc (o : Oper) => acc.push (o.after.foldl (fun s e => if Region.binds .any e then s ||| 2 ^ e.on ||| acc.getD e.on 0 else s) 0)) A) := by
  intro l
  induction l with
  | nil => intro pre A h; simpa using h
  | cons o l ih =>
    intro pre A h
    obtain ⟨h1, h2⟩ := h
    simp only [List.foldl_cons]
    have := ih (pre ++ [o]) (A.push (o.after.foldl (fun s e => if Region.binds .any e then s ||| 2 ^ e.on ||| A.getD e.on 0 else s) 0)) ?_
    · simpa using this
    · refine ⟨by simp [h1], fun j o' hj i hb => ?_⟩
      rcases getElem?_snoc _ _ _ _ hj with ⟨hj1, hj2⟩ | ⟨rfl, rfl⟩
      · have e1 : ∀ m, m < pre.length → ∀ x, (A.push x).getD m 0 = A.getD m 0 := by
          intro m hm x
          have hm' : m < A.size := by omega
          simp [Array.getElem?_push_lt hm', hm']
        rw [e1 j hj1] at hb
        obtain ⟨e, g1, g2, g3⟩ := h2 j o' hj2 i hb
        refine ⟨e, g1, g2, g3.imp id (fun ⟨a, b⟩ => ⟨a, ?_⟩)⟩
        rw [e1 _ (by omega)]; exact b
      · have e2 : ∀ x, (A.push x).getD pre.length 0 = x := by intro x; rw [← h1]; simp
        rw [e2, ← Array.foldl_toList] at hb
        rcases fold_bits A i _ _ hb with h | ⟨e, g1, g2, g3⟩
        · simp at h
        · refine ⟨e, by simpa using g1, g2, g3.imp id (fun b => ?_)⟩
          have hlt : e.on < A.size := by
            rcases Nat.lt_or_ge e.on A.size with h | h
            · exact h
            · have : A.getD e.on 0 = 0 := by simp [Array.getElem?_eq_none h]
              rw [this] at b; simp at b
          refine ⟨by omega, ?_⟩
          have : ∀ x, (A.push x).getD e.on 0 = A.getD e.on 0 := by intro x; simp [Array.getElem?_push_lt hlt, hlt]
          rw [this]; exact b
theorem before_inv (ops : Array Oper) : BInv ops.toList (Region.before ops) := by
  have := binv_fold ops.toList [] #[] ⟨rfl, by simp⟩
  unfold Region.before
  rw [← Array.foldl_toList]
  simpa using this
theorem before_listed {listed : Array Bool} (hcl : Closed ops listed) : ∀ (j : Nat) (o : Oper), ops[j]? = some o → (∀ e ∈ o.after, Region.binds .any e = true → listed.getD e.on false = true) →
    ∀ i, ((Region.before ops).getD j 0).testBit i = true → listed.getD i false = true := by
  intro j
  induction j using Nat.strongRecOn with
  | _ j ih =>
    intro o ho hall i hb
    obtain ⟨e, g1, g2, g3⟩ := (before_inv ops).2 j o (by simpa using ho) i hb
    rcases g3 with rfl | ⟨hlt, g4⟩
    · exact hall e g1 g2
    · have hl := hall e g1 g2
      have hsz : e.on < ops.size := by have := (Array.getElem?_eq_some_iff.1 ho).1; omega
      refine ih e.on hlt ops[e.on] (by simp [hsz]) ?_ i g4
      refine hcl e.on ops[e.on] (by simp [hsz]) ?_
      cases hx : listed[e.on]? with
      | none => simp [hx] at hl
      | some b => simp [hx] at hl ⊢; exact hl
theorem orderOk_spec (h : orderOk X.pf ops = true) : (∀ j o, ops[j]? = some o → ∀ e ∈ o.after, Region.binds .any e = true → e.on < j) ∧
    ∀ i j x y, i < j → ops[i]? = some x → ops[j]? = some y → ((Region.before ops).getD j 0).testBit i = true ∨ mayPass X.pf ops x y = true := by
  unfold orderOk at h
  simp only [List.all_eq_true, Bool.and_eq_true, Prod.forall] at h
  have mem : ∀ j o, ops[j]? = some o → (o, j) ∈ ops.toList.zipIdx := by
    intro j o ho
    rw [List.mk_mem_zipIdx_iff_getElem?]; simpa using ho
  refine ⟨fun j o ho e he hb => ?_, fun i j x y hij hx hy => ?_⟩
  · have := (h o j (mem j o ho)).1 e (by simpa using he)
    simp only [hb, Bool.not_true, Bool.false_or, Nat.blt_eq] at this
    exact this
  · have := (h y j (mem j y hy)).2 x i (mem i x hx)
    simp only [Bool.or_eq_true, Bool.not_eq_true'] at this
    rcases this with (h1 | h1) | h1
    · exfalso
      have : Nat.blt i j = true := by simpa using hij
      rw [this] at h1; cases h1
    · exact .inl h1
    · exact .inr h1
theorem mem_rem {listed : Array Bool} {i : Nat} : i ∈ rem ops listed ↔ i < ops.size ∧ listed.getD i true = false := by
  simp [rem]
theorem ready_rem {listed : Array Bool} {i : Nat} (h : i ∈ Region.ready .any ops listed) : i ∈ rem ops listed := by
  obtain ⟨h1, o, h2, _⟩ := mem_ready.1 h
  exact mem_rem.2 ⟨(Array.getElem?_eq_some_iff.1 h2).1, h1⟩
theorem getD_flip {listed : Array Bool} {i : Nat} (hi : i < listed.size) (b c : Bool) : listed.getD i b = listed.getD i c := by simp [hi]
theorem wpAny_run (horc : OrcOK X) (hhc : HOK X hc) (hord : orderOk X.pf ops = true) {Q : Exit → Act → World → Prop} : ∀ (fuel : Nat) (listed : Array Bool) (s sf : St) (ρ : Nat → Loc) (a : Act) (w : World), listed.size = ops.size → Closed ops listed →
    (rem ops listed).length ≤ fuel → SRel X C N ρ s a w → runIx X hc ops N (rem ops listed) s = some sf → (∀ a' w', Then X C N ρ s sf a' w' → Q .normal a' w') → wpAny X.P .any ops Q fuel listed a w := by
  obtain ⟨hfwd, hpass⟩ := orderOk_spec hord
  have hready : ∀ (listed : Array Bool), listed.size = ops.size → Region.ready .any ops listed = [] → rem ops listed = [] := by
    intro listed hsz hr
    cases hrem : rem ops listed with
    | nil => rfl
    | cons i r =>
      exfalso
      have hi : i ∈ rem ops listed := by rw [hrem]; simp
      obtain ⟨h1, h2⟩ := mem_rem.1 hi
      have : i ∈ Region.ready .any ops listed := by
        refine mem_ready.2 ⟨h2, ops[i], by simp [h1], fun e he hb => ?_⟩
        have hlt := hfwd i ops[i] (by simp [h1]) e he hb
        cases hl : listed.getD e.on false with
        | true => rfl
        | false =>
          exfalso
          have hm : e.on ∈ rem ops listed := mem_rem.2 ⟨by omega, by rw [getD_flip (by omega) true false]; exact hl⟩
          have hs : (rem ops listed).Pairwise (· < ·) := List.Pairwise.filter _ List.pairwise_lt_range
          rw [hrem] at hm hs
          rcases List.mem_cons.1 hm with e1 | e1
          · omega
          · have := (List.pairwise_cons.1 hs).1 _ e1; omega
      rw [hr] at this; cases this
  intro fuel
  induction fuel with
  | zero =>
    intro listed s sf ρ a w hsz hcl hlen hs h hQ
    have h0 : rem ops listed = [] := List.length_eq_zero_iff.1 (by omega)
    have hr : Region.ready .any ops listed = [] := by
      cases hr : Region.ready .any ops listed with
      | nil => rfl
      | cons i r => have := ready_rem (show i ∈ Region.ready .any ops listed by rw [hr]; simp); rw [h0] at this; cases this
    rw [h0] at h
    simp only [runIx, Option.some.injEq] at h; subst h
    exact ⟨hr, hQ _ _ ⟨ρ, fun _ _ => rfl, Nat.le_refl _, hs⟩⟩
  | succ fuel ih =>
    intro listed s sf ρ a w hsz hcl hlen hs h hQ
    refine ⟨fun hr => ?_, fun i hi => ?_⟩
    · rw [hready listed hsz hr] at h
      simp only [runIx, Option.some.injEq] at h; subst h
      exact hQ _ _ ⟨ρ, fun _ _ => rfl, Nat.le_refl _, hs⟩
    · obtain ⟨h1, oi, h2, h3⟩ := mem_ready.1 hi
      obtain ⟨pre, post, hpp⟩ := List.append_of_mem (ready_rem hi)
      have hsorted : (rem ops listed).Pairwise (· < ·) := List.Pairwise.filter _ List.pairwise_lt_range
      have hpre : ∀ x ∈ pre, ∀ ox, ops[x]? = some ox → mayPass X.pf ops ox oi = true := by
        intro x hx ox hox
        have hlt : x < i := by
          rw [hpp] at hsorted
          exact (List.pairwise_append.1 hsorted).2.2 x hx i (by simp)
        rcases hpass x i ox oi hlt hox h2 with hb | hb
        · exfalso
          have hl := before_listed hcl i oi h2 h3 x hb
          have hx' : x ∈ rem ops listed := by rw [hpp]; simp [hx]
          obtain ⟨g1, g2⟩ := mem_rem.1 hx'
          rw [getD_flip (by omega) true false, hl] at g2; cases g2
        · exact hb
      rw [hpp] at h
      have hb := runIx_bubble h2 pre post s sf hpre h
      simp only [runIx, h2, Option.bind_some, Option.bind_eq_some_iff] at hb
      obtain ⟨s1, g1, g2⟩ := hb
      refine wpOp_sound horc hhc hs h2 g1 (fun a1 w1 ⟨ρ1, k1, k2, k3⟩ => ?_)
      have hrem := rem_set hsz hpp
      refine ih (listed.setIfInBounds i true) s1 sf ρ1 a1 w1 (by simpa using hsz) ?_ ?_ k3 (by rw [hrem]; exact g2) (fun a' w' ht => hQ _ _ (ht.trans k1 k2))
      · intro j o hj hl e he hb
        by_cases hji : j = i
        · subst hji
          rw [h2] at hj; cases hj
          exact getD_set_true (h3 e he hb)
        · rw [getD_set_ne true (fun h => hji h.symm)] at hl
          exact getD_set_true (hcl j o hj hl e he hb)
      · rw [hrem]
        rw [hpp] at hlen
        simp at hlen ⊢; omega
theorem getD_replicate (k i : Nat) : (Array.replicate k false).getD i true = (if i < k then false else true) := by
  by_cases h : i < k <;> simp [h]
theorem region_sound (hm : X.P.follows .mixedOrders = true) (horc : OrcOK X) (hhc : HOK X hc) {draw : Bool} (hord : (!draw || orderOk X.pf ops) = true) {s s' : St} (hs : SRel X C N ρ s a w) (h : runL X hc ops N ops.toList s = some s') {id : Nat}
    {Q : Exit → Act → World → Prop} (hQ : ∀ a' w', Then X C N ρ s s' a' w' → Q .normal a' w') : (Code.region id ops draw).wp X.P Q a w := by
  cases draw with
  | false =>
    refine wp_region ?_
    have := wpOps_sound horc hhc ops.toList 0 s s' ρ a w (fun j o hj => by simpa using hj) hs h hQ
    rw [List.range_eq_range']
    simpa using this
  | true =>
    simp only [Bool.not_true, Bool.false_or] at hord
    refine wp_region_any hm ?_
    have hrem : rem ops (Array.replicate ops.size false) = List.range' 0 ops.toList.length := by
      unfold rem
      rw [List.filter_eq_self.2 (fun j hj => by rw [getD_replicate, if_pos (by simpa using hj)]; rfl), List.range_eq_range']
      simp
    have hs' : SRel X C N ρ s a { w with drawn := w.drawn + 1 } := ⟨hs.sim.of_alike rfl rfl rfl rfl, hs.env, hs.size, hs.defers⟩
    refine wpAny_run horc hhc hord ops.size _ s s' ρ a _ (by simp) ?_ ?_ hs' ?_ hQ
    · intro j o hj hl
      have hlt : j < ops.size := (Array.getElem?_eq_some_iff.1 hj).1
      rw [getD_replicate, if_pos hlt] at hl; cases hl
    · rw [hrem]; simp
    · rw [hrem, runIx_range ops.toList 0 (fun j o hj => by simpa using hj)]; exact h
def exitOf : AExit → Exit
  | .normal => .normal
  | .ret => .ret
  | .exit i => .exit i
theorem runC_sound (hm : X.P.follows .mixedOrders = true) (horc : OrcOK X) (hhc : HOK X hc) : ∀ (fuel : Nat) (c : Code) (s s' : St) (x : AExit) (ρ : Nat → Loc) (a : Act) (w : World), SRel X C N ρ s a w → runC X hc N fuel c s = some (x, s') →
    ∀ Q : Exit → Act → World → Prop, (∀ a' w', Then X C N ρ s s' a' w' → Q (exitOf x) a' w') → c.wp X.P Q a w := by
  intro fuel
  induction fuel using Nat.strongRecOn with
  | _ fuel ih0 =>
  cases fuel with
  | zero => intro c s s' x ρ a w _ h; simp [runC] at h
  | succ fuel =>
    have ih := ih0 fuel (Nat.lt_succ_self _)
    intro c s s' x ρ a w hs h Q hQ
    cases c with
    | skip =>
      simp only [runC, Option.some.injEq, Prod.mk.injEq] at h; obtain ⟨rfl, rfl⟩ := h
      exact wp_skip (hQ _ _ ⟨ρ, fun _ _ => rfl, Nat.le_refl _, hs⟩)
    | region id ops draw =>
      simp only [runC] at h
      cases ho : (!draw || orderOk X.pf ops) with
      | false => simp [ho] at h
      | true =>
        simp only [ho, cond_true, Option.map_eq_some_iff, Prod.mk.injEq] at h
        obtain ⟨s1, h1, rfl, rfl⟩ := h
        exact region_sound hm horc hhc ho hs h1 hQ
    | seq c1 c2 =>
      simp only [runC, Option.bind_eq_some_iff, Prod.exists] at h
      obtain ⟨x1, s1, h1, h2⟩ := h
      refine wp_seq (ih c1 s s1 x1 ρ a w hs h1 _ (fun a1 w1 ⟨ρ1, g1, g2, g3⟩ => ?_))
      cases x1 with
      | normal => exact ih c2 s1 s' x ρ1 a1 w1 g3 h2 Q (fun a' w' ht => hQ _ _ (ht.trans g1 g2))
      | ret => simp only [Option.some.injEq, Prod.mk.injEq] at h2; obtain ⟨rfl, rfl⟩ := h2; exact hQ _ _ ⟨ρ1, g1, g2, g3⟩
      | exit i => simp only [Option.some.injEq, Prod.mk.injEq] at h2; obtain ⟨rfl, rfl⟩ := h2; exact hQ _ _ ⟨ρ1, g1, g2, g3⟩
    | cond cnd c1 c2 =>
      simp only [runC] at h
      split at h
      · rename_i t ht
        have := TRel.bool (evo_sound hs.env ht)
        refine wp_cond this ?_
        cases t with
        | true => exact ih c1 s s' x ρ a w hs h Q hQ
        | false => exact ih c2 s s' x ρ a w hs h Q hQ
      · cases h
    | block id b =>
      simp only [runC, Option.map_eq_some_iff, Prod.exists] at h
      obtain ⟨x1, s1, h1, h2⟩ := h
      refine wp_block (ih b s s1 x1 ρ a w hs h1 _ (fun a1 w1 ht => ?_))
      cases x1 with
      | normal => simp only [Prod.mk.injEq] at h2; obtain ⟨rfl, rfl⟩ := h2; exact hQ _ _ ht
      | ret => simp only [Prod.mk.injEq] at h2; obtain ⟨rfl, rfl⟩ := h2; exact hQ _ _ ht
      | exit i =>
        simp only [exitOf, Exit.inBlock]
        cases hb : Nat.beq i id with
        | true =>
          have e := Nat.eq_of_beq_eq_true hb
          simp only [hb, cond_true, Prod.mk.injEq] at h2; obtain ⟨rfl, rfl⟩ := h2
          rw [if_pos e]; exact hQ _ _ ht
        | false =>
          have e : i ≠ id := by rintro rfl; simp at hb
          simp only [hb, cond_false, Prod.mk.injEq] at h2; obtain ⟨rfl, rfl⟩ := h2
          rw [if_neg e]; exact hQ _ _ ht
    | loop b =>
      have key : ∀ (k : Nat), k ≤ fuel + 1 → ∀ (s s' : St) (x : AExit) (ρ : Nat → Loc) (a : Act) (w : World), SRel X C N ρ s a w → runC X hc N k (.loop b) s = some (x, s') →
          (∀ a' w', Then X C N ρ s s' a' w' → Q (exitOf x) a' w') → Code.rounds X.P b Q k a w := by
        intro k
        induction k with
        | zero => intro _ s s' x ρ a w _ h; simp [runC] at h
        | succ k ihk =>
          intro hk s s' x ρ a w hs h hQ
          simp only [runC, Option.bind_eq_some_iff, Prod.exists] at h
          obtain ⟨x1, s1, h1, h2⟩ := h
          rw [rounds_succ]
          refine ih0 k (by omega) b s s1 x1 ρ a w hs h1 _ (fun a1 w1 ht => ?_)
          obtain ⟨ρ1, g1, g2, g3⟩ := ht
          cases x1 with
          | normal => exact ihk (by omega) s1 s' x ρ1 a1 w1 g3 h2 (fun a' w' ht => hQ _ _ (ht.trans g1 g2))
          | ret => simp only [Option.some.injEq, Prod.mk.injEq] at h2; obtain ⟨rfl, rfl⟩ := h2; exact hQ _ _ ⟨ρ1, g1, g2, g3⟩
          | exit i => simp only [Option.some.injEq, Prod.mk.injEq] at h2; obtain ⟨rfl, rfl⟩ := h2; exact hQ _ _ ⟨ρ1, g1, g2, g3⟩
      exact wp_loop_rounds (fuel + 1) (key (fuel + 1) (Nat.le_refl _) s s' x ρ a w hs h hQ)
    | exit id =>
      simp only [runC, Option.some.injEq, Prod.mk.injEq] at h; obtain ⟨rfl, rfl⟩ := h
      exact wp_exit (hQ _ _ ⟨ρ, fun _ _ => rfl, Nat.le_refl _, hs⟩)
    | label l =>
      simp only [runC, Option.some.injEq, Prod.mk.injEq] at h; obtain ⟨rfl, rfl⟩ := h
      exact wp_label (hQ _ _ ⟨ρ, fun _ _ => rfl, Nat.le_refl _, hs⟩)
    | ret =>
      simp only [runC, Option.some.injEq, Prod.mk.injEq] at h; obtain ⟨rfl, rfl⟩ := h
      exact wp_ret (hQ _ _ ⟨ρ, fun _ _ => rfl, Nat.le_refl _, hs⟩)
    | _ => simp [runC] at h
end
end Go.Ab
