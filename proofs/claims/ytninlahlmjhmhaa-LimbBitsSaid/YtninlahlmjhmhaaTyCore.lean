import Derived.Test.YtninlahlmjhmhaaAbCore
namespace Go.Ty
open Go.Ab (szOf zeroOf bytesOf aggT vcells capU)

/-! ## Shapes of plain data, and what is of a shape -/
inductive NilK where
  | ptr | func | map | iface
  deriving DecidableEq

inductive Sh where
  | int (k : IntKind) | bool | str | non (k : NilK) | unit
  | pair (a b : Sh) | arr (n : Nat) (s : Sh) | sl (s : Sh)
  deriving DecidableEq

@[reducible] def IT : IntKind → Type
  | .i8 => Int | .i16 => Int | .i32 => Int | .i64 => Int
  | .u8 => BitVec 8 | .u16 => BitVec 16 | .u32 => BitVec 32 | .u64 => BitVec 64

def toI : (k : IntKind) → IT k → Int
  | .i8, x => x | .i16, x => x | .i32, x => x | .i64, x => x
  | .u8, x => (BitVec.toNat x : Int) | .u16, x => (BitVec.toNat x : Int) | .u32, x => (BitVec.toNat x : Int) | .u64, x => (BitVec.toNat x : Int)

def ofI : (k : IntKind) → Int → IT k
  | .i8, x => x | .i16, x => x | .i32, x => x | .i64, x => x
  | .u8, x => BitVec.ofInt 8 x | .u16, x => BitVec.ofInt 16 x | .u32, x => BitVec.ofInt 32 x | .u64, x => BitVec.ofInt 64 x

@[reducible] def Sh.T : Sh → Type
  | .int k => IT k
  | .bool => Bool
  | .str => List (BitVec 8)
  | .non _ => Unit
  | .unit => Unit
  | .pair a b => a.T × b.T
  | .arr _ s => List s.T
  | .sl s => List s.T

def Sh.dft : (s : Sh) → s.T
  | .int k => ofI k 0
  | .bool => false
  | .str => ([] : List (BitVec 8))
  | .non _ => ()
  | .unit => ()
  | .pair a b => (a.dft, b.dft)
  | .arr n s => List.replicate n s.dft
  | .sl s => ([] : List s.T)

def Sh.size : Sh → Nat
  | .unit => 0
  | .pair a b => a.size + b.size
  | .arr n s => n * s.size
  | _ => 1

/-- where a field may begin -/
def Sh.al : Sh → Nat
  | .int .i8 | .int .u8 | .bool | .unit => 1
  | .int .i16 | .int .u16 => 2
  | .int .i32 | .int .u32 => 4
  | .pair a b => bif Nat.blt a.al b.al then b.al else a.al
  | .arr _ s => s.al
  | _ => 8
def rup (n a : Nat) : Nat := (n + (a - 1)) / a * a
/-- bytes (behind so many, in a struct) -/
def Sh.lay : Sh → Option Nat → Nat
  | .pair a b, some off => b.lay (some (rup off a.al + a.lay none))
  | .pair a b, none => rup (b.lay (some (a.lay none))) (Sh.pair a b).al
  | .unit, some off => off
  | .unit, none => 0
  | .arr n s, _ => n * s.lay none
  | .int .i8, _ | .int .u8, _ | .bool, _ => 1
  | .int .i16, _ | .int .u16, _ => 2
  | .int .i32, _ | .int .u32, _ => 4
  | .int .i64, _ | .int .u64, _ => 8
  | .str, _ => 16
  | .sl _, _ => 24
  | .non .iface, _ => 16
  | .non _, _ => 8
def Sh.bytes (s : Sh) : Nat := s.lay none

def Sh.isAgg : Sh → Bool
  | .unit | .pair _ _ | .arr _ _ => true
  | _ => false

/-- no memory is reached from it -/
def Sh.flat : Sh → Bool
  | .sl _ => false
  | .pair a b => a.flat && b.flat
  | .arr _ s => s.flat
  | _ => true

def Sh.beq : Sh → Sh → Bool
  | .int k, .int j => decide (k = j)
  | .bool, .bool => true
  | .str, .str => true
  | .non k, .non j => decide (k = j)
  | .unit, .unit => true
  | .pair a b, .pair c d => a.beq c && b.beq d
  | .arr n s, .arr m t => Nat.beq n m && s.beq t
  | .sl s, .sl t => s.beq t
  | _, _ => false

theorem Sh.eq_of_beq : ∀ {a b : Sh}, a.beq b = true → a = b
  | .int k, .int j, h => by simp only [beq, decide_eq_true_eq] at h; rw [h]
  | .bool, .bool, _ => rfl
  | .str, .str, _ => rfl
  | .non k, .non j, h => by simp only [beq, decide_eq_true_eq] at h; rw [h]
  | .unit, .unit, _ => rfl
  | .pair a b, .pair c d, h => by
    simp only [beq, Bool.and_eq_true] at h
    rw [eq_of_beq h.1, eq_of_beq h.2]
  | .arr n s, .arr m t, h => by
    simp only [beq, Bool.and_eq_true] at h
    rw [Nat.eq_of_beq_eq_true h.1, eq_of_beq h.2]
  | .sl s, .sl t, h => by simp only [beq] at h; rw [eq_of_beq h]

def castT {a b : Sh} (h : a.beq b = true) (x : a.T) : b.T := Sh.eq_of_beq h ▸ x
def castTo (a b : Sh) (x : a.T) : Option b.T := match h : a.beq b with | true => some (castT h x) | false => none

/-- equality of what is of a shape -/
def Sh.deq : (s : Sh) → DecidableEq s.T
  | .int k => match k with
    | .i8 => inferInstanceAs (DecidableEq Int) | .i16 => inferInstanceAs (DecidableEq Int) | .i32 => inferInstanceAs (DecidableEq Int) | .i64 => inferInstanceAs (DecidableEq Int)
    | .u8 => inferInstanceAs (DecidableEq (BitVec 8)) | .u16 => inferInstanceAs (DecidableEq (BitVec 16)) | .u32 => inferInstanceAs (DecidableEq (BitVec 32)) | .u64 => inferInstanceAs (DecidableEq (BitVec 64))
  | .bool => inferInstanceAs (DecidableEq Bool)
  | .str => inferInstanceAs (DecidableEq (List (BitVec 8)))
  | .non _ => inferInstanceAs (DecidableEq Unit)
  | .unit => inferInstanceAs (DecidableEq Unit)
  | .pair a b => @instDecidableEqProd _ _ a.deq b.deq
  | .arr _ s => @instDecidableEqList _ s.deq
  | .sl s => @instDecidableEqList _ s.deq
def teq (s : Sh) (x y : s.T) : Bool := @decide (x = y) (s.deq x y)
theorem teq_iff {s : Sh} {x y : s.T} : teq s x y = true ↔ x = y := by unfold teq; exact @decide_eq_true_iff _ (s.deq x y)

/-- does Go compare it? -/
def Sh.cmp : Sh → Bool
  | .int _ | .bool => true
  | .pair a b => a.cmp && b.cmp
  | .arr _ s => s.cmp
  | .unit => true
  | _ => false

def Sh.depth : Sh → Nat
  | .pair a b => a.depth + b.depth + 1
  | .arr _ s => s.depth + 1
  | _ => 0

def rd (s : Sh) (xs : List s.T) (i : Nat) : s.T := xs.getD i s.dft

/-! ## Numbers -/
def uar {n : Nat} (op : BinOp) (x y : BitVec n) : Option (BitVec n) :=
  match op with
  | .add => some (x + y) | .sub => some (x - y) | .mul => some (x * y)
  | .quo => some (x / y) | .rem => some (x % y)
  | .and => some (x &&& y) | .or => some (x ||| y) | .xor => some (x ^^^ y) | .andNot => some (x &&& ~~~y)
  | _ => none
def iand (k : IntKind) (x y : Int) : Int := k.wrap (BitVec.ofInt k.bits x &&& BitVec.ofInt k.bits y).toNat
def ior (k : IntKind) (x y : Int) : Int := k.wrap (BitVec.ofInt k.bits x ||| BitVec.ofInt k.bits y).toNat
def ixor (k : IntKind) (x y : Int) : Int := k.wrap (BitVec.ofInt k.bits x ^^^ BitVec.ofInt k.bits y).toNat
def iandn (k : IntKind) (x y : Int) : Int := k.wrap (BitVec.ofInt k.bits x &&& ~~~BitVec.ofInt k.bits y).toNat
def iar (k : IntKind) (op : BinOp) (x y : Int) : Option Int :=
  match op with
  | .add => some (k.wrap (x + y)) | .sub => some (k.wrap (x - y)) | .mul => some (k.wrap (x * y))
  | .quo => some (k.wrap (x.tdiv y)) | .rem => some (x.tmod y)
  | .and => some (iand k x y) | .or => some (ior k x y) | .xor => some (ixor k x y) | .andNot => some (iandn k x y)
  | _ => none
def tar (op : BinOp) : (k : IntKind) → IT k → IT k → Option (IT k)
  | .i8, x, y => iar .i8 op x y | .i16, x, y => iar .i16 op x y | .i32, x, y => iar .i32 op x y | .i64, x, y => iar .i64 op x y
  | .u8, x, y => uar op x y | .u16, x, y => uar op x y | .u32, x, y => uar op x y | .u64, x, y => uar op x y
def ucm {n : Nat} (op : BinOp) (x y : BitVec n) : Option Bool :=
  match op with
  | .eql => some (decide (x = y)) | .neq => some (!decide (x = y))
  | .lss => some (decide (x < y)) | .leq => some (decide (x ≤ y)) | .gtr => some (decide (y < x)) | .geq => some (decide (y ≤ x))
  | _ => none
def icm (op : BinOp) (x y : Int) : Option Bool :=
  match op with
  | .eql => some (decide (x = y)) | .neq => some (!decide (x = y))
  | .lss => some (decide (x < y)) | .leq => some (decide (x ≤ y)) | .gtr => some (decide (y < x)) | .geq => some (decide (y ≤ x))
  | _ => none
def tcm (op : BinOp) : (k : IntKind) → IT k → IT k → Option Bool
  | .i8, x, y => icm op x y | .i16, x, y => icm op x y | .i32, x, y => icm op x y | .i64, x, y => icm op x y
  | .u8, x, y => ucm op x y | .u16, x, y => ucm op x y | .u32, x, y => ucm op x y | .u64, x, y => ucm op x y
/-- may it be divided by this? -/
def tnz : (k : IntKind) → IT k → Bool
  | .i8, x => !decide (x = (0 : Int)) | .i16, x => !decide (x = (0 : Int)) | .i32, x => !decide (x = (0 : Int)) | .i64, x => !decide (x = (0 : Int))
  | .u8, x => !decide (x = 0#8) | .u16, x => !decide (x = 0#16) | .u32, x => !decide (x = 0#32) | .u64, x => !decide (x = 0#64)
/-- a count of bits: may it be, and how many -/
def tcok : (k : IntKind) → IT k → Bool
  | .i8, x => decide ((0 : Int) ≤ x) | .i16, x => decide ((0 : Int) ≤ x) | .i32, x => decide ((0 : Int) ≤ x) | .i64, x => decide ((0 : Int) ≤ x)
  | _, _ => true
def tcnt : (k : IntKind) → IT k → Nat
  | .i8, x => Int.toNat x | .i16, x => Int.toNat x | .i32, x => Int.toNat x | .i64, x => Int.toNat x
  | .u8, x => BitVec.toNat x | .u16, x => BitVec.toNat x | .u32, x => BitVec.toNat x | .u64, x => BitVec.toNat x
def ush {n : Nat} (op : BinOp) (x : BitVec n) (c : Nat) : Option (BitVec n) :=
  match op with | .shl => some (x <<< c) | .shr => some (x >>> c) | _ => none
def ishl (k : IntKind) (x : Int) (c : Nat) : Int := k.wrap (x * 2 ^ (min c k.bits))
def ishr (k : IntKind) (x : Int) (c : Nat) : Int := x.fdiv (2 ^ (min c k.bits))
def ish (k : IntKind) (op : BinOp) (x : Int) (c : Nat) : Option Int :=
  match op with | .shl => some (ishl k x c) | .shr => some (ishr k x c) | _ => none
def tsh (op : BinOp) : (k : IntKind) → IT k → Nat → Option (IT k)
  | .i8, x, c => ish .i8 op x c | .i16, x, c => ish .i16 op x c | .i32, x, c => ish .i32 op x c | .i64, x, c => ish .i64 op x c
  | .u8, x, c => ush op x c | .u16, x, c => ush op x c | .u32, x, c => ush op x c | .u64, x, c => ush op x c
def inot (k : IntKind) (x : Int) : Int := k.wrap (BitVec.ofInt k.bits (-1) ^^^ BitVec.ofInt k.bits x).toNat
def tneg : (k : IntKind) → IT k → IT k
  | .i8, x => IntKind.i8.wrap (0 - x) | .i16, x => IntKind.i16.wrap (0 - x) | .i32, x => IntKind.i32.wrap (0 - x) | .i64, x => IntKind.i64.wrap (0 - x)
  | .u8, x => (-x : BitVec 8) | .u16, x => (-x : BitVec 16) | .u32, x => (-x : BitVec 32) | .u64, x => (-x : BitVec 64)
def tnot : (k : IntKind) → IT k → IT k
  | .i8, x => inot .i8 x | .i16, x => inot .i16 x | .i32, x => inot .i32 x | .i64, x => inot .i64 x
  | .u8, x => (~~~x : BitVec 8) | .u16, x => (~~~x : BitVec 16) | .u32, x => (~~~x : BitVec 32) | .u64, x => (~~~x : BitVec 64)
/-- from an unsigned number to a kind -/
def uto {n : Nat} (x : BitVec n) : (k : IntKind) → IT k
  | .i8 => IntKind.i8.wrap x.toNat | .i16 => IntKind.i16.wrap x.toNat | .i32 => IntKind.i32.wrap x.toNat
  | .i64 => bif Nat.blt n 64 then (x.toNat : Int) else IntKind.i64.wrap x.toNat
  | .u8 => x.setWidth 8 | .u16 => x.setWidth 16 | .u32 => x.setWidth 32 | .u64 => x.setWidth 64
def ito (x : Int) : (k : IntKind) → IT k
  | .i8 => IntKind.i8.wrap x | .i16 => IntKind.i16.wrap x | .i32 => IntKind.i32.wrap x | .i64 => IntKind.i64.wrap x
  | .u8 => BitVec.ofInt 8 x | .u16 => BitVec.ofInt 16 x | .u32 => BitVec.ofInt 32 x | .u64 => BitVec.ofInt 64 x
def tto : (j : IntKind) → IT j → (k : IntKind) → IT k
  | .i8, x, k => ito x k | .i16, x, k => ito x k | .i32, x, k => ito x k | .i64, x, k => ito x k
  | .u8, x, k => uto (n := 8) x k | .u16, x, k => uto (n := 16) x k | .u32, x, k => uto (n := 32) x k | .u64, x, k => uto (n := 64) x k

/-! ## Values of the typed machine -/
inductive Step where
  | l | r | i (n : Nat)
abbrev Path := List Step

/-- what a block is: one value of a shape, or a row of so many elements as there are -/
inductive Lay where
  | one (s : Sh) | row (s : Sh)

inductive Cel where
  | ptr (b : Nat) (r : Lay) (p : Path)
  | fptr (s : Sh) (x : s.T)
  | ref (b : Nat) (r : Lay) (p : Path) (e : Sh) (off len : Nat) (cap : Option Nat)
  | nilS
  | fn (f : FuncId)

inductive AV where
  | val (s : Sh) (x : s.T)
  | two (a b : AV)
  | cell (c : Cel)

/-- nothing, of a shape -/
def zeroA : Sh → AV
  | .sl _ => (.cell .nilS)
  | .pair a b => bif (Sh.pair a b).flat then .val (.pair a b) (a.dft, b.dft) else .two (zeroA a) (zeroA b)
  | s => .val s s.dft

inductive SV where
  | av (v : AV)
  | tup (l : List AV)

inductive Cont where
  | one (s : Sh) (v : AV)
  | row (s : Sh) (xs : List s.T)
structure Blk where
  c : Cont
  own : Bool

inductive Slot where
  | fresh | dead | live (b : Blk)
abbrev Heap := Nat → Slot
def Heap.put (H : Heap) (k : Nat) (x : Slot) : Heap := fun j => bif Nat.beq j k then x else H j
abbrev Env := Nat → Option SV
def Env.set (e : Env) (k : Nat) (v : Option SV) : Env := fun j => bif Nat.beq j k then v else e j
structure St where
  env : Env
  heap : Heap
  next : Nat

def Lay.beq : Lay → Lay → Bool
  | .one a, .one b => a.beq b
  | .row a, .row b => a.beq b
  | _, _ => false
def Cont.lay : Cont → Lay
  | .one s _ => .one s
  | .row s _ => .row s

def AV.as (s : Sh) : AV → Option s.T
  | .val t x => castTo t s x
  | (.cell .nilS) => match s with
    | .sl _ => some []
    | _ => none
  | _ => none

/-- does it stand for something of the shape? -/
def AV.conf : AV → Sh → Bool
  | .val t _, s => t.beq s
  | .two a b, .pair s t => a.conf s && b.conf t
  | .two _ _, _ => false
  | _, s => !s.isAgg

/-- as it is told of a shape: nil as a list of none, a pair as a pair -/
def AV.norm : AV → Sh → AV
  | (.cell .nilS), .sl s => .val (.sl s) []
  | .two a b, .pair s t => match (a.norm s).as s, (b.norm t).as t with
    | some x, some y => .val (.pair s t) (x, y)
    | _, _ => .two (a.norm s) (b.norm t)
  | v, _ => v

def bmap {α β γ : Type} (f : α → β → γ) : Option α → Option β → Option γ
  | some a, some b => some (f a b)
  | _, _ => none

def getP : (s : Sh) → Path → s.T → Option AV
  | s, [], x => some (.val s x)
  | .pair a _, .l :: p, x => getP a p x.1
  | .pair _ b, .r :: p, x => getP b p x.2
  | .arr _ s, .i k :: p, x => getP s p (rd s x k)
  | _, _ :: _, _ => none
def setP : (s : Sh) → Path → s.T → AV → Option s.T
  | s, [], _, v => v.as s
  | .pair a _, .l :: p, x, v => (setP a p x.1 v).map fun y => (y, x.2)
  | .pair _ b, .r :: p, x, v => (setP b p x.2 v).map fun y => (x.1, y)
  | .arr _ s, .i k :: p, x, v => (setP s p (rd s x k) v).map fun y => x.set k y
  | _, _ :: _, _, _ => none

def getA : AV → Path → Option AV
  | v, [] => some v
  | .val s x, p => getP s p x
  | .two a _, .l :: p => getA a p
  | .two _ b, .r :: p => getA b p
  | _, _ => none
/-- a part set; what can't be typed is split -/
def setA : AV → Path → AV → Option AV
  | _, [], v => some v
  | .val s x, p, v => match setP s p x v with
    | some y => some (.val s y)
    | none => setV s p x v
  | .two a b, .l :: p, v => (setA a p v).map fun y => .two y b
  | .two a b, .r :: p, v => (setA b p v).map fun y => .two a y
  | _, _, _ => none
where
  setV : (s : Sh) → Path → s.T → AV → Option AV
    | _, [], _, v => some v
    | .pair a b, .l :: p, x, v => (setV a p x.1 v).map fun y => .two y (.val b x.2)
    | .pair a b, .r :: p, x, v => (setV b p x.2 v).map fun y => .two (.val a x.1) y
    | _, _ :: _, _, _ => none

def subS : Sh → Path → Option Sh
  | s, [] => some s
  | .pair a _, .l :: p => subS a p
  | .pair _ b, .r :: p => subS b p
  | .arr _ s, .i _ :: p => subS s p
  | _, _ :: _ => none
def offS : Sh → Path → Nat
  | _, [] => 0
  | .pair a _, .l :: p => offS a p
  | .pair a b, .r :: p => a.size + offS b p
  | .arr _ s, .i k :: p => k * s.size + offS s p
  | _, _ :: _ => 0
def subL : Lay → Path → Option Sh
  | .one s, p => subS s p
  | .row s, .i _ :: p => subS s p
  | .row _, _ => none
def offL : Lay → Path → Nat
  | .one s, p => offS s p
  | .row s, .i k :: p => k * s.size + offS s p
  | .row _, _ => 0

/-- does the path lead to something of the shape? -/
def okSub (r : Lay) (p : Path) (s : Sh) : Bool := match subL r p with | some u => u.beq s | none => false

def getC : Cont → Path → Option AV
  | .one _ v, p => getA v p
  | .row s xs, .i k :: p => getP s p (rd s xs k)
  | .row _ _, _ => none

/-! ## What an operation does with memory -/
inductive HAct where
  | fail
  | ret (v : Option SV)
  | dem (b : Bool) (k : HAct)
  | pre (p : Prop) (k : HAct)
  | look (b : Nat) (k : Blk → HAct)
  | put (b : Nat) (x : Blk) (k : HAct)
  | kill (b : Nat) (k : HAct)
  | new (b : Nat) (x : Blk) (k : HAct)

structure Res where
  dem : Prop
  val : Option SV
  heap : Heap
  touched : List Nat
  written : List Nat

def exec : HAct → Heap → Option Res
  | .fail, _ => none
  | .ret v, H => some ⟨True, v, H, [], []⟩
  | .dem b k, H => (exec k H).map fun r => { r with dem := b = true ∧ r.dem }
  | .pre p k, H => (exec k H).map fun r => { r with dem := p ∧ r.dem }
  | .look b k, H => match H b with
    | .live x => (exec (k x) H).map fun r => { r with touched := b :: r.touched }
    | _ => none
  | .put b x k, H => match H b with
    | .live _ => (exec k (H.put b (.live x))).map fun r => { r with touched := b :: r.touched, written := b :: r.written }
    | _ => none
  | .kill b k, H => match H b with
    | .live _ => (exec k (H.put b .dead)).map fun r => { r with touched := b :: r.touched, written := b :: r.written }
    | _ => none
  | .new b x k, H => match H b with
    | .fresh => (exec k (H.put b (.live x))).map fun r => { r with touched := b :: r.touched, written := b :: r.written }
    | _ => none

def HAct.ofO {α : Type} (o : Option α) (k : α → HAct) : HAct :=
  match o with
  | some a => k a
  | none => .fail
def HAct.pure (v : AV) : HAct := .ret (some (.av v))

/-! ## Types and shapes -/
def zcells : Sh → List Value
  | .int k => [.int k 0]
  | .bool => [.bool false]
  | .str => [.string ⟨#[]⟩]
  | .non .ptr => [.pointer none]
  | .non .func => [.nilFunc]
  | .non .map => [.map none]
  | .non .iface => [.nilIface]
  | .unit => []
  | .pair a b => zcells a ++ zcells b
  | .arr n s => Go.Ab.zerosN (zcells s) n
  | .sl _ => [.slice none 0 0]
def zvEq : Value → Value → Bool
  | .int k n, .int j m => decide (k = j) && decide (n = m)
  | .bool a, .bool b => a == b
  | .string a, .string b => Nat.beq a.size 0 && Nat.beq b.size 0
  | .pointer none, .pointer none => true
  | .nilFunc, .nilFunc => true
  | .map none, .map none => true
  | .nilIface, .nilIface => true
  | .slice none 0 0, .slice none 0 0 => true
  | _, _ => false
def zlEq : List Value → List Value → Bool
  | [], [] => true
  | a :: l, b :: m => zvEq a b && zlEq l m
  | _, _ => false
/-- size, and zero -/
def szChk (P : Program) (s : Sh) (t : TypeId) : Bool :=
  (match szOf P t with | some n => Nat.beq n s.size | none => false) && (match zeroOf P t with | some (.agg cs) => s.isAgg && zlEq cs.toList (zcells s) | some v => !s.isAgg && zlEq [v] (zcells s) | none => false)
/-- is the type of the shape? (right: the fields from a place on) -/
def shChk (P : Program) : Sh → TypeId ⊕ (List Field × Nat) → Bool
  | .unit, .inr ([], _) => true
  | .pair a b, .inr (f :: r, off) => Nat.beq f.offset off && (shChk P a (.inl f.type) && shChk P b (.inr (r, off + a.size)))
  | _, .inr _ => false
  | .int k, .inl t => (match P.underlying t with | some (.int j) => decide (j = k) | _ => false) && szChk P (.int k) t
  | .bool, .inl t => (match P.underlying t with | some .bool => true | _ => false) && szChk P .bool t
  | .str, .inl t => (match P.underlying t with | some .string => true | _ => false) && szChk P .str t
  | .non .ptr, .inl t => (match P.underlying t with | some (.pointer _) => true | _ => false) && szChk P (.non .ptr) t
  | .non .func, .inl t => (match P.underlying t with | some (.func ..) => true | _ => false) && szChk P (.non .func) t
  | .non .map, .inl t => (match P.underlying t with | some (.map ..) => true | _ => false) && szChk P (.non .map) t
  | .non .iface, .inl t => (match P.underlying t with | some (.interface _) => true | _ => false) && szChk P (.non .iface) t
  | .unit, .inl t => (match P.underlying t with | some (.struct ⟨[]⟩) => true | _ => false) && szChk P .unit t
  | .pair a b, .inl t => (match P.underlying t with | some (.struct ⟨f :: r⟩) => Nat.beq f.offset 0 && (shChk P a (.inl f.type) && shChk P b (.inr (r, a.size))) | _ => false) && szChk P (.pair a b) t
  | .arr n s, .inl t => (match P.underlying t with | some (.array m e) => Nat.beq m n && shChk P s (.inl e) | _ => false) && szChk P (.arr n s) t
  | .sl s, .inl t => (match P.underlying t with | some (.slice e) => shChk P s (.inl e) && (match bytesOf P e with | some n => Nat.beq n s.bytes | none => false) | _ => false) && szChk P (.sl s) t
/-- is it compared part by part? -/
def eqChk (P : Program) : Sh → TypeId ⊕ List Field → Bool
  | .unit, .inr [] => true
  | .pair a b, .inr (f :: r) => f.name != "_" && (eqChk P a (.inl f.type) && eqChk P b (.inr r))
  | _, .inr _ => false
  | .unit, .inl _ => false
  | .pair a b, .inl t => !P.stoodInHeld t && (match P.underlying t with | some (.struct ⟨f :: r⟩) => f.name != "_" && (eqChk P a (.inl f.type) && eqChk P b (.inr r)) | _ => false)
  | .arr _ s, .inl t => (match P.underlying t with | some (.array _ e) => eqChk P s (.inl e) | _ => false)
  | _, .inl _ => true

/-! ## The program, as it is looked at -/
abbrev ConT := List SV → Nat → HAct
structure Cx where
  P : Program
  sh : TypeId → Option Sh
  con : FuncId → Option ConT
  glob : Nat → Option ((s : Sh) × s.T)

section
variable (X : Cx)

def constA : Value → Option AV
  | .int k n => bif decide (toI k (ofI k n) = n) then some (.val (.int k) (ofI k n)) else none
  | .bool b => some (.val .bool b)
  | .string s => some (.val .str (s.data.toList.map fun b => b.toBitVec))
  | .pointer none => some (.val (.non .ptr) ())
  | .slice none 0 0 => some (.cell .nilS)
  | .nilFunc => some (.val (.non .func) ())
  | .map none => some (.val (.non .map) ())
  | .nilIface => some (.val (.non .iface) ())
  | _ => none

def ev (e : Env) : Operand → Option SV
  | .tmp t => e t
  | .const v => (constA v).map .av
  | .global g => (X.glob g).map fun ⟨s, x⟩ => .av (.cell (.fptr s x))
  | .func f => some (.av (.cell (.fn f)))
def evA (e : Env) (x : Operand) : Option AV := match ev X e x with
  | some (.av v) => some v
  | _ => none
def evL (e : Env) : List Operand → Option (List SV)
  | [] => some []
  | x :: r => (ev X e x).bind fun v => (evL e r).map fun l => v :: l

/-- the number of a value -/
def numA : AV → Option Int
  | .val (.int k) x => some (toI k x)
  | _ => none

def mergeT (c : Bool) (a b : AV) : Option AV :=
  match a with
  | .val s x => (b.as s).map fun y => .val s (bif c then x else y)
  | _ => none

def binN (op : BinOp) (k : IntKind) (x : IT k) (j : IntKind) (y : IT j) : HAct :=
  match op with
  | .shl | .shr => .dem (tcok j y) (.ofO (tsh op k x (tcnt j y)) fun z => .pure (.val (.int k) z))
  | .quo | .rem => .ofO (castTo (.int j) (.int k) y) fun y => .dem (tnz k y) (.ofO (tar op k x y) fun z => .pure (.val (.int k) z))
  | .eql | .neq | .lss | .leq | .gtr | .geq => .ofO (castTo (.int j) (.int k) y) fun y => .ofO (tcm op k x y) fun z => .pure (.val .bool z)
  | op => .ofO (castTo (.int j) (.int k) y) fun y => .ofO (tar op k x y) fun z => .pure (.val (.int k) z)
def Sh.isNum : Sh → Bool
  | .int _ => true
  | _ => false
def cmpA (neg : Bool) (t : TypeId) (s : Sh) (x : s.T) (y : AV) : HAct :=
  .ofO (X.sh t) fun s' => bif s'.beq s && (s.cmp && (!s.isNum && (!(s.isAgg && X.P.eqGuardType X.P.depth t) && (eqChk X.P s (.inl t) && Nat.blt s.depth 19)))) then
    .ofO (y.as s) fun y => .pure (.val .bool (bif neg then !teq s x y else teq s x y)) else .fail
def binA (op : BinOp) (t : TypeId) (x y : AV) : HAct :=
  match x, y with
  | .val (.int k) x, .val (.int j) y => binN op k x j y
  | .val s x, y => match op with
    | .eql => cmpA X false t s x y
    | .neq => cmpA X true t s x y
    | _ => .fail
  | _, _ => .fail

def unA (op : UnOp) (x : AV) : HAct :=
  match op, x with
  | .neg, .val (.int k) x => .pure (.val (.int k) (tneg k x))
  | .xor, .val (.int k) x => .pure (.val (.int k) (tnot k x))
  | .not, .val .bool x => .pure (.val .bool (!x))
  | _, _ => .fail

def convA (dst : TypeId) (x : AV) : HAct :=
  match X.sh dst, x with
  | some (.int k), .val (.int j) x => .pure (.val (.int k) (tto j x k))
  | _, _ => .fail

/-- the places before a field -/
def fieldP : Nat → Path
  | 0 => [.l]
  | n + 1 => .r :: fieldP n

/-- an index, and the demand on it -/
def idxA (i : AV) (n : Nat) (k : Nat → HAct) : HAct :=
  match i with
  | .val (.int .i64) z => .dem (decide ((0 : Int) ≤ z) && decide (z < ((n : Nat) : Int))) (k (Int.toNat z))
  | .val (.int .u8) z => .dem (Nat.blt (BitVec.toNat z) n) (k (BitVec.toNat z))
  | .val (.int .u16) z => .dem (Nat.blt (BitVec.toNat z) n) (k (BitVec.toNat z))
  | .val (.int .u32) z => .dem (Nat.blt (BitVec.toNat z) n) (k (BitVec.toNat z))
  | .val (.int .u64) z => .dem (Nat.blt (BitVec.toNat z) n) (k (BitVec.toNat z))
  | _ => .fail

def elemS : Sh → Option Sh
  | .arr _ s => some s
  | .sl s => some s
  | _ => none

/-- the element of an array's or a slice's type -/
def elemT (t : TypeId) : Option (Bool × Nat × Sh) :=
  match X.sh t with
  | some (.arr n s) => some (true, n, s)
  | some (.sl s) => some (false, 0, s)
  | _ => none

def indexAddrA (t : TypeId) (x i : AV) : HAct :=
  .ofO (elemT X t) fun (isA, n, s) =>
  match x with
  | .cell (.ptr b r p) => bif isA && okSub r p (.arr n s) then idxA i n fun k => .pure (.cell (.ptr b r (p ++ [.i k]))) else .fail
  | .cell (.fptr (.arr m s') xs) => bif isA && Nat.beq m n && s'.beq s then idxA i n fun k => .pure (.cell (.fptr s' (rd s' xs k))) else .fail
  | .val (.sl s') xs => bif !isA && s'.beq s then idxA i xs.length fun k => .pure (.cell (.fptr s' (rd s' xs k))) else .fail
  | .cell (.ref b r p e off len _) => bif !isA && e.beq s then idxA i len fun k => .pure (.cell (.ptr b r (p ++ [.i (off + k)]))) else .fail
  | _ => .fail

def indexA (t : TypeId) (x i : AV) : HAct :=
  match X.sh t, x with
  | some (.arr n s), .val (.arr m s') xs => bif Nat.beq n m && s.beq s' then idxA i n fun k => .pure (.val s' (rd s' xs k)) else .fail
  | some .str, .val .str xs => idxA i xs.length fun k => .pure (.val (.int .u8) (xs.getD k 0#8))
  | _, _ => .fail

/-- the bounds of a slice expression -/
def bndA (o : Option (Option AV)) (d : Nat) (k : Nat → HAct) : HAct :=
  match o with
  | none => k d
  | some (some (.val (.int .i64) z)) => .dem (decide ((0 : Int) ≤ z)) (k (Int.toNat z))
  | some (some (.val (.int .u8) z)) => k (BitVec.toNat z)
  | some (some (.val (.int .u64) z)) => k (BitVec.toNat z)
  | _ => .fail

def sliceA (t : TypeId) (x : AV) (lo hi mx : Option (Option AV)) : HAct :=
  match x with
  | .val (.sl s) xs => match X.sh t with
    | some (.sl s') => bif s'.beq s then
        match mx with
        | none => bndA hi xs.length fun h => bndA lo 0 fun l => .dem (Nat.ble l h && Nat.ble h xs.length) (.pure (.val (.sl s) ((xs.take h).drop l)))
        | some _ => bif !hi.isSome then .fail else bndA hi xs.length fun h => bndA lo 0 fun l => bndA mx h fun m => .dem (Nat.ble l h && (Nat.ble h m && (Nat.ble m xs.length && (Nat.blt 0 xs.length && Nat.blt m capU)))) (.pure (.val (.sl s) ((xs.take h).drop l)))
      else .fail
    | _ => .fail
  | .cell (.fptr (.arr n s) xs) => match X.sh t, mx with
    | some (.arr n' s'), none => bif s'.beq s && (Nat.beq n n' && Nat.blt n capU) then
        bndA hi n fun h => bndA lo 0 fun l => .dem (Nat.ble l h && Nat.ble h n) (.pure (.val (.sl s) ((xs.take h).drop l)))
      else .fail
    | _, _ => .fail
  | .cell (.ptr b r p) => match X.sh t, mx with
    | some (.arr n s), none => bif okSub r p (.arr n s) && Nat.blt n capU then bndA hi n fun h => bndA lo 0 fun l => .dem (Nat.ble l h && Nat.ble h n) (.pure (.cell (.ref b r p s l (h - l) (some (n - l))))) else .fail
    | _, _ => .fail
  | .cell (.ref b r p e off len cap) => match X.sh t with
    | some (.sl s') => bif s'.beq e then
        (match mx with
        | none => bndA hi len fun h => bndA lo 0 fun l => .dem (Nat.ble l h && Nat.ble h (cap.getD len)) (.pure (.cell (.ref b r p e (off + l) (h - l) (cap.map fun c => c - l))))
        | some _ => match cap with
          | some c => bif !hi.isSome then .fail else bndA hi len fun h => bndA lo 0 fun l => bndA mx h fun m => .dem (Nat.ble l h && (Nat.ble h m && Nat.ble m c)) (.pure (.cell (.ref b r p e (off + l) (h - l) (some (m - l)))))
          | none => .fail)
      else .fail
    | _ => .fail
  | _ => .fail

def lenA (t : TypeId) (x : AV) : Option AV :=
  match X.sh t, x with
  | some .str, .val .str xs => some (.val (.int .i64) ((List.length xs : Nat) : Int))
  | some (.arr n _), _ => some (.val (.int .i64) ((n : Nat) : Int))
  | some (.sl s), .val (.sl s') xs => bif s.beq s' then some (.val (.int .i64) ((List.length xs : Nat) : Int)) else none
  | some (.sl _), (.cell .nilS) => some (.val (.int .i64) (0 : Int))
  | some (.sl _), (.cell (.ref _ _ _ _ _ len _)) => some (.val (.int .i64) ((len : Nat) : Int))
  | _, _ => none

end

/-- what a block's row is, from a place on -/
def rowC (c : Cont) (p : Path) (e : Sh) : Option (List e.T) :=
  match c, p with
  | .row s xs, [] => castTo (.sl s) (.sl e) xs
  | .one _ v, p => match getA v p with
    | some (.val (.arr _ s) xs) => castTo (.sl s) (.sl e) xs
    | _ => none
  | _, _ => none

/-- memory that is no longer written -/
def frzA : AV → (AV → HAct) → HAct
  | .cell (.ref b r p e off len _), k => .look b fun x => bif x.c.lay.beq r then
      .ofO (rowC x.c p e) fun xs => .put b { x with own := false } (k (.val (.sl e) ((xs.drop off).take len))) else .fail
  | .cell (.ptr b r p), k => .look b fun x => bif x.c.lay.beq r then
      .ofO (getC x.c p) fun v => match v with
        | .val s y => .put b { x with own := false } (k (.cell (.fptr s y)))
        | _ => .fail
      else .fail
  | .two a b, k => frzA a fun a => frzA b fun b => k (.two a b)
  | v, k => k v
def frzL : List SV → (List SV → HAct) → HAct
  | [], k => k []
  | .av v :: r, k => frzA v fun v => frzL r fun l => k (.av v :: l)
  | .tup _ :: _, _ => .fail

section
variable (X : Cx)

def loadA (t : TypeId) (a : AV) : HAct :=
  .ofO (X.sh t) fun s =>
  match a with
  | .cell (.ptr b r p) => .look b fun x => bif x.c.lay.beq r then .ofO (getC x.c p) fun v => bif v.conf s then .pure v else .fail else .fail
  | .cell (.fptr s' x) => bif s'.beq s then .pure (.val s' x) else .fail
  | _ => .fail

def setC : Cont → Path → AV → Option Cont
  | .one s v, p, u => (setA v p u).map fun w => .one s w
  | .row s xs, .i k :: p, u => (setP s p (rd s xs k) u).map fun y => .row s (xs.set k y)
  | .row _ _, _, _ => none

def storeA (t : TypeId) (a v : AV) : HAct :=
  .ofO (X.sh t) fun s =>
  match a with
  | .cell (.ptr b r p) =>
    let go (v : AV) : HAct := .look b fun x => bif x.c.lay.beq r && x.own && (match subL r p with | some s' => s'.beq s | none => false) && v.conf s then .ofO (setC x.c p v) fun c => .put b { x with c := c } (.ret none) else .fail
    go (v.norm s)
  | _ => .fail

def lenV : AV → Option Nat
  | .val (.sl _) xs => some xs.length
  | .val .str xs => some xs.length
  | (.cell .nilS) => some 0
  | .cell (.ref _ _ _ _ _ len _) => some len
  | _ => none

/-- the elements of a slice (or the bytes of a string) -/
def rowA (v : AV) (e : Sh) (k : List e.T → HAct) : HAct :=
  match v with
  | .val (.sl s) xs => .ofO (castTo (.sl s) (.sl e) xs) k
  | .val .str xs => .ofO (castTo (.sl (.int .u8)) (.sl e) xs) k
  | (.cell .nilS) => k []
  | .cell (.ref b r p s off len _) => .look b fun x => bif x.c.lay.beq r && s.beq e then .ofO (rowC x.c p e) fun xs => k ((xs.drop off).take len) else .fail
  | _ => .fail

/-- a row written into a row -/
def over {α : Type} (xs : List α) (off : Nat) (ys : List α) : List α := xs.take off ++ ys ++ xs.drop (off + ys.length)

def setRowC (c : Cont) (p : Path) (e : Sh) (off : Nat) (ys : List e.T) : Option Cont :=
  match c, p with
  | .row s xs, [] => (castTo (.sl e) (.sl s) ys).map fun ys => .row s (over xs off ys)
  | .one t v, p => match getA v p with
    | some (.val (.arr n s) xs) => (castTo (.sl e) (.sl s) ys).bind fun ys => (setA v p (.val (.arr n s) (over xs off ys))).map fun w => .one t w
    | _ => none
  | _, _ => none

def copyA (t : TypeId) (d s : AV) : HAct :=
  .ofO (elemT X t) fun (isA, _, e) => bif isA then .fail else
  match d with
  | .cell (.ref b r p e' off len _) => bif e'.beq e then
      rowA s e fun ys => .look b fun x => bif x.c.lay.beq r && x.own then
        .ofO (setRowC x.c p e off (ys.take len)) fun c => .put b { x with c := c } (.pure (.val (.int .i64) ((Nat.min ys.length len : Nat) : Int))) else .fail
    else .fail
  | _ => .fail

/-- append; 'nid': the block that is made -/
def appendA (nid : Nat) (t : TypeId) (d x : AV) : HAct :=
  .ofO (elemT X t) fun (isA, _, e) => bif isA || Nat.beq e.size 0 then .fail else bif Nat.beq e.bytes 0 then .fail else
  rowA x e fun ys =>
  match d with
  | (.cell .nilS) => .dem (Nat.ble (ys.length * e.bytes) 140737488355328 && !Nat.beq ys.length 0) (.new nid ⟨.row e ys, true⟩ (.pure (.cell (.ref nid (.row e) [] e 0 ys.length none))))
  | .cell (.ref b r p e' off len cap) => bif e'.beq e then
      match cap with
      | none => .look b fun k => bif k.own && Nat.beq off 0 then
          (match k.c, p with
          | .row s xs, [] => .ofO (castTo (.sl s) (.sl e) xs) fun xs => .dem (Nat.beq len xs.length && Nat.ble ((len + ys.length) * e.bytes) 140737488355328)
              (.kill b (.new nid ⟨.row e (xs ++ ys), true⟩ (.pure (.cell (.ref nid (.row e) [] e 0 (len + ys.length) none)))))
          | _, _ => .fail) else .fail
      | some c => .look b fun k => bif k.c.lay.beq r && k.own then
          .ofO (setRowC k.c p e (off + len) ys) fun c' => .dem (Nat.ble (len + ys.length) c) (.put b { k with c := c' } (.pure (.cell (.ref b r p e off (len + ys.length) (some c))))) else .fail
    else .fail
  | _ => .fail

def partsA (e : Env) : List (Nat × Operand) → Option (List (Nat × AV))
  | [] => some []
  | (i, x) :: r => (evA X e x).bind fun v => (partsA e r).map fun l => (i, v) :: l

/-- the parts of a literal, each at its place -/
def fillA (place : Nat → Path) (t : Nat → Option Sh) : AV → List (Nat × AV) → Option AV
  | z, [] => some z
  | z, (i, v) :: r => (t i).bind fun s => bif (v.norm s).conf s then (setA z (place i) (v.norm s)).bind fun z => fillA place t z r else none

def elemsA (e : Sh) : List e.T → List (Nat × AV) → Option (List e.T)
  | z, [] => some z
  | z, (i, v) :: r => bif Nat.blt i z.length then ((v.norm e).as e).bind fun y => elemsA e (z.set i y) r else none

def frzP : List (Nat × AV) → (List (Nat × AV) → HAct) → HAct
  | [], k => k []
  | (i, v) :: r, k => frzA v fun v => frzP r fun l => k ((i, v) :: l)

def buildA (t : TypeId) (ps : List (Nat × AV)) : HAct :=
  frzP ps fun ps =>
  match X.sh t with
  | some (.arr n s) => .ofO (elemsA s (List.replicate n s.dft) ps) fun xs => .pure (.val (.arr n s) xs)
  | some s => bif s.isAgg then .ofO (fillA fieldP (fun i => subS s (fieldP i)) (zeroA s) ps) fun z => .pure (z.norm s) else .fail
  | none => .fail

def intA (v : AV) : Option Int := numA v

def mm (isMax : Bool) (x y : Int) : Int := bif isMax then (bif decide (y > x) then y else x) else (bif decide (y < x) then y else x)
def mmA (isMax : Bool) : Int → List AV → Option Int
  | a, [] => some a
  | a, .val (.int .i64) y :: r => mmA isMax (mm isMax a y) r
  | _, _ => none

/-- the part of a value that a call hands back -/
def extA (v : SV) (i : Nat) : Option AV :=
  match v with
  | .tup l => l[i]?
  | _ => none

/-- an operation; 'nid': the numbers of blocks that it may make, from there on -/
def opA (e : Env) (nid : Nat) (op : Op) : HAct :=
  match op with
  | .move x | .assign x => .ofO (ev X e x) fun v => .ret (some v)
  | .pick c a b => .ofO (evA X e c) fun c => match c with
    | .val .bool c => match evA X e a, evA X e b with
      | some a, some b => .ofO (mergeT c a b) fun v => .pure v
      | some a, none => .dem c (.pure a)
      | none, some b => .dem (!c) (.pure b)
      | none, none => .fail
    | _ => .fail
  | .build t parts => .ofO (partsA X e parts.toList) fun ps => buildA X t ps
  | .nilCheck x => .ofO (evA X e x) fun x => match x with
    | .cell (.ptr b r p) => .pure (.cell (.ptr b r p))
    | .cell (.fptr s y) => .pure (.cell (.fptr s y))
    | _ => .fail
  | .binOp op t x y _ => .ofO (evA X e x) fun x => .ofO (evA X e y) fun y => binA X op t x y
  | .unOp op _ x => .ofO (evA X e x) fun x => unA op x
  | .convert src dst x => .ofO (X.sh src) fun _ => .ofO (evA X e x) fun x => convA X dst x
  | .slice t x lo hi mx => .ofO (evA X e x) fun x => sliceA X t x (lo.map (evA X e)) (hi.map (evA X e)) (mx.map (evA X e))
  | .fieldAddr t x f => .ofO (evA X e x) fun x => .ofO (X.sh t) fun s => match x with
    | .cell (.ptr b r p) => .ofO (subS s (fieldP f)) fun u => bif Nat.beq u.size 0 || !okSub r p s then .fail else .pure (.cell (.ptr b r (p ++ fieldP f)))
    | .cell (.fptr s' y) => bif s'.beq s then .ofO (getP s' (fieldP f) y) fun v => (match v with | .val u z => bif Nat.beq u.size 0 then .fail else .pure (.cell (.fptr u z)) | _ => .fail) else .fail
    | _ => .fail
  | .field t x f => .ofO (evA X e x) fun x => .ofO (X.sh t) fun s => bif x.conf s then .ofO (getA x (fieldP f)) fun v => .pure v else .fail
  | .indexAddr t x i => .ofO (evA X e x) fun x => .ofO (evA X e i) fun i => indexAddrA X t x i
  | .index t x i => .ofO (evA X e x) fun x => .ofO (evA X e i) fun i => indexA X t x i
  | .extract x i => .ofO (ev X e x) fun x => .ofO (extA x i) fun v => .pure v
  | .load t a => .ofO (evA X e a) fun a => loadA X t a
  | .alloc t => .ofO (X.sh t) fun s => .new nid ⟨.one s (zeroA s), true⟩ (.pure (.cell (.ptr nid (.one s) [])))
  | .box t x => .ofO (X.sh t) fun s => .ofO (evA X e x) fun x => bif (x.norm s).conf s then .new nid ⟨.one s (x.norm s), true⟩ (.pure (.cell (.ptr nid (.one s) []))) else .fail
  | .store t a x => .ofO (evA X e a) fun a => .ofO (evA X e x) fun x => storeA X t a x
  | .buildSlice t len parts => .ofO (elemT X t) fun (isA, _, s) => bif isA || Nat.beq s.size 0 || !Nat.ble (len * s.size) 16777216 || Nat.beq len 0 then .fail else
      .ofO (partsA X e parts.toList) fun ps => frzP ps fun ps => .ofO (elemsA s (List.replicate len s.dft) ps) fun xs => .new nid ⟨.row s xs, true⟩ (.pure (.cell (.ref nid (.row s) [] s 0 len none)))
  | .makeSlice t l c => .ofO (elemT X t) fun (isA, _, s) => bif isA || Nat.beq s.size 0 then .fail else
      .ofO ((evA X e l).bind numA) fun l => .ofO ((evA X e c).bind numA) fun c => .dem (decide (0 ≤ l) && (decide (l ≤ c) && (decide (c * ((s.bytes : Nat) : Int) ≤ 140737488355328) && decide (c < 9223372036854775808))))
        (.new nid ⟨.row s (List.replicate c.toNat s.dft), true⟩ (.pure (.cell (.ref nid (.row s) [] s 0 l.toNat (some c.toNat)))))
  | .call c => match c.callee with
    | .builtin .len => match c.argTypes.toList, c.args.toList with
      | [t], [x] => .ofO (evA X e x) fun x => .ofO (lenA X t x) fun v => .pure v
      | _, _ => .fail
    | .builtin .min => .ofO (c.args.toList.mapM (evA X e)) fun l => match l with
      | .val (.int .i64) x :: r => .ofO (mmA false x r) fun z => .pure (.val (.int .i64) z)
      | _ => .fail
    | .builtin .max => .ofO (c.args.toList.mapM (evA X e)) fun l => match l with
      | .val (.int .i64) x :: r => .ofO (mmA true x r) fun z => .pure (.val (.int .i64) z)
      | _ => .fail
    | .builtin .append => match c.argTypes.toList, c.args.toList with
      | [t, t2], [s, x] => match X.P.underlying t2 with
        | some (.slice _) | some .string => .ofO (evA X e s) fun s => .ofO (evA X e x) fun x => appendA X nid t s x
        | _ => .fail
      | _, _ => .fail
    | .builtin .copy => match c.argTypes.toList, c.args.toList with
      | t :: _, [s, x] => .ofO (evA X e s) fun s => .ofO (evA X e x) fun x => copyA X t s x
      | _, _ => .fail
    | .value f => .ofO (evA X e f) fun f => match f with
      | .cell (.fn f) => .ofO (X.con f) fun g => .ofO (evL X e c.args.toList) fun l => g l nid
      | _ => .fail
    | _ => .fail
  | _ => .fail
end
end Go.Ty
