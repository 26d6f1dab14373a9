import Derived.Test.YtghmfiandllpfaaDoorAbA
import Derived.IntWalk
namespace Go.Ty
open Go.Ab (szOf zeroOf bytesOf aggT vcells capU)
inductive NilK where
  | ptr | func | map | iface
  deriving DecidableEq
inductive Sh where
  | int (k : IntKind) | bool | str | non (k : NilK) | unit
  | pair (a b : Sh) | arr (n : Nat) (s : Sh) | sl (s : Sh)
  deriving DecidableEq
@[reducible] def IT : IntKind → Type
  | .i8 => Int | .i16 => Int | .i32 => Int | .i64 => Int
  | .u8 => BitVec 8 | .u16 => BitVec 16 | .u32 => BitVec 32 | .u64 => BitVec 64
def toI : (k : IntKind) → IT k → Int
  | .i8, x => x | .i16, x => x | .i32, x => x | .i64, x => x
  | .u8, x => (BitVec.toNat x : Int) | .u16, x => (BitVec.toNat x : Int) | .u32, x => (BitVec.toNat x : Int) | .u64, x => (BitVec.toNat x : Int)
def ofI : (k : IntKind) → Int → IT k
  | .i8, x => x | .i16, x => x | .i32, x => x | .i64, x => x
  | .u8, x => BitVec.ofInt 8 x | .u16, x => BitVec.ofInt 16 x | .u32, x => BitVec.ofInt 32 x | .u64, x => BitVec.ofInt 64 x
@[reducible] def Sh.T : Sh → Type
  | .int k => IT k
  | .bool => Bool
  | .str => List (BitVec 8)
  | .non _ => Unit
  | .unit => Unit
  | .pair a b => a.T × b.T
  | .arr _ s => List s.T
  | .sl s => List s.T
def Sh.dft : (s : Sh) → s.T
  | .int k => ofI k 0
  | .bool => false
  | .str => ([] : List (BitVec 8))
  | .non _ => ()
  | .unit => ()
  | .pair a b => (a.dft, b.dft)
  | .arr n s => List.replicate n s.dft
  | .sl s => ([] : List s.T)
def Sh.size : Sh → Nat
  | .unit => 0
  | .pair a b => a.size + b.size
  | .arr n s => n * s.size
  | _ => 1
def Sh.al : Sh → Nat
  | .int .i8 | .int .u8 | .bool | .unit => 1
  | .int .i16 | .int .u16 => 2
  | .int .i32 | .int .u32 => 4
  | .pair a b => bif Nat.blt a.al b.al then b.al else a.al
  | .arr _ s => s.al
  | _ => 8
def rup (n a : Nat) : Nat := (n + (a - 1)) / a * a
def Sh.lay : Sh → Option Nat → Nat
  | .pair a b, some off => b.lay (some (rup off a.al + a.lay none))
  | .pair a b, none => rup (b.lay (some (a.lay none))) (Sh.pair a b).al
  | .unit, some off => off
  | .unit, none => 0
  | .arr n s, _ => n * s.lay none
  | .int .i8, _ | .int .u8, _ | .bool, _ => 1
  | .int .i16, _ | .int .u16, _ => 2
  | .int .i32, _ | .int .u32, _ => 4
  | .int .i64, _ | .int .u64, _ => 8
  | .str, _ => 16
  | .sl _, _ => 24
  | .non .iface, _ => 16
  | .non _, _ => 8
def Sh.bytes (s : Sh) : Nat := s.lay none
def Sh.isAgg : Sh → Bool
  | .unit | .pair _ _ | .arr _ _ => true
  | _ => false
def Sh.flat : Sh → Bool
  | .sl _ => false
  | .pair a b => a.flat && b.flat
  | .arr _ s => s.flat
  | _ => true
def Sh.beq : Sh → Sh → Bool
  | .int k, .int j => decide (k = j)
  | .bool, .bool => true
  | .str, .str => true
  | .non k, .non j => decide (k = j)
  | .unit, .unit => true
  | .pair a b, .pair c d => a.beq c && b.beq d
  | .arr n s, .arr m t => Nat.beq n m && s.beq t
  | .sl s, .sl t => s.beq t
  | _, _ => false
theorem Sh.eq_of_beq : ∀ {a b : Sh}, a.beq b = true → a = b
  | .int k, .int j, h => by simp only [beq, decide_eq_true_eq] at h; rw [h]
  | .bool, .bool, _ => rfl
  | .str, .str, _ => rfl
  | .non k, .non j, h => by simp only [beq, decide_eq_true_eq] at h; rw [h]
  | .unit, .unit, _ => rfl
  | .pair a b, .pair c d, h => by
    simp only [beq, Bool.and_eq_true] at h
    rw [eq_of_beq h.1, eq_of_beq h.2]
  | .arr n s, .arr m t, h => by
    simp only [beq, Bool.and_eq_true] at h
    rw [Nat.eq_of_beq_eq_true h.1, eq_of_beq h.2]
  | .sl s, .sl t, h => by simp only [beq] at h; rw [eq_of_beq h]
abbrev castT {a b : Sh} (h : a.beq b = true) (x : a.T) : b.T := Sh.eq_of_beq h ▸ x
def castTo (a b : Sh) (x : a.T) : Option b.T := match h : a.beq b with | true => some (castT h x) | false => none
def Sh.deq : (s : Sh) → DecidableEq s.T
  | .int k => match k with
    | .i8 => inferInstanceAs (DecidableEq Int) | .i16 => inferInstanceAs (DecidableEq Int) | .i32 => inferInstanceAs (DecidableEq Int) | .i64 => inferInstanceAs (DecidableEq Int)
    | .u8 => inferInstanceAs (DecidableEq (BitVec 8)) | .u16 => inferInstanceAs (DecidableEq (BitVec 16)) | .u32 => inferInstanceAs (DecidableEq (BitVec 32)) | .u64 => inferInstanceAs (DecidableEq (BitVec 64))
  | .bool => inferInstanceAs (DecidableEq Bool)
  | .str => inferInstanceAs (DecidableEq (List (BitVec 8)))
  | .non _ => inferInstanceAs (DecidableEq Unit)
  | .unit => inferInstanceAs (DecidableEq Unit)
  | .pair a b => @instDecidableEqProd _ _ a.deq b.deq
  | .arr _ s => @instDecidableEqList _ s.deq
  | .sl s => @instDecidableEqList _ s.deq
def teq (s : Sh) (x y : s.T) : Bool := @decide (x = y) (s.deq x y)
theorem teq_iff {s : Sh} {x y : s.T} : teq s x y = true ↔ x = y := by unfold teq; exact @decide_eq_true_iff _ (s.deq x y)
def Sh.cmp : Sh → Bool
  | .int _ | .bool => true
  | .pair a b => a.cmp && b.cmp
  | .arr _ s => s.cmp
  | .unit => true
  | _ => false
def Sh.depth : Sh → Nat
  | .pair a b => a.depth + b.depth + 1
  | .arr _ s => s.depth + 1
  | _ => 0
def rd (s : Sh) (xs : List s.T) (i : Nat) : s.T := xs.getD i s.dft
def uar {n : Nat} (op : BinOp) (x y : BitVec n) : Option (BitVec n) :=
  match op with
  | .add => some (x + y) | .sub => some (x - y) | .mul => some (x * y)
  | .quo => some (x / y) | .rem => some (x % y)
  | .and => some (x &&& y) | .or => some (x ||| y) | .xor => some (x ^^^ y) | .andNot => some (x &&& ~~~y)
  | _ => none
def iand (k : IntKind) (x y : Int) : Int := k.wrap (BitVec.ofInt k.bits x &&& BitVec.ofInt k.bits y).toNat
def ior (k : IntKind) (x y : Int) : Int := k.wrap (BitVec.ofInt k.bits x ||| BitVec.ofInt k.bits y).toNat
def ixor (k : IntKind) (x y : Int) : Int := k.wrap (BitVec.ofInt k.bits x ^^^ BitVec.ofInt k.bits y).toNat
def iandn (k : IntKind) (x y : Int) : Int := k.wrap (BitVec.ofInt k.bits x &&& ~~~BitVec.ofInt k.bits y).toNat
def iar (k : IntKind) (op : BinOp) (x y : Int) : Option Int :=
  match op with
  | .add => some (k.wrap (x + y)) | .sub => some (k.wrap (x - y)) | .mul => some (k.wrap (x * y))
  | .quo => some (k.wrap (x.tdiv y)) | .rem => some (x.tmod y)
  | .and => some (iand k x y) | .or => some (ior k x y) | .xor => some (ixor k x y) | .andNot => some (iandn k x y)
  | _ => none
def tar (op : BinOp) : (k : IntKind) → IT k → IT k → Option (IT k)
  | .i8, x, y => iar .i8 op x y | .i16, x, y => iar .i16 op x y | .i32, x, y => iar .i32 op x y | .i64, x, y => iar .i64 op x y
  | .u8, x, y => uar op x y | .u16, x, y => uar op x y | .u32, x, y => uar op x y | .u64, x, y => uar op x y
def ucm {n : Nat} (op : BinOp) (x y : BitVec n) : Option Bool :=
  match op with
  | .eql => some (decide (x = y)) | .neq => some (!decide (x = y))
  | .lss => some (decide (x < y)) | .leq => some (decide (x ≤ y)) | .gtr => some (decide (y < x)) | .geq => some (decide (y ≤ x))
  | _ => none
def icm (op : BinOp) (x y : Int) : Option Bool :=
  match op with
  | .eql => some (decide (x = y)) | .neq => some (!decide (x = y))
  | .lss => some (decide (x < y)) | .leq => some (decide (x ≤ y)) | .gtr => some (decide (y < x)) | .geq => some (decide (y ≤ x))
  | _ => none
def tcm (op : BinOp) : (k : IntKind) → IT k → IT k → Option Bool
  | .i8, x, y => icm op x y | .i16, x, y => icm op x y | .i32, x, y => icm op x y | .i64, x, y => icm op x y
  | .u8, x, y => ucm op x y | .u16, x, y => ucm op x y | .u32, x, y => ucm op x y | .u64, x, y => ucm op x y
def tnz : (k : IntKind) → IT k → Bool
  | .i8, x => !decide (x = (0 : Int)) | .i16, x => !decide (x = (0 : Int)) | .i32, x => !decide (x = (0 : Int)) | .i64, x => !decide (x = (0 : Int))
  | .u8, x => !decide (x = 0#8) | .u16, x => !decide (x = 0#16) | .u32, x => !decide (x = 0#32) | .u64, x => !decide (x = 0#64)
def tcok : (k : IntKind) → IT k → Bool
  | .i8, x => decide ((0 : Int) ≤ x) | .i16, x => decide ((0 : Int) ≤ x) | .i32, x => decide ((0 : Int) ≤ x) | .i64, x => decide ((0 : Int) ≤ x)
  | _, _ => true
def tcnt : (k : IntKind) → IT k → Nat
  | .i8, x => Int.toNat x | .i16, x => Int.toNat x | .i32, x => Int.toNat x | .i64, x => Int.toNat x
  | .u8, x => BitVec.toNat x | .u16, x => BitVec.toNat x | .u32, x => BitVec.toNat x | .u64, x => BitVec.toNat x
def ush {n : Nat} (op : BinOp) (x : BitVec n) (c : Nat) : Option (BitVec n) :=
  match op with | .shl => some (x <<< c) | .shr => some (x >>> c) | _ => none
def ishl (k : IntKind) (x : Int) (c : Nat) : Int := k.wrap (x * 2 ^ (min c k.bits))
def ishr (k : IntKind) (x : Int) (c : Nat) : Int := x.fdiv (2 ^ (min c k.bits))
def ish (k : IntKind) (op : BinOp) (x : Int) (c : Nat) : Option Int :=
  match op with | .shl => some (ishl k x c) | .shr => some (ishr k x c) | _ => none
def tsh (op : BinOp) : (k : IntKind) → IT k → Nat → Option (IT k)
  | .i8, x, c => ish .i8 op x c | .i16, x, c => ish .i16 op x c | .i32, x, c => ish .i32 op x c | .i64, x, c => ish .i64 op x c
  | .u8, x, c => ush op x c | .u16, x, c => ush op x c | .u32, x, c => ush op x c | .u64, x, c => ush op x c
def inot (k : IntKind) (x : Int) : Int := k.wrap (BitVec.ofInt k.bits (-1) ^^^ BitVec.ofInt k.bits x).toNat
def tneg : (k : IntKind) → IT k → IT k
  | .i8, x => IntKind.i8.wrap (0 - x) | .i16, x => IntKind.i16.wrap (0 - x) | .i32, x => IntKind.i32.wrap (0 - x) | .i64, x => IntKind.i64.wrap (0 - x)
  | .u8, x => (-x : BitVec 8) | .u16, x => (-x : BitVec 16) | .u32, x => (-x : BitVec 32) | .u64, x => (-x : BitVec 64)
def tnot : (k : IntKind) → IT k → IT k
  | .i8, x => inot .i8 x | .i16, x => inot .i16 x | .i32, x => inot .i32 x | .i64, x => inot .i64 x
  | .u8, x => (~~~x : BitVec 8) | .u16, x => (~~~x : BitVec 16) | .u32, x => (~~~x : BitVec 32) | .u64, x => (~~~x : BitVec 64)
def uto {n : Nat} (x : BitVec n) : (k : IntKind) → IT k
  | .i8 => IntKind.i8.wrap x.toNat | .i16 => IntKind.i16.wrap x.toNat | .i32 => IntKind.i32.wrap x.toNat
  | .i64 => bif Nat.blt n 64 then (x.toNat : Int) else IntKind.i64.wrap x.toNat
  | .u8 => x.setWidth 8 | .u16 => x.setWidth 16 | .u32 => x.setWidth 32 | .u64 => x.setWidth 64
def ito (x : Int) : (k : IntKind) → IT k
  | .i8 => IntKind.i8.wrap x | .i16 => IntKind.i16.wrap x | .i32 => IntKind.i32.wrap x | .i64 => IntKind.i64.wrap x
  | .u8 => BitVec.ofInt 8 x | .u16 => BitVec.ofInt 16 x | .u32 => BitVec.ofInt 32 x | .u64 => BitVec.ofInt 64 x
def tto : (j : IntKind) → IT j → (k : IntKind) → IT k
  | .i8, x, k => ito x k | .i16, x, k => ito x k | .i32, x, k => ito x k | .i64, x, k => ito x k
  | .u8, x, k => uto (n := 8) x k | .u16, x, k => uto (n := 16) x k | .u32, x, k => uto (n := 32) x k | .u64, x, k => uto (n := 64) x k
inductive Step where
  | l | r | i (n : Nat)
abbrev Path := List Step
inductive Lay where
  | one (s : Sh) | row (s : Sh)
inductive Cel where
  | ptr (b : Nat) (r : Lay) (p : Path)
  | fptr (s : Sh) (x : s.T)
  | ref (b : Nat) (r : Lay) (p : Path) (e : Sh) (off len : Nat) (cap : Option Nat)
  | nilS
  | emp
  | z0
  | clo (f : FuncId) (cs : List ((s : Sh) × s.T))
  | fn (f : FuncId)
inductive AV where
  | val (s : Sh) (x : s.T)
  | two (a b : AV)
  | cell (c : Cel)
def zeroA : Sh → AV
  | .sl _ => (.cell .nilS)
  | .pair a b => bif (Sh.pair a b).flat then .val (.pair a b) (a.dft, b.dft) else .two (zeroA a) (zeroA b)
  | s => .val s s.dft
inductive SV where
  | av (v : AV)
  | tup (l : List AV)
inductive Cont where
  | one (s : Sh) (v : AV)
  | row (s : Sh) (xs : List s.T)
structure Blk where
  c : Cont
  own : Bool
inductive Slot where
  | fresh | dead | live (b : Blk)
abbrev Heap := Nat → Slot
def Heap.put (H : Heap) (k : Nat) (x : Slot) : Heap := fun j => bif Nat.beq j k then x else H j
abbrev Env := Nat → Option SV
def Env.set (e : Env) (k : Nat) (v : Option SV) : Env := fun j => bif Nat.beq j k then v else e j
structure St where
  env : Env
  heap : Heap
  next : Nat
def Lay.beq : Lay → Lay → Bool
  | .one a, .one b => a.beq b
  | .row a, .row b => a.beq b
  | _, _ => false
def Cont.lay : Cont → Lay
  | .one s _ => .one s
  | .row s _ => .row s
def AV.as (s : Sh) : AV → Option s.T
  | .val t x => castTo t s x
  | (.cell .nilS) => match s with
    | .sl _ => some []
    | _ => none
  | (.cell .emp) => match s with
    | .sl _ => some []
    | _ => none
  | (.cell .z0) => match s with
    | .sl _ => some []
    | _ => none
  | _ => none
def AV.conf : AV → Sh → Bool
  | .val t _, s => t.beq s
  | .two a b, .pair s t => a.conf s && b.conf t
  | .two _ _, _ => false
  | _, s => !s.isAgg
def AV.norm : AV → Sh → AV
  | (.cell .nilS), .sl s => .val (.sl s) []
  | (.cell .emp), .sl s => .val (.sl s) []
  | (.cell .z0), .sl s => .val (.sl s) []
  | .two a b, .pair s t => match (a.norm s).as s, (b.norm t).as t with
    | some x, some y => .val (.pair s t) (x, y)
    | _, _ => .two (a.norm s) (b.norm t)
  | v, _ => v
def bmap {α β γ : Type} (f : α → β → γ) : Option α → Option β → Option γ
  | some a, some b => some (f a b)
  | _, _ => none
def getP : (s : Sh) → Path → s.T → Option AV
  | s, [], x => some (.val s x)
  | .pair a _, .l :: p, x => getP a p x.1
  | .pair _ b, .r :: p, x => getP b p x.2
  | .arr _ s, .i k :: p, x => getP s p (rd s x k)
  | _, _ :: _, _ => none
def setP : (s : Sh) → Path → s.T → AV → Option s.T
  | s, [], _, v => v.as s
  | .pair a _, .l :: p, x, v => (setP a p x.1 v).map fun y => (y, x.2)
  | .pair _ b, .r :: p, x, v => (setP b p x.2 v).map fun y => (x.1, y)
  | .arr _ s, .i k :: p, x, v => (setP s p (rd s x k) v).map fun y => x.set k y
  | _, _ :: _, _, _ => none
def getA : AV → Path → Option AV
  | v, [] => some v
  | .val s x, p => getP s p x
  | .two a _, .l :: p => getA a p
  | .two _ b, .r :: p => getA b p
  | _, _ => none
def setA : AV → Path → AV → Option AV
  | _, [], v => some v
  | .val s x, p, v => match setP s p x v with
    | some y => some (.val s y)
    | none => setV s p x v
  | .two a b, .l :: p, v => (setA a p v).map fun y => .two y b
  | .two a b, .r :: p, v => (setA b p v).map fun y => .two a y
  | _, _, _ => none
where
  setV : (s : Sh) → Path → s.T → AV → Option AV
    | _, [], _, v => some v
    | .pair a b, .l :: p, x, v => (setV a p x.1 v).map fun y => .two y (.val b x.2)
    | .pair a b, .r :: p, x, v => (setV b p x.2 v).map fun y => .two (.val a x.1) y
    | _, _ :: _, _, _ => none
def subS : Sh → Path → Option Sh
  | s, [] => some s
  | .pair a _, .l :: p => subS a p
  | .pair _ b, .r :: p => subS b p
  | .arr _ s, .i _ :: p => subS s p
  | _, _ :: _ => none
def offS : Sh → Path → Nat
  | _, [] => 0
  | .pair a _, .l :: p => offS a p
  | .pair a b, .r :: p => a.size + offS b p
  | .arr _ s, .i k :: p => k * s.size + offS s p
  | _, _ :: _ => 0
def subL : Lay → Path → Option Sh
  | .one s, p => subS s p
  | .row s, .i _ :: p => subS s p
  | .row _, _ => none
def offL : Lay → Path → Nat
  | .one s, p => offS s p
  | .row s, .i k :: p => k * s.size + offS s p
  | .row _, _ => 0
def okSub (r : Lay) (p : Path) (s : Sh) : Bool := match subL r p with | some u => u.beq s | none => false
def getC : Cont → Path → Option AV
  | .one _ v, p => getA v p
  | .row s xs, .i k :: p => getP s p (rd s xs k)
  | .row _ _, _ => none
inductive HAct where
  | fail
  | ret (v : Option SV)
  | dem (b : Bool) (k : HAct)
  | pre (p : Prop) (k : HAct)
  | look (b : Nat) (k : Blk → HAct)
  | put (b : Nat) (x : Blk) (k : HAct)
  | kill (b : Nat) (k : HAct)
  | new (b : Nat) (x : Blk) (k : HAct)
  | alt (c : Bool) (k l : HAct)
structure Res where
  dem : Prop
  val : Option SV
  heap : Heap
  touched : List Nat
  written : List Nat
def exec : HAct → Heap → Option Res
  | .fail, _ => none
  | .ret v, H => some ⟨True, v, H, [], []⟩
  | .dem b k, H => (exec k H).map fun r => { r with dem := b = true ∧ r.dem }
  | .pre p k, H => (exec k H).map fun r => { r with dem := p ∧ r.dem }
  | .look b k, H => match H b with
    | .live x => (exec (k x) H).map fun r => { r with touched := b :: r.touched }
    | _ => none
  | .put b x k, H => match H b with
    | .live _ => (exec k (H.put b (.live x))).map fun r => { r with touched := b :: r.touched, written := b :: r.written }
    | _ => none
  | .kill b k, H => match H b with
    | .live _ => (exec k (H.put b .dead)).map fun r => { r with touched := b :: r.touched, written := b :: r.written }
    | _ => none
  | .new b x k, H => match H b with
    | .fresh => (exec k (H.put b (.live x))).map fun r => { r with touched := b :: r.touched, written := b :: r.written }
    | _ => none
  | .alt c k l, H => match c with
    | true => exec k H
    | false => exec l H
def HAct.ofO {α : Type} (o : Option α) (k : α → HAct) : HAct :=
  match o with
  | some a => k a
  | none => .fail
def HAct.pure (v : AV) : HAct := .ret (some (.av v))
def zcells : Sh → List Value
  | .int k => [.int k 0]
  | .bool => [.bool false]
  | .str => [.string ⟨#[]⟩]
  | .non .ptr => [.pointer none]
  | .non .func => [.nilFunc]
  | .non .map => [.map none]
  | .non .iface => [.nilIface]
  | .unit => []
  | .pair a b => zcells a ++ zcells b
  | .arr n s => Go.Ab.zerosN (zcells s) n
  | .sl _ => [.slice none 0 0]
def zvEq : Value → Value → Bool
  | .int k n, .int j m => decide (k = j) && decide (n = m)
  | .bool a, .bool b => a == b
  | .string a, .string b => Nat.beq a.size 0 && Nat.beq b.size 0
  | .pointer none, .pointer none => true
  | .nilFunc, .nilFunc => true
  | .map none, .map none => true
  | .nilIface, .nilIface => true
  | .slice none 0 0, .slice none 0 0 => true
  | _, _ => false
def zlEq : List Value → List Value → Bool
  | [], [] => true
  | a :: l, b :: m => zvEq a b && zlEq l m
  | _, _ => false
def szChk (P : Program) (s : Sh) (t : TypeId) : Bool :=
  (match szOf P t with | some n => Nat.beq n s.size | none => false) && (match zeroOf P t with | some (.agg cs) => s.isAgg && zlEq cs.toList (zcells s) | some v => !s.isAgg && zlEq [v] (zcells s) | none => false)
def shChk (P : Program) : Sh → TypeId ⊕ (List Field × Nat) → Bool
  | .unit, .inr ([], _) => true
  | .pair a b, .inr (f :: r, off) => Nat.beq f.offset off && (shChk P a (.inl f.type) && shChk P b (.inr (r, off + a.size)))
  | _, .inr _ => false
  | .int k, .inl t => (match P.underlying t with | some (.int j) => decide (j = k) | _ => false) && szChk P (.int k) t
  | .bool, .inl t => (match P.underlying t with | some .bool => true | _ => false) && szChk P .bool t
  | .str, .inl t => (match P.underlying t with | some .string => true | _ => false) && szChk P .str t
  | .non .ptr, .inl t => (match P.underlying t with | some (.pointer _) => true | _ => false) && szChk P (.non .ptr) t
  | .non .func, .inl t => (match P.underlying t with | some (.func ..) => true | _ => false) && szChk P (.non .func) t
  | .non .map, .inl t => (match P.underlying t with | some (.map ..) => true | _ => false) && szChk P (.non .map) t
  | .non .iface, .inl t => (match P.underlying t with | some (.interface _) => true | _ => false) && szChk P (.non .iface) t
  | .unit, .inl t => (match P.underlying t with | some (.struct ⟨[]⟩) => true | _ => false) && szChk P .unit t
  | .pair a b, .inl t => (match P.underlying t with | some (.struct ⟨f :: r⟩) => Nat.beq f.offset 0 && (shChk P a (.inl f.type) && shChk P b (.inr (r, a.size))) | _ => false) && szChk P (.pair a b) t
  | .arr n s, .inl t => (match P.underlying t with | some (.array m e) => Nat.beq m n && shChk P s (.inl e) | _ => false) && szChk P (.arr n s) t
  | .sl s, .inl t => (match P.underlying t with | some (.slice e) => shChk P s (.inl e) && (match bytesOf P e with | some n => Nat.beq n s.bytes | none => false) | _ => false) && szChk P (.sl s) t
def eqChk (P : Program) : Sh → TypeId ⊕ List Field → Bool
  | .unit, .inr [] => true
  | .pair a b, .inr (f :: r) => f.name != "_" && (eqChk P a (.inl f.type) && eqChk P b (.inr r))
  | _, .inr _ => false
  | .unit, .inl _ => false
  | .pair a b, .inl t => !P.stoodInHeld t && (match P.underlying t with | some (.struct ⟨f :: r⟩) => f.name != "_" && (eqChk P a (.inl f.type) && eqChk P b (.inr r)) | _ => false)
  | .arr _ s, .inl t => (match P.underlying t with | some (.array _ e) => eqChk P s (.inl e) | _ => false)
  | _, .inl _ => true
abbrev ConT := List SV → Nat → HAct
structure Cx where
  P : Program
  sh : TypeId → Option Sh
  con : FuncId → Option ConT
  glob : Nat → Option ((s : Sh) × s.T)
  grow : Bool := false
section
variable (X : Cx)
def constA : Value → Option AV
  | .int k n => bif decide (toI k (ofI k n) = n) then some (.val (.int k) (ofI k n)) else none
  | .bool b => some (.val .bool b)
  | .string s => some (.val .str (s.data.toList.map fun b => b.toBitVec))
  | .pointer none => some (.val (.non .ptr) ())
  | .slice none 0 0 => some (.cell .nilS)
  | .nilFunc => some (.val (.non .func) ())
  | .map none => some (.val (.non .map) ())
  | .nilIface => some (.val (.non .iface) ())
  | _ => none
def ev (e : Env) : Operand → Option SV
  | .tmp t => e t
  | .const v => (constA v).map .av
  | .global g => (X.glob g).map fun ⟨s, x⟩ => .av (.cell (.fptr s x))
  | .func f => some (.av (.cell (.fn f)))
def evA (e : Env) (x : Operand) : Option AV := match ev X e x with
  | some (.av v) => some v
  | _ => none
def evL (e : Env) : List Operand → Option (List SV)
  | [] => some []
  | x :: r => (ev X e x).bind fun v => (evL e r).map fun l => v :: l
def numA : AV → Option Int
  | .val (.int k) x => some (toI k x)
  | _ => none
def mergeT (c : Bool) (a b : AV) : Option AV :=
  match a with
  | .val s x => (b.as s).map fun y => .val s (bif c then x else y)
  | _ => none
def binN (op : BinOp) (k : IntKind) (x : IT k) (j : IntKind) (y : IT j) : HAct :=
  match op with
  | .shl | .shr => .dem (tcok j y) (.ofO (tsh op k x (tcnt j y)) fun z => .pure (.val (.int k) z))
  | .quo | .rem => .ofO (castTo (.int j) (.int k) y) fun y => .dem (tnz k y) (.ofO (tar op k x y) fun z => .pure (.val (.int k) z))
  | .eql | .neq | .lss | .leq | .gtr | .geq => .ofO (castTo (.int j) (.int k) y) fun y => .ofO (tcm op k x y) fun z => .pure (.val .bool z)
  | op => .ofO (castTo (.int j) (.int k) y) fun y => .ofO (tar op k x y) fun z => .pure (.val (.int k) z)
def Sh.isNum : Sh → Bool
  | .int _ => true
  | _ => false
def cmpA (neg : Bool) (t : TypeId) (s : Sh) (x : s.T) (y : AV) : HAct :=
  .ofO (X.sh t) fun s' => bif s'.beq s && (s.cmp && (!s.isNum && (!(s.isAgg && X.P.eqGuardType X.P.depth t) && (eqChk X.P s (.inl t) && Nat.blt s.depth 19)))) then
    .ofO (y.as s) fun y => .pure (.val .bool (bif neg then !teq s x y else teq s x y)) else .fail
def bless : List (BitVec 8) → List (BitVec 8) → Bool
  | _, [] => false
  | [], _ :: _ => true
  | a :: x, b :: y => BitVec.ult a b || (a == b && bless x y)
def strA (op : BinOp) (x y : List (BitVec 8)) : HAct :=
  match op with
  | .eql => .pure (.val .bool (teq .str x y))
  | .neq => .pure (.val .bool (!teq .str x y))
  | .add => .dem (Nat.ble (List.length x + List.length y) 9223372036854775807) (.pure (.val .str (List.append x y)))
  | .lss => .pure (.val .bool (bless x y))
  | .leq => .pure (.val .bool (bless x y || teq .str x y))
  | .gtr => .pure (.val .bool (!(bless x y || teq .str x y)))
  | .geq => .pure (.val .bool (!bless x y))
  | _ => .fail
def nilOf : AV → Option (Bool × Bool)
  | .val (.non .ptr) _ => some (true, true)
  | .cell (.ptr _ _ _) => some (true, false)
  | .cell (.fptr _ _) => some (true, false)
  | .cell .nilS => some (false, true)
  | .cell .emp => some (false, false)
  | .cell (.ref _ _ _ _ _ _ _) => some (false, false)
  | _ => none
def nilTy (t : TypeId) (isPtr : Bool) : Bool := match X.P.underlying t with
  | some (.pointer _) => isPtr
  | some (.slice _) => !isPtr
  | _ => false
def nilA (op : BinOp) (r : Bool) : HAct := match op with
  | .eql => .pure (.val .bool r)
  | .neq => .pure (.val .bool (!r))
  | _ => .fail
def binA (op : BinOp) (t : TypeId) (x y : AV) : HAct :=
  match x, y with
  | .val (.int k) x, .val (.int j) y => binN op k x j y
  | .val .str x, .val .str y => strA op x y
  | .val (.sl _) xs, .cell .nilS => bif nilTy X t false then .dem (!Nat.beq (List.length xs) 0) (nilA op false) else .fail
  | x, y => match nilOf x, nilOf y with
    | some (k1, n1), some (k2, n2) => bif (bif k1 then k2 else !k2) && ((n1 || n2) && nilTy X t k1) then nilA op (n1 && n2) else .fail
    | _, _ => match x with
      | .val s x => (match op with
        | .eql => cmpA X false t s x y
        | .neq => cmpA X true t s x y
        | _ => .fail)
      | _ => .fail
def unA (op : UnOp) (x : AV) : HAct :=
  match op, x with
  | .neg, .val (.int k) x => .pure (.val (.int k) (tneg k x))
  | .xor, .val (.int k) x => .pure (.val (.int k) (tnot k x))
  | .not, .val .bool x => .pure (.val .bool (!x))
  | _, _ => .fail
def convA (dst : TypeId) (x : AV) : HAct :=
  match X.sh dst, x with
  | some (.int k), .val (.int j) x => .pure (.val (.int k) (tto j x k))
  | _, _ => .fail
def fieldP : Nat → Path
  | 0 => [.l]
  | n + 1 => .r :: fieldP n
def idxA (i : AV) (n : Nat) (k : Nat → HAct) : HAct :=
  match i with
  | .val (.int .i64) z => .dem (decide ((0 : Int) ≤ z) && decide (z < ((n : Nat) : Int))) (k (Int.toNat z))
  | .val (.int .u8) z => .dem (Nat.blt (BitVec.toNat z) n) (k (BitVec.toNat z))
  | .val (.int .u16) z => .dem (Nat.blt (BitVec.toNat z) n) (k (BitVec.toNat z))
  | .val (.int .u32) z => .dem (Nat.blt (BitVec.toNat z) n) (k (BitVec.toNat z))
  | .val (.int .u64) z => .dem (Nat.blt (BitVec.toNat z) n) (k (BitVec.toNat z))
  | _ => .fail
def elemS : Sh → Option Sh
  | .arr _ s => some s
  | .sl s => some s
  | _ => none
def elemT (t : TypeId) : Option (Bool × Nat × Sh) :=
  match X.sh t with
  | some (.arr n s) => some (true, n, s)
  | some (.sl s) => some (false, 0, s)
  | _ => none
def indexAddrA (t : TypeId) (x i : AV) : HAct :=
  .ofO (elemT X t) fun (isA, n, s) =>
  match x with
  | .cell (.ptr b r p) => bif isA && okSub r p (.arr n s) then idxA i n fun k => .pure (.cell (.ptr b r (p ++ [.i k]))) else .fail
  | .cell (.fptr (.arr m s') xs) => bif isA && Nat.beq m n && s'.beq s then idxA i n fun k => .pure (.cell (.fptr s' (rd s' xs k))) else .fail
  | .val (.sl s') xs => bif !isA && s'.beq s then idxA i xs.length fun k => .pure (.cell (.fptr s' (rd s' xs k))) else .fail
  | .cell (.ref b r p e off len _) => bif !isA && e.beq s then idxA i len fun k => .pure (.cell (.ptr b r (p ++ [.i (off + k)]))) else .fail
  | _ => .fail
def indexA (t : TypeId) (x i : AV) : HAct :=
  match X.sh t, x with
  | some (.arr n s), .val (.arr m s') xs => bif Nat.beq n m && s.beq s' then idxA i n fun k => .pure (.val s' (rd s' xs k)) else .fail
  | some .str, .val .str xs => idxA i xs.length fun k => .pure (.val (.int .u8) (xs.getD k 0#8))
  | _, _ => .fail
def bndA (o : Option (Option AV)) (d : Nat) (k : Nat → HAct) : HAct :=
  match o with
  | none => k d
  | some (some (.val (.int .i64) z)) => .dem (decide ((0 : Int) ≤ z)) (k (Int.toNat z))
  | some (some (.val (.int .u8) z)) => k (BitVec.toNat z)
  | some (some (.val (.int .u64) z)) => k (BitVec.toNat z)
  | _ => .fail
def sliceA (t : TypeId) (x : AV) (lo hi mx : Option (Option AV)) : HAct :=
  match x with
  | .val (.sl s) xs => match X.sh t with
    | some (.sl s') => bif s'.beq s then
        match mx with
        | none => bndA hi xs.length fun h => bndA lo 0 fun l => .dem (Nat.ble l h && Nat.ble h xs.length) (.pure (.val (.sl s) ((xs.take h).drop l)))
        | some _ => bif !hi.isSome then .fail else bndA hi xs.length fun h => bndA lo 0 fun l => bndA mx h fun m => .dem (Nat.ble l h && (Nat.ble h m && (Nat.ble m xs.length && (Nat.blt 0 xs.length && Nat.blt m capU)))) (.pure (.val (.sl s) ((xs.take h).drop l)))
      else .fail
    | _ => .fail
  | .cell (.fptr (.arr n s) xs) => match X.sh t, mx with
    | some (.arr n' s'), none => bif s'.beq s && (Nat.beq n n' && Nat.blt n capU) then
        bndA hi n fun h => bndA lo 0 fun l => .dem (Nat.ble l h && Nat.ble h n) (.pure (.val (.sl s) ((xs.take h).drop l)))
      else .fail
    | _, _ => .fail
  | .cell (.ptr b r p) => match X.sh t, mx with
    | some (.arr n s), none => bif okSub r p (.arr n s) && Nat.blt n capU then bndA hi n fun h => bndA lo 0 fun l => .dem (Nat.ble l h && Nat.ble h n) (.pure (.cell (.ref b r p s l (h - l) (some (n - l))))) else .fail
    | _, _ => .fail
  | .cell (.ref b r p e off len cap) => match X.sh t with
    | some (.sl s') => bif s'.beq e then
        (match mx with
        | none => bndA hi len fun h => bndA lo 0 fun l => .dem (Nat.ble l h && Nat.ble h (cap.getD len)) (.pure (.cell (.ref b r p e (off + l) (h - l) (cap.map fun c => c - l))))
        | some _ => match cap with
          | some c => bif !hi.isSome then .fail else bndA hi len fun h => bndA lo 0 fun l => bndA mx h fun m => .dem (Nat.ble l h && (Nat.ble h m && Nat.ble m c)) (.pure (.cell (.ref b r p e (off + l) (h - l) (some (m - l)))))
          | none => .fail)
      else .fail
    | _ => .fail
  | _ => .fail
def lenA (t : TypeId) (x : AV) : Option AV :=
  match X.sh t, x with
  | some .str, .val .str xs => some (.val (.int .i64) ((List.length xs : Nat) : Int))
  | some (.arr n _), _ => some (.val (.int .i64) ((n : Nat) : Int))
  | some (.sl s), .val (.sl s') xs => bif s.beq s' then some (.val (.int .i64) ((List.length xs : Nat) : Int)) else none
  | some (.sl _), (.cell .nilS) => some (.val (.int .i64) (0 : Int))
  | some (.sl _), (.cell .emp) => some (.val (.int .i64) (0 : Int))
  | some (.sl _), (.cell .z0) => some (.val (.int .i64) (0 : Int))
  | some (.sl _), (.cell (.ref _ _ _ _ _ len _)) => some (.val (.int .i64) ((len : Nat) : Int))
  | _, _ => none
end
def rowC (c : Cont) (p : Path) (e : Sh) : Option (List e.T) :=
  match c, p with
  | .row s xs, [] => castTo (.sl s) (.sl e) xs
  | .one _ v, p => match getA v p with
    | some (.val (.arr _ s) xs) => castTo (.sl s) (.sl e) xs
    | _ => none
  | _, _ => none
def frzA : AV → (AV → HAct) → HAct
  | .cell (.ref b r p e off len _), k => .look b fun x => bif x.c.lay.beq r then
      .ofO (rowC x.c p e) fun xs => .put b { x with own := false } (k (.val (.sl e) ((xs.drop off).take len))) else .fail
  | .cell (.ptr b r p), k => .look b fun x => bif x.c.lay.beq r then
      .ofO (getC x.c p) fun v => match v with
        | .val s y => .put b { x with own := false } (k (.cell (.fptr s y)))
        | _ => .fail
      else .fail
  | .two a b, k => frzA a fun a => frzA b fun b => k (.two a b)
  | v, k => k v
def frzL : List SV → (List SV → HAct) → HAct
  | [], k => k []
  | .av v :: r, k => frzA v fun v => frzL r fun l => k (.av v :: l)
  | .tup _ :: _, _ => .fail
section
variable (X : Cx)
def loadA (t : TypeId) (a : AV) : HAct :=
  .ofO (X.sh t) fun s =>
  match a with
  | .cell (.ptr b r p) => .look b fun x => bif x.c.lay.beq r then .ofO (getC x.c p) fun v => bif v.conf s then .pure v else .fail else .fail
  | .cell (.fptr s' x) => bif s'.beq s then .pure (.val s' x) else .fail
  | _ => .fail
def setC : Cont → Path → AV → Option Cont
  | .one s v, p, u => (setA v p u).map fun w => .one s w
  | .row s xs, .i k :: p, u => (setP s p (rd s xs k) u).map fun y => .row s (xs.set k y)
  | .row _ _, _, _ => none
def storeA (t : TypeId) (a v : AV) : HAct :=
  .ofO (X.sh t) fun s =>
  match a with
  | .cell (.ptr b r p) =>
    let go (v : AV) : HAct := .look b fun x => bif x.c.lay.beq r && x.own && (match subL r p with | some s' => s'.beq s | none => false) && v.conf s then .ofO (setC x.c p v) fun c => .put b { x with c := c } (.ret none) else .fail
    go (v.norm s)
  | _ => .fail
def lenV : AV → Option Nat
  | .val (.sl _) xs => some xs.length
  | .val .str xs => some xs.length
  | (.cell .nilS) => some 0
  | (.cell .emp) => some 0
  | (.cell .z0) => some 0
  | .cell (.ref _ _ _ _ _ len _) => some len
  | _ => none
def rowA (v : AV) (e : Sh) (k : List e.T → HAct) : HAct :=
  match v with
  | .val (.sl s) xs => .ofO (castTo (.sl s) (.sl e) xs) k
  | .val .str xs => .ofO (castTo (.sl (.int .u8)) (.sl e) xs) k
  | (.cell .nilS) => k []
  | (.cell .emp) => k []
  | (.cell .z0) => k []
  | .cell (.ref b r p s off len _) => .look b fun x => bif x.c.lay.beq r && s.beq e then .ofO (rowC x.c p e) fun xs => k ((xs.drop off).take len) else .fail
  | _ => .fail
def over {α : Type} (xs : List α) (off : Nat) (ys : List α) : List α := xs.take off ++ ys ++ xs.drop (off + ys.length)
def setRowC (c : Cont) (p : Path) (e : Sh) (off : Nat) (ys : List e.T) : Option Cont :=
  match c, p with
  | .row s xs, [] => (castTo (.sl e) (.sl s) ys).map fun ys => .row s (over xs off ys)
  | .one t v, p => match getA v p with
    | some (.val (.arr n s) xs) => (castTo (.sl e) (.sl s) ys).bind fun ys => (setA v p (.val (.arr n s) (over xs off ys))).map fun w => .one t w
    | _ => none
  | _, _ => none
def copyA (t : TypeId) (d s : AV) : HAct :=
  .ofO (elemT X t) fun (isA, _, e) => bif isA then .fail else
  match d with
  | .cell (.ref b r p e' off len _) => bif e'.beq e then
      rowA s e fun ys => .look b fun x => bif x.c.lay.beq r && x.own then
        .ofO (setRowC x.c p e off (ys.take len)) fun c => .put b { x with c := c } (.pure (.val (.int .i64) ((Nat.min ys.length len : Nat) : Int))) else .fail
    else .fail
  | _ => .fail
def appN (gr : Bool) (nid : Nat) (d : AV) (e : Sh) (ys : List e.T) : HAct :=
  match d with
  | (.cell .z0) => .alt (Nat.beq ys.length 0) (.pure (.cell .z0)) (.dem (Nat.ble (ys.length * e.bytes) 140737488355328) (.new nid ⟨.row e ys, true⟩ (.pure (.cell (.ref nid (.row e) [] e 0 ys.length none)))))
  | (.cell .nilS) => .alt (Nat.beq ys.length 0) (.pure (.cell .nilS)) (.dem (Nat.ble (ys.length * e.bytes) 140737488355328) (.new nid ⟨.row e ys, true⟩ (.pure (.cell (.ref nid (.row e) [] e 0 ys.length none)))))
  | .cell (.ref b r p e' off len cap) => bif e'.beq e then
      match cap with
      | none => .look b fun k => bif k.own && Nat.beq off 0 then
          (match k.c, p with
          | .row s xs, [] => .ofO (castTo (.sl s) (.sl e) xs) fun xs => .dem (Nat.beq len xs.length && Nat.ble ((len + ys.length) * e.bytes) 140737488355328)
              (.kill b (.new nid ⟨.row e (xs ++ ys), true⟩ (.pure (.cell (.ref nid (.row e) [] e 0 (len + ys.length) none)))))
          | _, _ => .fail) else .fail
      | some c =>
        bif gr then .alt (Nat.ble (len + ys.length) c)
          (.look b fun k => bif k.c.lay.beq r && k.own then
            .ofO (setRowC k.c p e (off + len) ys) fun c' => .dem (Nat.ble (len + ys.length) c) (.put b { k with c := c' } (.pure (.cell (.ref b r p e off (len + ys.length) (some c))))) else .fail)
          (rowA (.cell (.ref b r p e' off len (some c))) e fun xs => .dem (Nat.ble ((xs.length + ys.length) * e.bytes) 140737488355328)
            (.new nid ⟨.row e (xs ++ ys), true⟩ (.pure (.cell (.ref nid (.row e) [] e 0 (xs.length + ys.length) none)))))
        else .look b fun k => bif k.c.lay.beq r && k.own then
          .ofO (setRowC k.c p e (off + len) ys) fun c' => .dem (Nat.ble (len + ys.length) c) (.put b { k with c := c' } (.pure (.cell (.ref b r p e off (len + ys.length) (some c))))) else .fail
    else .fail
  | _ => .fail
def appendA (nid : Nat) (t : TypeId) (d x : AV) : HAct :=
  .ofO (elemT X t) fun (isA, _, e) => bif isA || Nat.beq e.size 0 then .fail else bif Nat.beq e.bytes 0 then .fail else
  rowA x e fun ys => appN X.grow nid d e ys
def appendZA (nid : Nat) (t : TypeId) (d : AV) (n : Int) : HAct :=
  .ofO (elemT X t) fun (isA, _, e) => bif isA || Nat.beq e.size 0 then .fail else bif Nat.beq e.bytes 0 then .fail else
  .dem (decide (0 ≤ n) && (decide (n * ((e.bytes : Nat) : Int) ≤ 140737488355328) && decide (n < 9223372036854775808))) (appN X.grow nid d e (List.replicate n.toNat e.dft))
def partsA (e : Env) : List (Nat × Operand) → Option (List (Nat × AV))
  | [] => some []
  | (i, x) :: r => (evA X e x).bind fun v => (partsA e r).map fun l => (i, v) :: l
def fillA (place : Nat → Path) (t : Nat → Option Sh) : AV → List (Nat × AV) → Option AV
  | z, [] => some z
  | z, (i, v) :: r => (t i).bind fun s => bif (v.norm s).conf s then (setA z (place i) (v.norm s)).bind fun z => fillA place t z r else none
def elemsA (e : Sh) : List e.T → List (Nat × AV) → Option (List e.T)
  | z, [] => some z
  | z, (i, v) :: r => bif Nat.blt i z.length then ((v.norm e).as e).bind fun y => elemsA e (z.set i y) r else none
def frzP : List (Nat × AV) → (List (Nat × AV) → HAct) → HAct
  | [], k => k []
  | (i, v) :: r, k => frzA v fun v => frzP r fun l => k ((i, v) :: l)
def buildA (t : TypeId) (ps : List (Nat × AV)) : HAct :=
  frzP ps fun ps =>
  match X.sh t with
  | some (.arr n s) => .ofO (elemsA s (List.replicate n s.dft) ps) fun xs => .pure (.val (.arr n s) xs)
  | some s => bif s.isAgg then .ofO (fillA fieldP (fun i => subS s (fieldP i)) (zeroA s) ps) fun z => .pure (z.norm s) else .fail
  | none => .fail
def intA (v : AV) : Option Int := numA v
def mm (isMax : Bool) (x y : Int) : Int := bif isMax then (bif decide (y > x) then y else x) else (bif decide (y < x) then y else x)
def mmA (isMax : Bool) : Int → List AV → Option Int
  | a, [] => some a
  | a, .val (.int .i64) y :: r => mmA isMax (mm isMax a y) r
  | _, _ => none
def extA (v : SV) (i : Nat) : Option AV :=
  match v with
  | .tup l => l[i]?
  | _ => none
def capsA : List (Nat × AV) → Option (List ((s : Sh) × s.T))
  | [] => some []
  | (_, .cell (.fptr s x)) :: r => (capsA r).map fun l => ⟨s, x⟩ :: l
  | _ => none
def capAV (c : (s : Sh) × s.T) : SV := .av (.cell (.fptr c.1 c.2))
def opA (e : Env) (nid : Nat) (op : Op) : HAct :=
  match op with
  | .move x | .assign x => .ofO (ev X e x) fun v => .ret (some v)
  | .pick c a b => .ofO (evA X e c) fun c => match c with
    | .val .bool c => match evA X e a, evA X e b with
      | some a, some b => .ofO (mergeT c a b) fun v => .pure v
      | some a, none => .dem c (.pure a)
      | none, some b => .dem (!c) (.pure b)
      | none, none => .fail
    | _ => .fail
  | .build t parts => .ofO (partsA X e parts.toList) fun ps => buildA X t ps
  | .nilCheck x => .ofO (evA X e x) fun x => match x with
    | .cell (.ptr b r p) => .pure (.cell (.ptr b r p))
    | .cell (.fptr s y) => .pure (.cell (.fptr s y))
    | _ => .fail
  | .binOp op t x y _ => .ofO (evA X e x) fun x => .ofO (evA X e y) fun y => binA X op t x y
  | .unOp op _ x => .ofO (evA X e x) fun x => unA op x
  | .convert src dst x => .ofO (X.sh src) fun _ => .ofO (evA X e x) fun x => convA X dst x
  | .slice t x lo hi mx => .ofO (evA X e x) fun x => sliceA X t x (lo.map (evA X e)) (hi.map (evA X e)) (mx.map (evA X e))
  | .fieldAddr t x f => .ofO (evA X e x) fun x => .ofO (X.sh t) fun s => match x with
    | .cell (.ptr b r p) => .ofO (subS s (fieldP f)) fun u => bif Nat.beq u.size 0 || !okSub r p s then .fail else .pure (.cell (.ptr b r (p ++ fieldP f)))
    | .cell (.fptr s' y) => bif s'.beq s then .ofO (getP s' (fieldP f) y) fun v => (match v with | .val u z => bif Nat.beq u.size 0 then .fail else .pure (.cell (.fptr u z)) | _ => .fail) else .fail
    | _ => .fail
  | .field t x f => .ofO (evA X e x) fun x => .ofO (X.sh t) fun s => bif x.conf s then .ofO (getA x (fieldP f)) fun v => .pure v else .fail
  | .indexAddr t x i => .ofO (evA X e x) fun x => .ofO (evA X e i) fun i => indexAddrA X t x i
  | .index t x i => .ofO (evA X e x) fun x => .ofO (evA X e i) fun i => indexA X t x i
  | .extract x i => .ofO (ev X e x) fun x => .ofO (extA x i) fun v => .pure v
  | .load t a => .ofO (evA X e a) fun a => loadA X t a
  | .alloc t => .ofO (X.sh t) fun s => .new nid ⟨.one s (zeroA s), true⟩ (.pure (.cell (.ptr nid (.one s) [])))
  | .box t x => .ofO (X.sh t) fun s => .ofO (evA X e x) fun x => bif (x.norm s).conf s then .new nid ⟨.one s (x.norm s), true⟩ (.pure (.cell (.ptr nid (.one s) []))) else .fail
  | .store t a x => .ofO (evA X e a) fun a => .ofO (evA X e x) fun x => storeA X t a x
  | .buildSlice t len parts => .ofO (elemT X t) fun (isA, _, s) => bif isA || Nat.beq s.size 0 || !Nat.ble (len * s.size) 16777216 then .fail else
      .ofO (partsA X e parts.toList) fun ps => frzP ps fun ps => .ofO (elemsA s (List.replicate len s.dft) ps) fun xs => .new nid ⟨.row s xs, true⟩ (.pure (.cell (bif X.grow && Nat.beq len 0 then .z0 else .ref nid (.row s) [] s 0 len none)))
  | .makeSlice t l c => .ofO (elemT X t) fun (isA, _, s) => bif isA || Nat.beq s.size 0 then .fail else
      .ofO ((evA X e l).bind numA) fun l => .ofO ((evA X e c).bind numA) fun c => .dem (decide (0 ≤ l) && (decide (l ≤ c) && (decide (c * ((s.bytes : Nat) : Int) ≤ 140737488355328) && decide (c < 9223372036854775808))))
        (.new nid ⟨.row s (List.replicate c.toNat s.dft), true⟩ (.pure (.cell (.ref nid (.row s) [] s 0 l.toNat (some c.toNat)))))
  | .call c => match c.callee with
    | .builtin .len => match c.argTypes.toList, c.args.toList with
      | [t], [x] => .ofO (evA X e x) fun x => .ofO (lenA X t x) fun v => .pure v
      | _, _ => .fail
    | .builtin .min => .ofO (c.args.toList.mapM (evA X e)) fun l => match l with
      | .val (.int .i64) x :: r => .ofO (mmA false x r) fun z => .pure (.val (.int .i64) z)
      | _ => .fail
    | .builtin .max => .ofO (c.args.toList.mapM (evA X e)) fun l => match l with
      | .val (.int .i64) x :: r => .ofO (mmA true x r) fun z => .pure (.val (.int .i64) z)
      | _ => .fail
    | .builtin .append => match c.argTypes.toList, c.args.toList with
      | [t, t2], [s, x] => match X.P.underlying t2 with
        | some (.slice _) | some .string => .ofO (evA X e s) fun s => .ofO (evA X e x) fun x => appendA X nid t s x
        | some (.int _) => .ofO (evA X e s) fun s => .ofO ((evA X e x).bind numA) fun n => appendZA X nid t s n
        | _ => .fail
      | _, _ => .fail
    | .builtin .copy => match c.argTypes.toList, c.args.toList with
      | t :: _, [s, x] => .ofO (evA X e s) fun s => .ofO (evA X e x) fun x => copyA X t s x
      | _, _ => .fail
    | .value f => .ofO (evA X e f) fun f => match f with
      | .cell (.fn f) => .ofO (X.con f) fun g => .ofO (evL X e c.args.toList) fun l => g l nid
      | .cell (.clo f cs) => .ofO (X.con f) fun g => .ofO (evL X e c.args.toList) fun l => g (l ++ cs.map capAV) nid
      | _ => .fail
    | _ => .fail
  | .makeFunc (.func f) ⟨[]⟩ cs => .ofO (partsA X e (cs.toList.map fun x => (0, x))) fun ps => frzP ps fun ps => .ofO (capsA ps) fun l => .pure (.cell (.clo f l))
  | _ => .fail
end
end Go.Ty
namespace Go.Ty
open Go.Ab (AExit fitsN)
def ifB (b : Bool) (p q : Prop) : Prop := match b with | true => p | false => q
def dmd (b : Bool) (p : Prop) : Prop := match b with | true => p | false => False
def execK : HAct → Heap → (Option SV → Heap → List Nat → List Nat → Prop) → Prop
  | .fail, _, _ => False
  | .ret v, H, K => K v H [] []
  | .dem b k, H, K => dmd b (execK k H K)
  | .pre p k, H, K => p ∧ execK k H K
  | .look b k, H, K => match H b with
    | .live x => execK (k x) H fun v H t w => K v H (b :: t) w
    | _ => False
  | .put b x k, H, K => match H b with
    | .live _ => execK k (H.put b (.live x)) fun v H t w => K v H (b :: t) (b :: w)
    | _ => False
  | .kill b k, H, K => match H b with
    | .live _ => execK k (H.put b .dead) fun v H t w => K v H (b :: t) (b :: w)
    | _ => False
  | .new b x k, H, K => match H b with
    | .fresh => execK k (H.put b (.live x)) fun v H t w => K v H (b :: t) (b :: w)
    | _ => False
  | .alt c k l, H, K => ifB c (execK k H K) (execK l H K)
def putS (e : Env) (dst : Option Tmp) (v : Option SV) : Env :=
  match dst with
  | some d => e.set d v
  | none => e
def gslot (ops : Array Oper) (j : Nat) : Option Tmp := (ops[j]?).bind (·.dst)
def skipV : SV := .tup []
def boolV (b : Bool) : SV := .av (.val .bool b)
abbrev FP := List Nat × List Nat
section
variable (X : Cx) (ops : Array Oper) (N base : Nat)
def regK (K : St → List FP → Prop) : List Oper → Nat → St → List FP → Prop
  | [], _, s, f => K s f
  | o :: r, j, s, f => dmd (fitsN N o.dst) (
    match o.guard with
    | none => execK (opA X s.env (base + 8 * j) o.op) s.heap fun v H t w => regK K r (j + 1) ⟨putS s.env o.dst v, H, s.next⟩ (f ++ [(t, w)])
    | some (g, want) => match gslot ops g with
      | none => False
      | some d => match s.env d with
        | some (.tup []) => regK K r (j + 1) ⟨putS s.env o.dst (some skipV), s.heap, s.next⟩ (f ++ [([], [])])
        | some (.av (.val .bool b)) => ifB b
            (bif want then execK (opA X (s.env.set d (some (boolV true))) (base + 8 * j) o.op) s.heap fun v H t w => regK K r (j + 1) ⟨putS (s.env.set d (some (boolV true))) o.dst v, H, s.next⟩ (f ++ [(t, w)])
              else regK K r (j + 1) ⟨putS (s.env.set d (some (boolV true))) o.dst (some skipV), s.heap, s.next⟩ (f ++ [([], [])]))
            (bif want then regK K r (j + 1) ⟨putS (s.env.set d (some (boolV false))) o.dst (some skipV), s.heap, s.next⟩ (f ++ [([], [])])
              else execK (opA X (s.env.set d (some (boolV false))) (base + 8 * j) o.op) s.heap fun v H t w => regK K r (j + 1) ⟨putS (s.env.set d (some (boolV false))) o.dst v, H, s.next⟩ (f ++ [(t, w)]))
        | _ => False)
end
def pairs (ops : Array Oper) : Option (List (Nat × Nat)) :=
  let b := Region.before ops
  let l := ops.toList.zipIdx
  bif l.all fun (y, j) => y.after.toList.all (fun e => !Region.binds .any e || Nat.blt e.on j) then
    let ps := l.flatMap fun (y, j) => (l.filter fun (_, i) => Nat.blt i j && !(b.getD j 0).testBit i).map fun (x, i) => (x, i, y, j)
    bif ps.all fun (x, _, y, _) => x.apart ops y then some (ps.map fun (_, i, _, j) => (i, j)) else none
  else none
def disj (a b : List Nat) : Bool := a.all fun x => !b.contains x
def apartF (f g : FP) : Bool := disj f.2 g.1 && disj g.2 f.1
def freeGo (b : Array Nat) : Nat → List FP → List (Nat × FP) → Bool
  | _, [], _ => true
  | j, (t, w) :: r, e => match t, w with
    | [], [] => freeGo b (j + 1) r e
    | t, w => (e.all fun p => (b.getD j 0).testBit p.1 || apartF p.2 (t, w)) && freeGo b (j + 1) r ((j, (t, w)) :: e)
def statOk (ops : Array Oper) : Bool := match pairs ops with
  | some _ => true
  | none => false
def freeOk (ops : Array Oper) (f : List FP) : Bool := statOk ops && (Nat.beq f.length ops.size && freeGo (Region.before ops) 0 f [])
def keyOf : Code → Option Nat
  | .region id _ _ => some id
  | .seq a b => match keyOf a with
    | some k => some k
    | none => keyOf b
  | .cond _ a b => match keyOf a with
    | some k => some k
    | none => keyOf b
  | .block _ b => keyOf b
  | .loop b => keyOf b
  | _ => none
def cutOf : Code → Option Nat
  | .region id _ _ => some (1000000 + id)
  | .seq a _ => cutOf a
  | _ => none
abbrev Post := AExit → St → Prop
abbrev PT := St → Post → Prop
def unroll (F : PT) : Nat → PT
  | 0, _, _ => False
  | n + 1, s, K => F s fun x s' => match x with
    | .normal => unroll F n s' K
    | .ret => K .ret s'
    | .exit i => K (.exit i) s'
section
variable (X : Cx) (N : Nat) (LS : Nat → Option PT)
def W : Code → PT
  | .skip, s, K => K .normal s
  | .region _ ops draw, s, K => regK X ops N s.next (fun s' f => dmd (!draw || freeOk ops f) (K .normal ⟨s'.env, s'.heap, s'.next + 8 * ops.size⟩)) ops.toList 0 s []
  | .seq a b, s, K => W a s fun x s' => match x with
    | .normal => match (cutOf b).bind LS with
      | some p => p s' K
      | none => W b s' K
    | .ret => K .ret s'
    | .exit i => K (.exit i) s'
  | .cond c a b, s, K => match c with
    | .tmp t => match s.env t with
      | some (.av (.val .bool v)) => ifB v (W a ⟨s.env.set t (some (boolV true)), s.heap, s.next⟩ K) (W b ⟨s.env.set t (some (boolV false)), s.heap, s.next⟩ K)
      | _ => False
    | .const (.bool true) => W a s K
    | .const (.bool false) => W b s K
    | _ => False
  | .block id b, s, K => W b s fun x s' => match x with
    | .normal => K .normal s'
    | .ret => K .ret s'
    | .exit i => bif Nat.beq i id then K .normal s' else K (.exit i) s'
  | .loop b, s, K => match (keyOf b).bind LS with
    | some p => p s K
    | none => unroll (W b) 1000 s K
  | .exit id, s, K => K (.exit id) s
  | .label _, s, K => K .normal s
  | .ret, s, K => K .ret s
  | _, _, _ => False
def resK (s : St) : List ResultVar → (List AV → Heap → Prop) → Prop
  | [], K => K [] s.heap
  | .tmp t :: r, K => match s.env t with
    | some (.av v) => execK (frzA v fun v => .pure v) s.heap fun v H _ _ => match v with
      | some (.av v) => resK ⟨s.env, H, s.next⟩ r fun l H => K (v :: l) H
      | _ => False
    | _ => False
  | .cell a t :: r, K => match s.env a with
    | some (.av a) => execK (loadA X t a) s.heap fun v H _ _ => match v with
      | some (.av v) => execK (frzA v fun v => .pure v) H fun v H _ _ => match v with
        | some (.av v) => resK ⟨s.env, H, s.next⟩ r fun l H => K (v :: l) H
        | _ => False
      | _ => False
    | _ => False
def one : List AV → SV
  | [v] => .av v
  | l => .tup l
def envOf (l : List SV) : Env := fun k => l[k]?
def FW (fn : Func) (args : List SV) (K : SV → Prop) : Prop :=
  match fn.body with
  | some c => W X N LS c ⟨envOf args, fun _ => .fresh, 1000⟩ fun x s => match x with
    | .exit _ => False
    | .normal => resK X s fn.results.toList fun l _ => K (one l)
    | .ret => resK X s fn.results.toList fun l _ => K (one l)
  | none => False
end
end Go.Ty
namespace Go.Ty
open Go.Ab (vcells plainC capU)
def AllC {α : Type} (R : α → List Value → Prop) : List α → List Value → Prop
  | [], cs => cs = []
  | x :: xs, cs => ∃ c d, cs = c ++ d ∧ R x c ∧ AllC R xs d
section
variable {α : Type} {R S : α → List Value → Prop} {n : Nat}
theorem AllC.mono (hRS : ∀ x c, R x c → S x c) : ∀ {xs : List α} {cs : List Value}, AllC R xs cs → AllC S xs cs
  | [], _, h => h
  | _ :: _, _, ⟨c, d, e, h1, h2⟩ => ⟨c, d, e, hRS _ _ h1, mono hRS h2⟩
theorem AllC.length (hn : ∀ x c, R x c → c.length = n) : ∀ {xs : List α} {cs : List Value}, AllC R xs cs → cs.length = xs.length * n
  | [], _, h => by subst h; simp
  | x :: xs, _, ⟨c, d, e, h1, h2⟩ => by
    subst e
    rw [List.length_append, hn _ _ h1, length hn h2, List.length_cons, Nat.succ_mul, Nat.add_comm]
theorem AllC.append : ∀ {xs ys : List α} {a b : List Value}, AllC R xs a → AllC R ys b → AllC R (xs ++ ys) (a ++ b)
  | [], _, _, _, h, k => by subst h; simpa using k
  | _ :: _, _, _, _, ⟨c, d, e, h1, h2⟩, k => ⟨c, d ++ _, by rw [e, List.append_assoc], h1, append h2 k⟩
theorem AllC.drop (hn : ∀ x c, R x c → c.length = n) : ∀ {xs : List α} {cs : List Value} (k : Nat), AllC R xs cs → AllC R (xs.drop k) (cs.drop (k * n))
  | xs, cs, 0, h => by simpa using h
  | [], _, k + 1, h => by subst h; simp [AllC]
  | x :: xs, _, k + 1, ⟨c, d, e, h1, h2⟩ => by
    subst e
    have hc := hn _ _ h1
    have := drop hn k h2
    rw [List.drop_succ_cons, show (k + 1) * n = c.length + k * n by rw [Nat.succ_mul, hc, Nat.add_comm], List.drop_append, List.drop_eq_nil_of_le (Nat.le_add_right _ _), Nat.add_sub_cancel_left, List.nil_append]
    exact this
theorem AllC.take (hn : ∀ x c, R x c → c.length = n) : ∀ {xs : List α} {cs : List Value} (k : Nat), AllC R xs cs → AllC R (xs.take k) (cs.take (k * n))
  | xs, cs, 0, h => by simp [AllC]
  | [], _, k + 1, h => by subst h; simp [AllC]
  | x :: xs, _, k + 1, ⟨c, d, e, h1, h2⟩ => by
    subst e
    have hc := hn _ _ h1
    refine ⟨c, d.take (k * n), ?_, h1, take hn k h2⟩
    rw [show (k + 1) * n = c.length + k * n by rw [Nat.succ_mul, hc, Nat.add_comm], List.take_append, List.take_of_length_le (by omega)]
    simp
theorem AllC.nth (hn : ∀ x c, R x c → c.length = n) {xs : List α} {cs : List Value} {k : Nat} {x : α} (h : AllC R xs cs) (hx : xs[k]? = some x) : R x ((cs.drop (k * n)).take n) ∧ k * n + n ≤ cs.length := by
  have hk : k < xs.length := (List.getElem?_eq_some_iff.1 hx).1
  have h1 := h.drop hn k
  have hd : xs.drop k = x :: xs.drop (k + 1) := by
    rw [List.drop_eq_getElem_cons hk]
    rw [List.getElem?_eq_getElem hk] at hx
    injection hx with hx; rw [hx]
  rw [hd] at h1
  obtain ⟨c, d, e, g1, _⟩ := h1
  have hc := hn _ _ g1
  have hl := h.length hn
  refine ⟨?_, ?_⟩
  · rw [e, List.take_append_of_le_length (by omega), List.take_of_length_le (by omega)]; exact g1
  · have : k + 1 ≤ xs.length := hk
    have := Nat.mul_le_mul_right n this
    rw [hl]; rw [Nat.succ_mul] at this; omega
theorem AllC.set (hn : ∀ x c, R x c → c.length = n) : ∀ {xs : List α} {cs : List Value} {k : Nat} {y : α} {c' : List Value}, AllC R xs cs → R y c' → k < xs.length → AllC R (xs.set k y) (cs.take (k * n) ++ c' ++ cs.drop (k * n + n))
  | x :: xs, _, 0, y, c', ⟨c, d, e, h1, h2⟩, hy, _ => by
    subst e
    have hc := hn _ _ h1
    refine ⟨c', d, ?_, hy, h2⟩
    simp [hc]
  | x :: xs, _, k + 1, y, c', ⟨c, d, e, h1, h2⟩, hy, hk => by
    subst e
    have hc := hn _ _ h1
    have ih := set (k := k) hn h2 hy (by simpa using hk)
    refine ⟨c, _, ?_, h1, ih⟩
    have e1 : (k + 1) * n = c.length + k * n := by rw [Nat.succ_mul, hc, Nat.add_comm]
    rw [e1, List.take_append, List.take_of_length_le (show c.length ≤ c.length + k * n by omega), Nat.add_assoc, List.drop_append, List.drop_eq_nil_of_le (show c.length ≤ c.length + (k * n + n) by omega)]
    simp [List.append_assoc]
  | [], _, _, _, _, _, _, hk => by simp at hk
theorem AllC.replicate {x : α} {c : List Value} (h : R x c) : ∀ m, AllC R (List.replicate m x) (Go.Ab.zerosN c m)
  | 0 => rfl
  | m + 1 => ⟨c, Go.Ab.zerosN c m, rfl, h, replicate h m⟩
theorem AllC.split : ∀ {xs ys : List α} {cs : List Value}, AllC R (xs ++ ys) cs → ∃ a b, cs = a ++ b ∧ AllC R xs a ∧ AllC R ys b
  | [], _, cs, h => ⟨[], cs, rfl, rfl, h⟩
  | _ :: _, _, _, ⟨c, d, e, h1, h2⟩ => by
    obtain ⟨a, b, e2, g1, g2⟩ := split h2
    exact ⟨c ++ a, b, by rw [e, e2, List.append_assoc], ⟨c, a, rfl, h1, g1⟩, g2⟩
theorem AllC.over (hn : ∀ x c, R x c → c.length = n) {xs ys : List α} {cs ds : List Value} {off : Nat} (h : AllC R xs cs) (k : AllC R ys ds) : AllC R (over xs off ys) (cs.take (off * n) ++ ds ++ cs.drop (off * n + ds.length)) := by
  unfold Go.Ty.over
  have hd := k.length hn
  have := ((h.take hn off).append k).append (h.drop hn (off + ys.length))
  rw [Nat.add_mul, ← hd] at this
  exact this
theorem AllC.all {P : Value → Prop} (hR : ∀ x c, R x c → ∀ v ∈ c, P v) : ∀ {xs : List α} {cs : List Value}, AllC R xs cs → ∀ v ∈ cs, P v
  | [], _, h => by subst h; simp
  | _ :: _, _, ⟨c, d, e, h1, h2⟩ => by
    subst e
    intro v hv
    rcases List.mem_append.1 hv with h | h
    · exact hR _ _ h1 v h
    · exact all hR h2 v h
end
def strOf (x : List (BitVec 8)) : ByteArray := ⟨(x.map UInt8.ofBitVec).toArray⟩
def nonV : NilK → Value
  | .ptr => .pointer none
  | .func => .nilFunc
  | .map => .map none
  | .iface => .nilIface
def cellsOf : (s : Sh) → s.T → List Value
  | .int k, x => [.int k (toI k x)]
  | .bool, x => [.bool x]
  | .str, x => [.string (strOf x)]
  | .non k, _ => [nonV k]
  | .unit, _ => []
  | .pair a b, x => cellsOf a x.1 ++ cellsOf b x.2
  | .arr _ s, xs => (List.map (cellsOf s) xs).flatten
  | .sl _, _ => [.slice none 0 0]
def gl1 (X : Cx) : Nat → Option (List Value) := fun g => (X.glob g).map fun ⟨s, x⟩ => cellsOf s x
def x1 (X : Cx) : Ab.Cx := { P := X.P, orc := fun _ _ => none, pf := fun _ => false, glob := gl1 X }
def cellsRO (G : Nat → Option (List Value)) (H1 : Ab.Heap) (a : Addr) : Option (List Value) :=
  match a.spot with
  | none => match H1[a.block]? with
    | some (some b) => if b.own = true then none else some b.cells
    | _ => none
  | some _ => G a.block
def Row (G : Nat → Option (List Value)) (H1 : Ab.Heap) (a : Addr) (cs : List Value) : Prop :=
  ∃ B, cellsRO G H1 a = some B ∧ a.off + cs.length ≤ B.length ∧ (B.drop a.off).take cs.length = cs
def RoLe (H H' : Ab.Heap) : Prop := ∀ (i : Nat) b, H[i]? = some (some b) → b.own = false → H'[i]? = some (some b)
def okCap (l c : Nat) : Prop := c = capU ∨ (l ≤ c ∧ c < capU)
def Cells (G : Nat → Option (List Value)) (H1 : Ab.Heap) : (s : Sh) → s.T → List Value → Prop
  | .int k, x, cs => cs = [.int k (toI k x)]
  | .bool, x, cs => cs = [.bool x]
  | .str, x, cs => cs = [.string (strOf x)]
  | .non k, _, cs => cs = [nonV k]
  | .unit, _, cs => cs = []
  | .pair a b, x, cs => ∃ c d, cs = c ++ d ∧ Cells G H1 a x.1 c ∧ Cells G H1 b x.2 d
  | .arr n s, xs, cs => List.length xs = n ∧ AllC (Cells G H1 s) xs cs
  | .sl s, xs, cs => (cs = [.slice none 0 0] ∧ xs = ([] : List s.T)) ∨
      ∃ a c, cs = [.slice (some a) (List.length xs) c] ∧ okCap (List.length xs) c ∧ (xs = ([] : List s.T) ∨ ∃ ds, Row G H1 a ds ∧ AllC (Cells G H1 s) xs ds)
structure Lk where
  H1 : Ab.Heap
  mu : Nat → Option Nat
  ln : Nat → Nat
def inP : Sh → Path → Prop
  | _, [] => True
  | .pair a _, .l :: p => inP a p
  | .pair _ b, .r :: p => inP b p
  | .arr n s, .i k :: p => k < n ∧ inP s p
  | _, _ :: _ => False
def inL (ln : Nat) : Lay → Path → Prop
  | .one s, p => inP s p
  | .row s, .i k :: p => k < ln ∧ inP s p
  | .row _, _ => False
def refIn (ln : Nat) (r : Lay) (p : Path) (e : Sh) (off len : Nat) (cap : Option Nat) : Prop :=
  (∃ n c, subL r p = some (.arr n e) ∧ inL ln r p ∧ cap = some c ∧ len ≤ c ∧ off + c ≤ n) ∨
  (p = [] ∧ r = .row e ∧ off + len ≤ ln ∧ ∀ c, cap = some c → len ≤ c ∧ off + c ≤ ln)
def capIs (ln off len : Nat) : Option Nat → Nat → Prop
  | none, c => c = capU ∨ (c < capU ∧ len ≤ c ∧ off + c ≤ ln)
  | some k, c => c = k ∧ k < capU
def C1 (G : Nat → Option (List Value)) (M : Lk) : Cel → Value → Prop
  | .ptr b r p, v => ∃ i, M.mu b = some i ∧ inL (M.ln b) r p ∧ v = .pointer (some ⟨i, offL r p, none⟩)
  | .fptr s x, v => ∃ a ds, v = .pointer (some a) ∧ Row G M.H1 a ds ∧ Cells G M.H1 s x ds
  | .ref b r p e off len cap, v => ∃ i c o, M.mu b = some i ∧ refIn (M.ln b) r p e off len cap ∧ v = .slice (some ⟨i, o, none⟩) len c ∧ o ≤ offL r p + off * e.size ∧ (o = offL r p + off * e.size ∨ c = 0) ∧ capIs (M.ln b) off len cap c
  | .nilS, v => v = .slice none 0 0
  | .emp, v => ∃ a c, v = .slice (some a) 0 c ∧ okCap 0 c
  | .z0, v => v = .slice none 0 0 ∨ ∃ i o, v = .slice (some ⟨i, o, none⟩) 0 0
  | .clo f cs, v => ∃ us : List Value, v = .func (.func f) #[] ⟨us⟩ ∧ us.length = cs.length ∧ ∀ (j : Nat) c, cs[j]? = some c → ∃ a ds, us[j]? = some (.pointer (some a)) ∧ Row G M.H1 a ds ∧ Cells G M.H1 c.1 c.2 ds
  | .fn f, v => v = .func (.func f) #[] #[]
def CellsA (G : Nat → Option (List Value)) (M : Lk) : AV → Sh → List Value → Prop
  | .val t x => fun s cs => t = s ∧ Cells G M.H1 t x cs
  | .two a b => fun s cs => ∃ s1 s2, s = .pair s1 s2 ∧ ∃ c d, cs = c ++ d ∧ CellsA G M a s1 c ∧ CellsA G M b s2 d
  | .cell q => fun s cs => s.isAgg = false ∧ ∃ v, cs = [v] ∧ C1 G M q v
def mkV (agg : Bool) (cs : List Value) : Value := bif agg then .agg ⟨cs⟩ else cs.headD (.tuple #[])
def VR (G : Nat → Option (List Value)) (M : Lk) (v : AV) (u : Value) : Prop := ∃ s cs, CellsA G M v s cs ∧ u = mkV s.isAgg cs
def SVR (G : Nat → Option (List Value)) (M : Lk) : SV → Value → Prop
  | .av v, u => VR G M v u
  | .tup l, u => ∃ us, u = .tuple us ∧ l.length = us.toList.length ∧ ∀ (j : Nat) v, l[j]? = some v → ∃ u', us.toList[j]? = some u' ∧ VR G M v u'
def ContR (G : Nat → Option (List Value)) (M : Lk) : Cont → Ab.Blk → Prop
  | .one s v, B => CellsA G M v s B.cells
  | .row s xs, B => AllC (Cells G M.H1 s) xs B.cells ∧ B.es = s.size ∧ 0 < s.size
structure HR (G : Nat → Option (List Value)) (M : Lk) (H : Heap) : Prop where
  live : ∀ k x, H k = .live x → ∃ i B, M.mu k = some i ∧ M.H1[i]? = some (some B) ∧ B.own = x.own ∧ ContR G M x.c B ∧ ∀ s xs, x.c = .row s xs → xs.length = M.ln k
  inj : ∀ k k' x x' i, H k = .live x → H k' = .live x' → x.own = true → M.mu k = some i → M.mu k' = some i → k = k'
  fresh : ∀ k, H k = .fresh → M.mu k = none
  lt : ∀ k i, M.mu k = some i → i < M.H1.length
def Foreign (M : Lk) (H : Heap) (i : Nat) : Prop := ∀ k x, H k = .live x → x.own = true → M.mu k ≠ some i
structure Ext (M : Lk) (H : Heap) (M' : Lk) (H' : Heap) : Prop where
  len : M.H1.length ≤ M'.H1.length
  mu : ∀ k i, M.mu k = some i → M'.mu k = some i ∧ M'.ln k = M.ln k
  keep : ∀ (i : Nat) b, M.H1[i]? = some (some b) → Foreign M H i → M'.H1[i]? = some (some b) ∧ Foreign M' H' i
  ro : RoLe M.H1 M'.H1
theorem Ext.refl {M : Lk} {H : Heap} : Ext M H M H := ⟨Nat.le_refl _, fun _ _ h => ⟨h, rfl⟩, fun _ _ h k => ⟨h, k⟩, fun _ _ h _ => h⟩
theorem Ext.trans {M M' M'' : Lk} {H H' H'' : Heap} (h : Ext M H M' H') (k : Ext M' H' M'' H'') : Ext M H M'' H'' :=
  ⟨Nat.le_trans h.len k.len, fun a i e => ⟨(k.mu a i (h.mu a i e).1).1, by rw [(k.mu a i (h.mu a i e).1).2, (h.mu a i e).2]⟩, fun i b e f => by
    obtain ⟨e1, f1⟩ := h.keep i b e f
    exact k.keep i b e1 f1, fun i b e o => k.ro i b (h.ro i b e o) o⟩
def bot : Nat := 1000
structure ExtW (M : Lk) (H : Heap) (M' : Lk) (H' : Heap) : Prop where
  len : M.H1.length ≤ M'.H1.length
  mu : ∀ k i, k < bot → M.mu k = some i → M'.mu k = some i ∧ M'.ln k = M.ln k
  keep : ∀ (i : Nat) b, M.H1[i]? = some (some b) → Foreign M H i → M'.H1[i]? = some (some b) ∧ Foreign M' H' i
  ro : RoLe M.H1 M'.H1
theorem Ext.w {M : Lk} {H : Heap} {M' : Lk} {H' : Heap} (h : Ext M H M' H') : ExtW M H M' H' := ⟨h.len, fun k i _ e => h.mu k i e, h.keep, h.ro⟩
theorem ExtW.refl {M : Lk} {H : Heap} : ExtW M H M H := Ext.refl.w
theorem ExtW.trans {M M' M'' : Lk} {H H' H'' : Heap} (h : ExtW M H M' H') (k : ExtW M' H' M'' H'') : ExtW M H M'' H'' :=
  ⟨Nat.le_trans h.len k.len, fun a i hb e => ⟨(k.mu a i hb (h.mu a i hb e).1).1, by rw [(k.mu a i hb (h.mu a i hb e).1).2, (h.mu a i hb e).2]⟩, fun i b e f => by
    obtain ⟨e1, f1⟩ := h.keep i b e f
    exact k.keep i b e1 f1, fun i b e o => k.ro i b (h.ro i b e o) o⟩
section
variable {G : Nat → Option (List Value)} {H1 H1' : Ab.Heap} {M M' : Lk}
theorem Row.mono {a : Addr} {cs : List Value} (h : Row G H1 a cs) (hr : RoLe H1 H1') : Row G H1' a cs := by
  obtain ⟨B, h1, h2, h3⟩ := h
  refine ⟨B, ?_, h2, h3⟩
  unfold cellsRO at h1 ⊢
  cases hs : a.spot with
  | some _ => simpa [hs] using h1
  | none =>
    simp only [hs] at h1 ⊢
    cases hb : H1[a.block]? with
    | none => simp [hb] at h1
    | some o =>
      cases o with
      | none => simp [hb] at h1
      | some b =>
        simp only [hb] at h1
        by_cases ho : b.own = true
        · simp [ho] at h1
        · rw [hr _ b hb (by simpa using ho)]
          simpa [ho] using h1
theorem Cells.mono (hr : RoLe H1 H1') : ∀ {s : Sh} {x : s.T} {cs : List Value}, Cells G H1 s x cs → Cells G H1' s x cs
  | .int _, _, _, h => h
  | .bool, _, _, h => h
  | .str, _, _, h => h
  | .non _, _, _, h => h
  | .unit, _, _, h => h
  | .pair _ _, _, _, ⟨c, d, e, h1, h2⟩ => ⟨c, d, e, mono hr h1, mono hr h2⟩
  | .arr _ s, _, _, ⟨h1, h2⟩ => ⟨h1, h2.mono fun _ _ h => mono (s := s) hr h⟩
  | .sl s, _, _, h => by
    rcases h with h | ⟨a, c, e, h1, h2⟩
    · exact .inl h
    · refine .inr ⟨a, c, e, h1, h2.imp id ?_⟩
      rintro ⟨ds, g1, g2⟩
      exact ⟨ds, g1.mono hr, g2.mono fun _ _ h => mono (s := s) hr h⟩
theorem C1.mono (hr : RoLe M.H1 M'.H1) (hm : ∀ k i, M.mu k = some i → M'.mu k = some i ∧ M'.ln k = M.ln k) {v : Cel} {u : Value} (h : C1 G M v u) : C1 G M' v u := by
  cases v with
  | ptr b r p => obtain ⟨i, h1, h0, h2⟩ := h; exact ⟨i, (hm _ _ h1).1, by rw [(hm _ _ h1).2]; exact h0, h2⟩
  | fptr s x => obtain ⟨a, ds, h1, h2, h3⟩ := h; exact ⟨a, ds, h1, h2.mono hr, h3.mono hr⟩
  | clo f cs =>
    obtain ⟨us, h1, h2, h3⟩ := h
    refine ⟨us, h1, h2, fun j c hj => ?_⟩
    obtain ⟨a, ds, k1, k2, k3⟩ := h3 j c hj
    exact ⟨a, ds, k1, k2.mono hr, k3.mono hr⟩
  | ref b r p e o l c => obtain ⟨i, c, q, h1, h0, h2⟩ := h; exact ⟨i, c, q, (hm _ _ h1).1, by rw [(hm _ _ h1).2]; exact h0, by rw [(hm _ _ h1).2]; exact h2⟩
  | _ => exact h
theorem CellsA.mono (hr : RoLe M.H1 M'.H1) (hm : ∀ k i, M.mu k = some i → M'.mu k = some i ∧ M'.ln k = M.ln k) : ∀ {v : AV} {s : Sh} {cs : List Value}, CellsA G M v s cs → CellsA G M' v s cs
  | .val _ _, _, _, h => ⟨h.1, h.2.mono hr⟩
  | .two _ _, _, _, ⟨s1, s2, e0, c, d, e, h1, h2⟩ => ⟨s1, s2, e0, c, d, e, mono hr hm h1, mono hr hm h2⟩
  | .cell _, _, _, ⟨h1, v, e, h2⟩ => ⟨h1, v, e, h2.mono hr hm⟩
theorem VR.mono (hr : RoLe M.H1 M'.H1) (hm : ∀ k i, M.mu k = some i → M'.mu k = some i ∧ M'.ln k = M.ln k) {v : AV} {u : Value} (h : VR G M v u) : VR G M' v u := by
  obtain ⟨s, cs, h1, h2⟩ := h; exact ⟨s, cs, h1.mono hr hm, h2⟩
theorem SVR.mono (hr : RoLe M.H1 M'.H1) (hm : ∀ k i, M.mu k = some i → M'.mu k = some i ∧ M'.ln k = M.ln k) {v : SV} {u : Value} (h : SVR G M v u) : SVR G M' v u := by
  cases v with
  | av v => exact VR.mono hr hm h
  | tup l =>
    obtain ⟨us, e, h1, h2⟩ := h
    refine ⟨us, e, h1, fun j v hv => ?_⟩
    obtain ⟨u', g1, g2⟩ := h2 j v hv
    exact ⟨u', g1, g2.mono hr hm⟩
theorem SVR.ext {H H' : Heap} (hx : Ext M H M' H') {v : SV} {u : Value} (h : SVR G M v u) : SVR G M' v u := h.mono hx.ro hx.mu
theorem ContR.mono (hr : RoLe M.H1 M'.H1) (hm : ∀ k i, M.mu k = some i → M'.mu k = some i ∧ M'.ln k = M.ln k) {c : Cont} {B : Ab.Blk} (h : ContR G M c B) : ContR G M' c B := by
  cases c with
  | one s v => exact CellsA.mono hr hm h
  | row s xs => exact ⟨h.1.mono fun _ _ h => h.mono hr, h.2⟩
theorem Cells.length : ∀ {s : Sh} {x : s.T} {cs : List Value}, Cells G H1 s x cs → cs.length = s.size
  | .int _, _, _, h | .bool, _, _, h | .str, _, _, h | .non _, _, _, h | .unit, _, _, h => by subst h; rfl
  | .pair _ _, _, _, ⟨c, d, e, h1, h2⟩ => by subst e; rw [List.length_append, length h1, length h2]; rfl
  | .arr n s, _, _, ⟨h1, h2⟩ => by rw [h2.length (fun _ _ h => length h), h1]; rfl
  | .sl _, _, _, h => by
    rcases h with ⟨h, _⟩ | ⟨a, c, h, _⟩ <;> · subst h; rfl
theorem size_one {s : Sh} (h : s.isAgg = false) : s.size = 1 := by cases s <;> first | rfl | simp [Sh.isAgg] at h
theorem CellsA.length : ∀ {v : AV} {s : Sh} {cs : List Value}, CellsA G M v s cs → cs.length = s.size
  | .val _ _, _, _, h => by rw [← h.1]; exact h.2.length
  | .two _ _, _, _, ⟨s1, s2, e0, c, d, e, h1, h2⟩ => by subst e0; subst e; rw [List.length_append, length h1, length h2]; rfl
  | .cell _, s, _, ⟨h1, v, e, h2⟩ => by subst e; rw [size_one h1]; rfl
def cellB : Value → Bool
  | .agg _ | .tuple _ => false
  | _ => true
theorem Cells.cells : ∀ {s : Sh} {x : s.T} {cs : List Value}, Cells G H1 s x cs → ∀ v ∈ cs, cellB v = true
  | .int _, _, _, h | .bool, _, _, h | .str, _, _, h | .unit, _, _, h => by subst h; simp [cellB]
  | .non k, _, _, h => by subst h; cases k <;> simp [cellB, nonV]
  | .pair _ _, _, _, ⟨c, d, e, h1, h2⟩ => by
    subst e; intro v hv
    rcases List.mem_append.1 hv with h | h
    · exact cells h1 v h
    · exact cells h2 v h
  | .arr n s, _, _, ⟨_, h2⟩ => h2.all fun _ _ h => cells h
  | .sl _, _, _, h => by
    rcases h with ⟨h, _⟩ | ⟨a, c, h, _⟩ <;> · subst h; simp [cellB]
theorem C1.cell {v : Cel} {u : Value} (h : C1 G M v u) : cellB u = true := by
  cases v with
  | ptr b r p => obtain ⟨i, _, _, rfl⟩ := h; rfl
  | fptr s x => obtain ⟨a, ds, rfl, _⟩ := h; rfl
  | ref b r p e o l c => obtain ⟨i, c, q, _, _, rfl, _⟩ := h; rfl
  | nilS => have h : u = .slice none 0 0 := h; subst h; rfl
  | emp => obtain ⟨a, c, rfl, _⟩ := h; rfl
  | z0 => rcases h with rfl | ⟨i, o, rfl⟩ <;> rfl
  | clo f cs => obtain ⟨us, rfl, _⟩ := h; rfl
  | fn f => have h : u = .func (.func f) #[] #[] := h; subst h; rfl
theorem CellsA.cells : ∀ {v : AV} {s : Sh} {cs : List Value}, CellsA G M v s cs → ∀ u ∈ cs, cellB u = true
  | .val _ _, _, _, h => h.2.cells
  | .two _ _, _, _, ⟨s1, s2, e0, c, d, e, h1, h2⟩ => by
    subst e; intro v hv
    rcases List.mem_append.1 hv with h | h
    · exact cells h1 v h
    · exact cells h2 v h
  | .cell _, s, _, ⟨h1, v, e, h2⟩ => by subst e; simpa using h2.cell
theorem vcells_mk {agg : Bool} {cs : List Value} (h : agg = true ∨ ∃ v, cs = [v] ∧ cellB v = true) : vcells (mkV agg cs) = cs := by
  cases agg with
  | true => rfl
  | false =>
    rcases h with h | ⟨v, rfl, h⟩
    · cases h
    · cases v <;> first | rfl | simp [cellB] at h
theorem CellsA.mk {v : AV} {s : Sh} {cs : List Value} (h : CellsA G M v s cs) : s.isAgg = true ∨ ∃ v, cs = [v] ∧ cellB v = true := by
  cases hs : s.isAgg with
  | true => exact .inl rfl
  | false =>
    have hl := h.length
    rw [size_one hs] at hl
    match cs, hl, h.cells with
    | [u], _, hc => exact .inr ⟨u, rfl, hc u (by simp)⟩
theorem CellsA.vcells {v : AV} {s : Sh} {cs : List Value} (h : CellsA G M v s cs) : vcells (mkV s.isAgg cs) = cs := vcells_mk h.mk
theorem VR.of {v : AV} {s : Sh} {cs : List Value} (h : CellsA G M v s cs) : VR G M v (mkV s.isAgg cs) := ⟨s, cs, h, rfl⟩
theorem VR.val {s : Sh} {x : s.T} {u : Value} (h : VR G M (.val s x) u) : ∃ cs, Cells G M.H1 s x cs ∧ u = mkV s.isAgg cs := by
  obtain ⟨t, cs, ⟨h1, h2⟩, h3⟩ := h
  subst h1
  exact ⟨cs, h2, h3⟩
theorem VR.cell {q : Cel} {u : Value} (h : VR G M (.cell q) u) : C1 G M q u := by
  obtain ⟨t, cs, ⟨h1, v, e, h2⟩, h3⟩ := h
  subst e
  rw [h1] at h3
  have h3 : u = v := h3
  rw [h3]; exact h2
theorem VR.mkcell {q : Cel} {u : Value} (h : C1 G M q u) : VR G M (.cell q) u := ⟨.bool, [u], ⟨rfl, u, rfl, h⟩, rfl⟩
theorem VR.mkval {s : Sh} {x : s.T} {cs : List Value} (h : Cells G M.H1 s x cs) : VR G M (.val s x) (mkV s.isAgg cs) := ⟨s, cs, ⟨rfl, h⟩, rfl⟩
theorem VR.nottup {v : AV} {u : Value} (h : VR G M v u) : Go.Ab.isTup u = false := by
  obtain ⟨s, cs, h1, rfl⟩ := h
  rcases h1.mk with e | ⟨v, rfl, e⟩
  · rw [e]; rfl
  · cases hs : s.isAgg with
    | true => rfl
    | false => cases v <;> first | rfl | simp [cellB] at e
theorem CellsA.agg_of {v : AV} {s t : Sh} {cs : List Value} (h : CellsA G M v s cs) (k : v.conf t = true) : s.isAgg = t.isAgg := by
  cases v with
  | val u x => simp only [AV.conf] at k; have := Sh.eq_of_beq k; rw [← h.1, this]
  | two a b => obtain ⟨s1, s2, e, _⟩ := h; subst e; cases t <;> first | rfl | simp [AV.conf] at k
  | cell q => simp only [AV.conf, Bool.not_eq_true'] at k; rw [h.1, k]
theorem CellsA.conf : ∀ {v : AV} {s t : Sh} {cs : List Value}, CellsA G M v s cs → v.conf t = true → CellsA G M v t cs
  | .val _ _, s, t, cs, h, k => by
    simp only [AV.conf] at k
    exact ⟨Sh.eq_of_beq k, h.2⟩
  | .two a b, _, t, _, ⟨s1, s2, e0, c, d, e, h1, h2⟩, k => by
    cases t with
    | pair t1 t2 =>
      simp only [AV.conf, Bool.and_eq_true] at k
      exact ⟨t1, t2, rfl, c, d, e, conf h1 k.1, conf h2 k.2⟩
    | _ => simp [AV.conf] at k
  | .cell _, _, t, _, h, k => by
    simp only [AV.conf, Bool.not_eq_true'] at k
    exact ⟨k, h.2⟩
theorem VR.conf {v : AV} {t : Sh} {u : Value} (h : VR G M v u) (k : v.conf t = true) : ∃ cs, CellsA G M v t cs ∧ u = mkV t.isAgg cs := by
  obtain ⟨s, cs, h1, h2⟩ := h
  exact ⟨cs, h1.conf k, by rw [h2, h1.agg_of k]⟩
end
end Go.Ty
namespace Go.Ty
open Go.Ab (vcells plainC capU szOf zeroOf aggT apart splice)
theorem zvEq_eq {a b : Value} (h : zvEq a b = true) : a = b := by
  unfold zvEq at h
  split at h
  · simp only [Bool.and_eq_true, decide_eq_true_eq] at h; rw [h.1, h.2]
  · simp only [beq_iff_eq] at h; rw [h]
  · rename_i x y
    simp only [Bool.and_eq_true] at h
    have e : ∀ z : ByteArray, Nat.beq z.size 0 = true → z = ⟨#[]⟩ := by
      intro z hz
      have hz := Nat.eq_of_beq_eq_true hz
      cases z with
      | mk d => have : d = #[] := Array.eq_empty_of_size_eq_zero hz; rw [this]
    rw [e x h.1, e y h.2]
  all_goals first | rfl | cases h
theorem zlEq_eq : ∀ {a b : List Value}, zlEq a b = true → a = b
  | [], [], _ => rfl
  | x :: a, y :: b, h => by
    simp only [zlEq, Bool.and_eq_true] at h
    rw [zvEq_eq h.1, zlEq_eq h.2]
section
variable {P : Program} {s : Sh} {t : TypeId}
theorem szChk_sz (h : szChk P s t = true) : szOf P t = some s.size := by
  unfold szChk at h
  rw [Bool.and_eq_true] at h
  have h := h.1
  split at h
  · rename_i n hn; rw [hn, Nat.eq_of_beq_eq_true h]
  · cases h
theorem szChk_zero (h : szChk P s t = true) : zeroOf P t = some (mkV s.isAgg (zcells s)) := by
  unfold szChk at h
  rw [Bool.and_eq_true] at h
  have h := h.2
  split at h
  · rename_i cs hz
    rw [Bool.and_eq_true] at h
    rw [hz, h.1, ← zlEq_eq h.2]; rfl
  · rename_i v _ hz
    rw [Bool.and_eq_true, Bool.not_eq_true'] at h
    rw [hz, h.1, ← zlEq_eq h.2]; rfl
  · cases h
theorem shChk_szChk (h : shChk P s (.inl t) = true) : szChk P s t = true := by
  cases s with
  | non k => cases k <;> (simp only [shChk, Bool.and_eq_true] at h; exact h.2)
  | _ => simp only [shChk, Bool.and_eq_true] at h; exact h.2
theorem shChk_sz (h : shChk P s (.inl t) = true) : szOf P t = some s.size := szChk_sz (shChk_szChk h)
theorem shChk_zero (h : shChk P s (.inl t) = true) : zeroOf P t = some (mkV s.isAgg (zcells s)) := szChk_zero (shChk_szChk h)
theorem shChk_arr {n : Nat} (h : shChk P (.arr n s) (.inl t) = true) : ∃ e, P.underlying t = some (.array n e) ∧ shChk P s (.inl e) = true := by
  simp only [shChk, Bool.and_eq_true] at h
  have h := h.1
  split at h
  · rename_i m e he
    rw [Bool.and_eq_true] at h
    exact ⟨e, by rw [he, Nat.eq_of_beq_eq_true h.1], h.2⟩
  · cases h
theorem shChk_slb (h : shChk P (.sl s) (.inl t) = true) : ∃ e, P.underlying t = some (.slice e) ∧ shChk P s (.inl e) = true ∧ Ab.bytesOf P e = some s.bytes := by
  simp only [shChk, Bool.and_eq_true] at h
  have h := h.1
  split at h
  · rename_i e he
    rw [Bool.and_eq_true] at h
    refine ⟨e, he, h.1, ?_⟩
    have h2 := h.2
    split at h2
    · rename_i n hn; rw [hn, Nat.eq_of_beq_eq_true h2]
    · cases h2
  · cases h
theorem shChk_sl (h : shChk P (.sl s) (.inl t) = true) : ∃ e, P.underlying t = some (.slice e) ∧ shChk P s (.inl e) = true := by
  obtain ⟨e, h1, h2, _⟩ := shChk_slb h
  exact ⟨e, h1, h2⟩
theorem shChk_int {k : IntKind} (h : shChk P (.int k) (.inl t) = true) : P.underlying t = some (.int k) := by
  simp only [shChk, Bool.and_eq_true] at h
  have h := h.1
  split at h
  · rename_i j he; rw [he]; simp only [decide_eq_true_eq] at h; rw [h]
  · cases h
theorem shChk_bool (h : shChk P .bool (.inl t) = true) : P.underlying t = some .bool := by
  simp only [shChk, Bool.and_eq_true] at h
  have h := h.1
  split at h
  · rename_i he; exact he
  · cases h
theorem shChk_str (h : shChk P .str (.inl t) = true) : P.underlying t = some .string := by
  simp only [shChk, Bool.and_eq_true] at h
  have h := h.1
  split at h
  · rename_i he; exact he
  · cases h
theorem shChk_pair {a b : Sh} (h : shChk P (.pair a b) (.inl t) = true) : ∃ fs, P.underlying t = some (.struct fs) ∧ shChk P (.pair a b) (.inr (fs.toList, 0)) = true := by
  simp only [shChk, Bool.and_eq_true] at h
  have h := h.1
  split at h
  · rename_i f r he
    refine ⟨⟨f :: r⟩, he, ?_⟩
    simp only [Bool.and_eq_true] at h
    simp only [shChk, Bool.and_eq_true, Nat.zero_add]
    exact h
  · cases h
theorem shChk_unit (h : shChk P .unit (.inl t) = true) : P.underlying t = some (.struct #[]) := by
  simp only [shChk, Bool.and_eq_true] at h
  have h := h.1
  split at h
  · rename_i he; exact he
  · cases h
theorem shChk_und (h : shChk P s (.inl t) = true) : ∃ d, P.underlying t = some d ∧ aggT d = s.isAgg := by
  cases s with
  | int k => exact ⟨_, shChk_int h, rfl⟩
  | bool => exact ⟨_, shChk_bool h, rfl⟩
  | str => exact ⟨_, shChk_str h, rfl⟩
  | non k =>
    cases k <;> simp only [shChk, Bool.and_eq_true] at h <;> (have h := h.1; split at h <;> first | (rename_i he; exact ⟨_, he, rfl⟩) | cases h)
  | unit => exact ⟨_, shChk_unit h, rfl⟩
  | pair a b => obtain ⟨fs, h1, _⟩ := shChk_pair h; exact ⟨_, h1, rfl⟩
  | arr n s => obtain ⟨e, h1, _⟩ := shChk_arr h; exact ⟨_, h1, rfl⟩
  | sl s => obtain ⟨e, h1, _⟩ := shChk_sl h; exact ⟨_, h1, rfl⟩
theorem fields_sh : ∀ {s : Sh} {l : List Field} {off f : Nat}, shChk P s (.inr (l, off)) = true → (∀ fld, l[f]? = some fld → ∃ sf, subS s (fieldP f) = some sf ∧ fld.offset = off + offS s (fieldP f) ∧ shChk P sf (.inl fld.type) = true) ∧
    (∀ sf, subS s (fieldP f) = some sf → ∃ fld, l[f]? = some fld)
  | .unit, [], off, f, _ => ⟨fun fld h => by simp at h, fun sf h => by cases f <;> simp [fieldP, subS] at h⟩
  | .unit, _ :: _, _, _, h => by simp [shChk] at h
  | .pair a b, [], _, _, h => by simp [shChk] at h
  | .pair a b, g :: r, off, 0, h => by
    simp only [shChk, Bool.and_eq_true] at h
    refine ⟨fun fld hf => ?_, fun sf _ => ⟨g, rfl⟩⟩
    simp only [List.getElem?_cons_zero, Option.some.injEq] at hf
    subst hf
    exact ⟨a, by simp [fieldP, subS], by rw [Nat.eq_of_beq_eq_true h.1]; simp [fieldP, offS], h.2.1⟩
  | .pair a b, g :: r, off, f + 1, h => by
    simp only [shChk, Bool.and_eq_true] at h
    obtain ⟨h1, h2⟩ := fields_sh (f := f) h.2.2
    refine ⟨fun fld hf => ?_, fun sf hs => ?_⟩
    · obtain ⟨sf, g1, g2, g3⟩ := h1 fld (by simpa using hf)
      exact ⟨sf, by simpa [fieldP, subS] using g1, by rw [g2]; simp [fieldP, offS]; omega, g3⟩
    · obtain ⟨fld, g1⟩ := h2 sf (by simpa [fieldP, subS] using hs)
      exact ⟨fld, by simpa using g1⟩
  | .int _, _, _, _, h | .bool, _, _, _, h | .str, _, _, _, h | .non _, _, _, _, h | .arr _ _, _, _, _, h | .sl _, _, _, _, h => by simp [shChk] at h
theorem field_of {f : Nat} {sf : Sh} (h : shChk P s (.inl t) = true) (hs : subS s (fieldP f) = some sf) : ∃ fs fld, P.underlying t = some (.struct fs) ∧ fs.toList[f]? = some fld ∧ fld.offset = offS s (fieldP f) ∧ shChk P sf (.inl fld.type) = true := by
  cases s with
  | pair a b =>
    obtain ⟨fs, h1, h2⟩ := shChk_pair h
    obtain ⟨g1, g2⟩ := fields_sh (f := f) h2
    obtain ⟨fld, k1⟩ := g2 sf hs
    obtain ⟨sf', k2, k3, k4⟩ := g1 fld k1
    rw [hs] at k2; cases k2
    exact ⟨fs, fld, h1, k1, by omega, k4⟩
  | _ => cases f <;> simp [fieldP, subS] at hs
end
section
variable {G : Nat → Option (List Value)} {H1 : Ab.Heap} {M : Lk}
theorem toI_ofI_zero (k : IntKind) : toI k (ofI k 0) = 0 := by cases k <;> rfl
theorem zerosN_eq (z : List Value) : ∀ n, Ab.zerosN z n = (List.replicate n z).flatten
  | 0 => rfl
  | n + 1 => by rw [List.replicate_succ, List.flatten_cons, ← zerosN_eq z n]; rfl
theorem Cells.zero : ∀ (s : Sh), Cells G H1 s s.dft (zcells s)
  | .int k => by show [Value.int k 0] = [Value.int k (toI k (ofI k 0))]; rw [toI_ofI_zero]
  | .bool => rfl
  | .str => rfl
  | .non k => by cases k <;> rfl
  | .unit => rfl
  | .pair a b => ⟨_, _, rfl, zero a, zero b⟩
  | .arr n s => ⟨List.length_replicate, AllC.replicate (zero s) n⟩
  | .sl s => .inl ⟨rfl, rfl⟩
theorem CellsA.zero : ∀ (s : Sh), CellsA G M (zeroA s) s (zcells s)
  | .int k => ⟨rfl, Cells.zero _⟩
  | .bool => ⟨rfl, Cells.zero _⟩
  | .str => ⟨rfl, Cells.zero _⟩
  | .non k => ⟨rfl, Cells.zero _⟩
  | .unit => ⟨rfl, Cells.zero _⟩
  | .pair a b => by
    unfold zeroA
    cases hf : (Sh.pair a b).flat with
    | true => exact ⟨rfl, Cells.zero (.pair a b)⟩
    | false => exact ⟨a, b, rfl, _, _, rfl, zero a, zero b⟩
  | .arr n s => ⟨rfl, Cells.zero (.arr n s)⟩
  | .sl s => ⟨rfl, _, rfl, rfl⟩
theorem zcells_plain : ∀ (s : Sh), ∀ v ∈ zcells s, plainC v = true
  | .int k => by simp [zcells, plainC]
  | .bool => by simp [zcells, plainC]
  | .str => by simp [zcells, plainC]
  | .non k => by cases k <;> simp [zcells, plainC]
  | .unit => by simp [zcells]
  | .pair a b => by
    intro v hv
    simp only [zcells, List.mem_append] at hv
    rcases hv with h | h
    · exact zcells_plain a v h
    · exact zcells_plain b v h
  | .arr n s => by
    intro v hv
    simp only [zcells, zerosN_eq, List.mem_flatten, List.mem_replicate] at hv
    obtain ⟨l, ⟨_, rfl⟩, h⟩ := hv
    exact zcells_plain s v h
  | .sl s => by simp [zcells, plainC]
theorem zcells_len (s : Sh) : (zcells s).length = s.size := (Cells.zero (G := fun _ => none) (H1 := []) s).length
theorem rd_of {s : Sh} {xs : List s.T} {k : Nat} (h : k < xs.length) : xs[k]? = some (rd s xs k) := by
  unfold rd; rw [List.getD_eq_getElem?_getD, List.getElem?_eq_getElem h]; rfl
theorem getP_cells : ∀ (p : Path) {s : Sh} {x : s.T} {cs : List Value} {v : AV}, Cells G H1 s x cs → inP s p → getP s p x = some v →
    ∃ t y, v = .val t y ∧ subS s p = some t ∧ offS s p + t.size ≤ cs.length ∧ Cells G H1 t y ((cs.drop (offS s p)).take t.size)
  | [], s, x, cs, v, h, _, hg => by
    simp only [getP, Option.some.injEq] at hg
    subst hg
    refine ⟨s, x, rfl, by cases s <;> rfl, by rw [h.length]; cases s <;> simp [offS], ?_⟩
    rw [show offS s [] = 0 by cases s <;> rfl, List.drop_zero, List.take_of_length_le (by rw [h.length]; exact Nat.le_refl _)]
    exact h
  | .l :: p, .pair a b, x, _, v, ⟨c, d, e, h1, h2⟩, hi, hg => by
    subst e
    obtain ⟨t, y, e1, e2, e3, e4⟩ := getP_cells p h1 hi hg
    refine ⟨t, y, e1, e2, by simp only [offS, List.length_append]; omega, ?_⟩
    simp only [offS]
    rw [List.drop_append_of_le_length (by omega), List.take_append_of_le_length (by rw [List.length_drop]; omega)]
    exact e4
  | .r :: p, .pair a b, x, _, v, ⟨c, d, e, h1, h2⟩, hi, hg => by
    subst e
    obtain ⟨t, y, e1, e2, e3, e4⟩ := getP_cells p h2 hi hg
    have hc := h1.length
    refine ⟨t, y, e1, e2, by simp only [offS, List.length_append]; omega, ?_⟩
    simp only [offS]
    rw [← hc, List.drop_append, List.drop_eq_nil_of_le (Nat.le_add_right _ _), Nat.add_sub_cancel_left, List.nil_append]
    exact e4
  | .i k :: p, .arr n s, xs, cs, v, ⟨h1, h2⟩, hi, hg => by
    have hk : k < List.length xs := by rw [h1]; exact hi.1
    obtain ⟨g1, g2⟩ := h2.nth (fun _ _ h => h.length) (rd_of hk)
    obtain ⟨t, y, e1, e2, e3, e4⟩ := getP_cells p g1 hi.2 hg
    have hl : (List.take s.size (List.drop (k * s.size) cs)).length = s.size := by rw [List.length_take, List.length_drop]; omega
    rw [hl] at e3
    refine ⟨t, y, e1, e2, by simp only [offS]; omega, ?_⟩
    simp only [offS]
    rw [List.drop_take, List.drop_drop, List.take_take, Nat.min_eq_left (by omega)] at e4
    exact e4
  | .l :: _, .int _, _, _, _, _, hi, _ | .l :: _, .bool, _, _, _, _, hi, _ | .l :: _, .str, _, _, _, _, hi, _ | .l :: _, .non _, _, _, _, _, hi, _ | .l :: _, .unit, _, _, _, _, hi, _ | .l :: _, .arr _ _, _, _, _, _, hi, _ | .l :: _, .sl _, _, _, _, _, hi, _ => hi.elim
  | .r :: _, .int _, _, _, _, _, hi, _ | .r :: _, .bool, _, _, _, _, hi, _ | .r :: _, .str, _, _, _, _, hi, _ | .r :: _, .non _, _, _, _, _, hi, _ | .r :: _, .unit, _, _, _, _, hi, _ | .r :: _, .arr _ _, _, _, _, _, hi, _ | .r :: _, .sl _, _, _, _, _, hi, _ => hi.elim
  | .i _ :: _, .int _, _, _, _, _, hi, _ | .i _ :: _, .bool, _, _, _, _, hi, _ | .i _ :: _, .str, _, _, _, _, hi, _ | .i _ :: _, .non _, _, _, _, _, hi, _ | .i _ :: _, .unit, _, _, _, _, hi, _ | .i _ :: _, .pair _ _, _, _, _, _, hi, _ | .i _ :: _, .sl _, _, _, _, _, hi, _ => hi.elim
theorem getA_cells : ∀ (p : Path) {v : AV} {s : Sh} {cs : List Value} {u : AV}, CellsA G M v s cs → inP s p → getA v p = some u →
    ∃ t, subS s p = some t ∧ offS s p + t.size ≤ cs.length ∧ CellsA G M u t ((cs.drop (offS s p)).take t.size)
  | [], v, s, cs, u, h, _, hg => by
    have : u = v := by cases v <;> simp [getA] at hg <;> exact hg.symm
    subst this
    refine ⟨s, by cases s <;> rfl, by rw [h.length]; cases s <;> simp [offS], ?_⟩
    rw [show offS s [] = 0 by cases s <;> rfl, List.drop_zero, List.take_of_length_le (by rw [h.length]; exact Nat.le_refl _)]
    exact h
  | q :: p, .val t x, s, cs, u, h, hi, hg => by
    obtain ⟨rfl, h⟩ := h
    simp only [getA] at hg
    obtain ⟨t', y, e1, e2, e3, e4⟩ := getP_cells (q :: p) h hi hg
    exact ⟨t', e2, e3, by rw [e1]; exact ⟨rfl, e4⟩⟩
  | .l :: p, .two a b, _, _, u, ⟨s1, s2, e0, c, d, e, h1, h2⟩, hi, hg => by
    subst e0; subst e
    obtain ⟨t, e2, e3, e4⟩ := getA_cells p h1 hi hg
    refine ⟨t, e2, by simp only [offS, List.length_append]; omega, ?_⟩
    simp only [offS]
    rw [List.drop_append_of_le_length (by omega), List.take_append_of_le_length (by rw [List.length_drop]; omega)]
    exact e4
  | .r :: p, .two a b, _, _, u, ⟨s1, s2, e0, c, d, e, h1, h2⟩, hi, hg => by
    subst e0; subst e
    obtain ⟨t, e2, e3, e4⟩ := getA_cells p h2 hi hg
    have hc := h1.length
    refine ⟨t, e2, by simp only [offS, List.length_append]; omega, ?_⟩
    simp only [offS]
    rw [← hc, List.drop_append, List.drop_eq_nil_of_le (Nat.le_add_right _ _), Nat.add_sub_cancel_left, List.nil_append]
    exact e4
  | .i k :: p, .two a b, _, _, u, ⟨s1, s2, e0, c, d, e, h1, h2⟩, hi, hg => by subst e0; exact hi.elim
  | q :: p, .cell c, _, _, u, _, _, hg => by cases q <;> simp [getA] at hg
def put (cs : List Value) (off : Nat) (ds : List Value) : List Value := cs.take off ++ ds ++ cs.drop (off + ds.length)
theorem put_len {cs ds : List Value} {off : Nat} (h : off + ds.length ≤ cs.length) : (put cs off ds).length = cs.length := by
  unfold put; simp only [List.length_append, List.length_take, List.length_drop]; omega
theorem put_left {c d ds : List Value} {off : Nat} (h : off + ds.length ≤ c.length) : put (c ++ d) off ds = put c off ds ++ d := by
  unfold put
  rw [List.take_append_of_le_length (by omega), List.drop_append_of_le_length h]
  simp [List.append_assoc]
theorem put_right {c d ds : List Value} {off : Nat} : put (c ++ d) (c.length + off) ds = c ++ put d off ds := by
  unfold put
  rw [List.take_append, List.take_of_length_le (Nat.le_add_right _ _), Nat.add_assoc, List.drop_append, List.drop_eq_nil_of_le (Nat.le_add_right _ _)]
  simp [List.append_assoc]
theorem put_mid {cs ds : List Value} {a n off : Nat} (h1 : a + n ≤ cs.length) (h2 : off + ds.length ≤ n) : put cs (a + off) ds = cs.take a ++ put ((cs.drop a).take n) off ds ++ cs.drop (a + n) := by
  have e : cs = cs.take a ++ ((cs.drop a).take n ++ cs.drop (a + n)) := by
    rw [← List.drop_drop, List.take_append_drop, List.take_append_drop]
  have hl : (cs.take a).length = a := by rw [List.length_take]; omega
  have hn : ((cs.drop a).take n).length = n := by rw [List.length_take, List.length_drop]; omega
  have k := put_right (c := cs.take a) (d := (cs.drop a).take n ++ cs.drop (a + n)) (ds := ds) (off := off)
  rw [hl, ← e] at k
  rw [k, put_left (by rw [hn]; exact h2), List.append_assoc]
theorem castTo_some {a b : Sh} {x : a.T} {y : b.T} (h : castTo a b x = some y) : ∃ e : a = b, y = e ▸ x := by
  unfold castTo at h
  split at h
  · rename_i hb
    injection h with h
    exact ⟨Sh.eq_of_beq hb, h.symm⟩
  · cases h
theorem castTo_cells {a b : Sh} {x : a.T} {y : b.T} {cs : List Value} (h : castTo a b x = some y) (hc : Cells G H1 a x cs) : Cells G H1 b y cs := by
  obtain ⟨e, rfl⟩ := castTo_some h
  subst e; exact hc
theorem CellsA.as {v : AV} {s t : Sh} {cs : List Value} {y : s.T} (h : CellsA G M v t cs) (ha : v.as s = some y) : Cells G M.H1 s y cs := by
  cases v with
  | val u x => exact castTo_cells ha h.2
  | two a b => simp [AV.as] at ha
  | cell q =>
    cases q with
    | nilS =>
      cases s with
      | sl s =>
        simp only [AV.as, Option.some.injEq] at ha
        subst ha
        obtain ⟨_, u, rfl, hu⟩ := h
        have hu : u = .slice none 0 0 := hu
        subst hu
        exact .inl ⟨rfl, rfl⟩
      | _ => simp [AV.as] at ha
    | emp =>
      cases s with
      | sl s =>
        simp only [AV.as, Option.some.injEq] at ha
        subst ha
        obtain ⟨_, u, rfl, a, c, hu, hk⟩ := h
        subst hu
        exact .inr ⟨a, c, rfl, hk, .inl rfl⟩
      | _ => simp [AV.as] at ha
    | z0 =>
      cases s with
      | sl s =>
        simp only [AV.as, Option.some.injEq] at ha
        subst ha
        obtain ⟨_, u, rfl, hu⟩ := h
        rcases hu with rfl | ⟨i, o, rfl⟩
        · exact .inl ⟨rfl, rfl⟩
        · exact .inr ⟨_, 0, rfl, .inr ⟨Nat.le_refl _, by decide⟩, .inl rfl⟩
      | _ => simp [AV.as] at ha
    | _ => simp [AV.as] at ha
theorem AV.as_conf {v : AV} {s : Sh} {y : s.T} (ha : v.as s = some y) : v.conf s = true := by
  cases v with
  | val u x =>
    simp only [AV.as] at ha
    unfold castTo at ha
    split at ha
    · rename_i hb; exact hb
    · cases ha
  | two a b => simp [AV.as] at ha
  | cell q =>
    cases q with
    | nilS => cases s <;> first | rfl | simp [AV.as] at ha
    | emp => cases s <;> first | rfl | simp [AV.as] at ha
    | z0 => cases s <;> first | rfl | simp [AV.as] at ha
    | _ => simp [AV.as] at ha
theorem setP_cells : ∀ (p : Path) {s : Sh} {x y : s.T} {cs : List Value} {u : AV} {t t' : Sh} {ds : List Value}, Cells G M.H1 s x cs → inP s p → subS s p = some t → setP s p x u = some y → CellsA G M u t' ds →
    ds.length = t.size ∧ Cells G M.H1 s y (put cs (offS s p) ds) ∧ offS s p + t.size ≤ cs.length
  | [], s, x, y, cs, u, t, t', ds, h, _, ht, hs, hu => by
    simp only [subS, Option.some.injEq] at ht; subst ht
    simp only [setP] at hs
    have hc := hu.as hs
    have hl := hc.length
    have hlc := h.length
    refine ⟨hl, ?_, by simp [offS]; omega⟩
    have : put cs (offS s []) ds = ds := by
      have e0 : offS s [] = 0 := by cases s <;> rfl
      unfold put; rw [e0, List.take_zero, Nat.zero_add, List.drop_eq_nil_of_le (by omega)]; simp
    rw [this]; exact hc
  | .l :: p, .pair a b, x, y, _, u, t, t', ds, ⟨c, d, e, h1, h2⟩, hi, ht, hs, hu => by
    subst e
    simp only [setP, Option.map_eq_some_iff] at hs
    obtain ⟨z, hz, rfl⟩ := hs
    obtain ⟨k1, k2, k3⟩ := setP_cells p h1 hi ht hz hu
    refine ⟨k1, ⟨put c (offS a p) ds, d, ?_, k2, h2⟩, by simp only [offS, List.length_append]; omega⟩
    simp only [offS]
    exact put_left (by omega)
  | .r :: p, .pair a b, x, y, _, u, t, t', ds, ⟨c, d, e, h1, h2⟩, hi, ht, hs, hu => by
    subst e
    simp only [setP, Option.map_eq_some_iff] at hs
    obtain ⟨z, hz, rfl⟩ := hs
    obtain ⟨k1, k2, k3⟩ := setP_cells p h2 hi ht hz hu
    have hc := h1.length
    refine ⟨k1, ⟨c, put d (offS b p) ds, ?_, h1, k2⟩, by simp only [offS, List.length_append]; omega⟩
    simp only [offS]
    rw [← hc]; exact put_right
  | .i k :: p, .arr n s, xs, y, cs, u, t, t', ds, ⟨h1, h2⟩, hi, ht, hs, hu => by
    have hk : k < List.length xs := by rw [h1]; exact hi.1
    simp only [setP, Option.map_eq_some_iff] at hs
    obtain ⟨z, hz, rfl⟩ := hs
    obtain ⟨g1, g2⟩ := h2.nth (fun _ _ h => h.length) (rd_of hk)
    obtain ⟨k1, k2, k3⟩ := setP_cells p g1 hi.2 ht hz hu
    have hl : (List.take s.size (List.drop (k * s.size) cs)).length = s.size := by rw [List.length_take, List.length_drop]; omega
    rw [hl] at k3
    refine ⟨k1, ⟨by rw [List.length_set]; exact h1, ?_⟩, by simp only [offS]; omega⟩
    have := h2.set (k := k) (fun _ _ h => h.length) k2 hk
    simp only [offS]
    rw [put_mid g2 (by omega)]
    exact this
  | .l :: _, .int _, _, _, _, _, _, _, _, _, hi, _, _, _ | .l :: _, .bool, _, _, _, _, _, _, _, _, hi, _, _, _ | .l :: _, .str, _, _, _, _, _, _, _, _, hi, _, _, _ | .l :: _, .non _, _, _, _, _, _, _, _, _, hi, _, _, _ | .l :: _, .unit, _, _, _, _, _, _, _, _, hi, _, _, _ | .l :: _, .arr _ _, _, _, _, _, _, _, _, _, hi, _, _, _ | .l :: _, .sl _, _, _, _, _, _, _, _, _, hi, _, _, _ => hi.elim
  | .r :: _, .int _, _, _, _, _, _, _, _, _, hi, _, _, _ | .r :: _, .bool, _, _, _, _, _, _, _, _, hi, _, _, _ | .r :: _, .str, _, _, _, _, _, _, _, _, hi, _, _, _ | .r :: _, .non _, _, _, _, _, _, _, _, _, hi, _, _, _ | .r :: _, .unit, _, _, _, _, _, _, _, _, hi, _, _, _ | .r :: _, .arr _ _, _, _, _, _, _, _, _, _, hi, _, _, _ | .r :: _, .sl _, _, _, _, _, _, _, _, _, hi, _, _, _ => hi.elim
  | .i _ :: _, .int _, _, _, _, _, _, _, _, _, hi, _, _, _ | .i _ :: _, .bool, _, _, _, _, _, _, _, _, hi, _, _, _ | .i _ :: _, .str, _, _, _, _, _, _, _, _, hi, _, _, _ | .i _ :: _, .non _, _, _, _, _, _, _, _, _, hi, _, _, _ | .i _ :: _, .unit, _, _, _, _, _, _, _, _, hi, _, _, _ | .i _ :: _, .pair _ _, _, _, _, _, _, _, _, _, hi, _, _, _ | .i _ :: _, .sl _, _, _, _, _, _, _, _, _, hi, _, _, _ => hi.elim
theorem setV_cells : ∀ (p : Path) {s : Sh} {x : s.T} {w : AV} {cs : List Value} {u : AV} {t : Sh} {ds : List Value}, Cells G M.H1 s x cs → inP s p → subS s p = some t → setA.setV s p x u = some w → CellsA G M u t ds →
    CellsA G M w s (put cs (offS s p) ds) ∧ offS s p + t.size ≤ cs.length
  | [], s, x, w, cs, u, t, ds, h, _, ht, hs, hu => by
    simp only [subS, Option.some.injEq] at ht; subst ht
    simp only [setA.setV, Option.some.injEq] at hs; subst hs
    have hl := hu.length
    have hlc := h.length
    have : put cs (offS s []) ds = ds := by
      have e0 : offS s [] = 0 := by cases s <;> rfl
      unfold put; rw [e0, List.take_zero, Nat.zero_add, List.drop_eq_nil_of_le (by omega)]; simp
    rw [this]; exact ⟨hu, by simp [offS]; omega⟩
  | .l :: p, .pair a b, x, w, _, u, t, ds, ⟨c, d, e, h1, h2⟩, hi, ht, hs, hu => by
    subst e
    simp only [setA.setV, Option.map_eq_some_iff] at hs
    obtain ⟨z, hz, rfl⟩ := hs
    obtain ⟨k2, k3⟩ := setV_cells p h1 hi ht hz hu
    refine ⟨⟨a, b, rfl, put c (offS a p) ds, d, ?_, k2, rfl, h2⟩, by simp only [offS, List.length_append]; omega⟩
    simp only [offS]
    exact put_left (by rw [hu.length]; omega)
  | .r :: p, .pair a b, x, w, _, u, t, ds, ⟨c, d, e, h1, h2⟩, hi, ht, hs, hu => by
    subst e
    simp only [setA.setV, Option.map_eq_some_iff] at hs
    obtain ⟨z, hz, rfl⟩ := hs
    obtain ⟨k2, k3⟩ := setV_cells p h2 hi ht hz hu
    have hc := h1.length
    refine ⟨⟨a, b, rfl, c, put d (offS b p) ds, ?_, ⟨rfl, h1⟩, k2⟩, by simp only [offS, List.length_append]; omega⟩
    simp only [offS]
    rw [← hc]; exact put_right
  | .i k :: p, .arr n s, _, _, _, _, _, _, _, _, _, hs, _ => by simp [setA.setV] at hs
  | .l :: _, .int _, _, _, _, _, _, _, _, hi, _, _, _ | .l :: _, .bool, _, _, _, _, _, _, _, hi, _, _, _ | .l :: _, .str, _, _, _, _, _, _, _, hi, _, _, _ | .l :: _, .non _, _, _, _, _, _, _, _, hi, _, _, _ | .l :: _, .unit, _, _, _, _, _, _, _, hi, _, _, _ | .l :: _, .arr _ _, _, _, _, _, _, _, _, hi, _, _, _ | .l :: _, .sl _, _, _, _, _, _, _, _, hi, _, _, _ => hi.elim
  | .r :: _, .int _, _, _, _, _, _, _, _, hi, _, _, _ | .r :: _, .bool, _, _, _, _, _, _, _, hi, _, _, _ | .r :: _, .str, _, _, _, _, _, _, _, hi, _, _, _ | .r :: _, .non _, _, _, _, _, _, _, _, hi, _, _, _ | .r :: _, .unit, _, _, _, _, _, _, _, hi, _, _, _ | .r :: _, .arr _ _, _, _, _, _, _, _, _, hi, _, _, _ | .r :: _, .sl _, _, _, _, _, _, _, _, hi, _, _, _ => hi.elim
  | .i _ :: _, .int _, _, _, _, _, _, _, _, hi, _, _, _ | .i _ :: _, .bool, _, _, _, _, _, _, _, hi, _, _, _ | .i _ :: _, .str, _, _, _, _, _, _, _, hi, _, _, _ | .i _ :: _, .non _, _, _, _, _, _, _, _, hi, _, _, _ | .i _ :: _, .unit, _, _, _, _, _, _, _, hi, _, _, _ | .i _ :: _, .pair _ _, _, _, _, _, _, _, _, hi, _, _, _ | .i _ :: _, .sl _, _, _, _, _, _, _, _, hi, _, _, _ => hi.elim
theorem setA_cells : ∀ (p : Path) {v w : AV} {s : Sh} {cs : List Value} {u : AV} {t : Sh} {ds : List Value}, CellsA G M v s cs → inP s p → subS s p = some t → setA v p u = some w → CellsA G M u t ds →
    CellsA G M w s (put cs (offS s p) ds) ∧ offS s p + t.size ≤ cs.length
  | [], v, w, s, cs, u, t, ds, h, _, ht, hs, hu => by
    have e : s = t := by cases s <;> simpa [subS] using ht
    subst e
    have : u = w := by cases v <;> simpa [setA] using hs
    subst this
    have hl := hu.length
    have hlc := h.length
    have e0 : offS s [] = 0 := by cases s <;> rfl
    have : put cs (offS s []) ds = ds := by
      unfold put; rw [e0, List.take_zero, Nat.zero_add, List.drop_eq_nil_of_le (by omega)]; simp
    rw [this]; exact ⟨hu, by omega⟩
  | q :: p, .val t0 x, w, s, cs, u, t, ds, h, hi, ht, hs, hu => by
    obtain ⟨rfl, h⟩ := h
    simp only [setA] at hs
    split at hs
    · rename_i y hy
      injection hs with hs; subst hs
      obtain ⟨k1, k2, k3⟩ := setP_cells (q :: p) h hi ht hy hu
      exact ⟨⟨rfl, k2⟩, k3⟩
    · exact setV_cells (q :: p) h hi ht hs hu
  | .l :: p, .two a b, w, _, _, u, t, ds, ⟨s1, s2, e0, c, d, e, h1, h2⟩, hi, ht, hs, hu => by
    subst e0; subst e
    simp only [setA, Option.map_eq_some_iff] at hs
    obtain ⟨z, hz, rfl⟩ := hs
    obtain ⟨k2, k3⟩ := setA_cells p h1 hi ht hz hu
    refine ⟨⟨s1, s2, rfl, put c (offS s1 p) ds, d, ?_, k2, h2⟩, by simp only [offS, List.length_append]; omega⟩
    simp only [offS]
    exact put_left (by rw [hu.length]; omega)
  | .r :: p, .two a b, w, _, _, u, t, ds, ⟨s1, s2, e0, c, d, e, h1, h2⟩, hi, ht, hs, hu => by
    subst e0; subst e
    simp only [setA, Option.map_eq_some_iff] at hs
    obtain ⟨z, hz, rfl⟩ := hs
    obtain ⟨k2, k3⟩ := setA_cells p h2 hi ht hz hu
    have hc := h1.length
    refine ⟨⟨s1, s2, rfl, c, put d (offS s2 p) ds, ?_, h1, k2⟩, by simp only [offS, List.length_append]; omega⟩
    simp only [offS]
    rw [← hc]; exact put_right
  | .i k :: p, .two a b, _, _, _, _, _, _, ⟨s1, s2, e0, c, d, e, h1, h2⟩, hi, _, _, _ => by subst e0; exact hi.elim
  | q :: p, .cell c, _, _, _, _, _, _, _, _, _, hs, _ => by cases q <;> simp [setA] at hs
end
end Go.Ty
namespace Go.Ty
section
variable {k : IntKind}
theorem ofInt_nat {n : Nat} (x : BitVec n) : BitVec.ofInt n (x.toNat : Int) = x := by
  rw [BitVec.ofInt_natCast, BitVec.ofNat_toNat, BitVec.setWidth_eq]
theorem wrap_toNat (hw : ∀ z : Int, k.wrap z = z % ((2 ^ k.bits : Nat) : Int)) (x : BitVec k.bits) : k.wrap (x.toNat : Int) = x.toNat := by
  rw [hw, ← Int.natCast_emod, Nat.mod_eq_of_lt x.isLt]
theorem uar_sound (hw : ∀ z : Int, k.wrap z = z % ((2 ^ k.bits : Nat) : Int)) {op : BinOp} {x y z : BitVec k.bits} (h : uar op x y = some z) (hnz : op = .quo ∨ op = .rem → y ≠ 0#k.bits) :
    Ab.ibin op k x.toNat y.toNat = some (.int k z.toNat) := by
  have hyn : op = .quo ∨ op = .rem → ¬ ((y.toNat : Int) = 0) := by
    intro ho e
    apply hnz ho
    apply BitVec.eq_of_toNat_eq
    simpa using e
  cases op <;> simp only [uar, Option.some.injEq, reduceCtorEq] at h <;> subst h <;> simp only [Ab.ibin]
  · rw [hw, BitVec.toNat_add, Int.natCast_emod, Int.natCast_add]
  · have hy := y.isLt
    have e : ((x.toNat : Int) - y.toNat) % ((2 ^ k.bits : Nat) : Int) = (((2 ^ k.bits - y.toNat + x.toNat) % 2 ^ k.bits : Nat) : Int) := by
      rw [Int.natCast_emod, Int.natCast_add, Int.ofNat_sub (Nat.le_of_lt hy)]
      rw [show (((2 ^ k.bits : Nat) : Int) - (y.toNat : Int) + (x.toNat : Int)) = ((x.toNat : Int) - y.toNat) + ((2 ^ k.bits : Nat) : Int) by omega]
      rw [Int.add_emod_right]
    rw [hw, BitVec.toNat_sub, e]
  · rw [hw, BitVec.toNat_mul, Int.natCast_emod, Int.natCast_mul]
  · rw [if_neg (hyn (.inl rfl)), hw, BitVec.toNat_udiv, ← Int.ofNat_tdiv, ← Int.natCast_emod, Nat.mod_eq_of_lt]
    exact Nat.lt_of_le_of_lt (Nat.div_le_self _ _) x.isLt
  · rw [if_neg (hyn (.inr rfl)), BitVec.toNat_umod, ← Int.ofNat_tmod]
  · rw [ofInt_nat, ofInt_nat, wrap_toNat hw]
  · rw [ofInt_nat, ofInt_nat, wrap_toNat hw]
  · rw [ofInt_nat, ofInt_nat, wrap_toNat hw]
  · rw [ofInt_nat, ofInt_nat, wrap_toNat hw]
theorem ucm_sound {op : BinOp} {n : Nat} {x y : BitVec n} {b : Bool} (h : ucm op x y = some b) : Ab.ibin op k x.toNat y.toNat = some (.bool b) := by
  cases op <;> simp only [ucm, Option.some.injEq, reduceCtorEq] at h <;> subst h <;> simp only [Ab.ibin, Option.some.injEq, Value.bool.injEq]
  · exact (decide_eq_decide (p := (x.toNat : Int) = (y.toNat : Int))).2 ⟨fun h => BitVec.eq_of_toNat_eq (by omega), fun h => by rw [h]⟩
  · exact congrArg (fun b => !b) ((decide_eq_decide (p := (x.toNat : Int) = (y.toNat : Int))).2 ⟨fun h => BitVec.eq_of_toNat_eq (by omega), fun h => by rw [h]⟩)
  · exact decide_eq_decide.2 (by rw [BitVec.lt_def]; omega)
  · exact decide_eq_decide.2 (by rw [BitVec.le_def]; omega)
  · exact decide_eq_decide.2 (by rw [BitVec.lt_def]; omega)
  · exact decide_eq_decide.2 (by rw [BitVec.le_def]; omega)
theorem iar_sound {op : BinOp} {x y z : Int} (h : iar k op x y = some z) (hnz : op = .quo ∨ op = .rem → y ≠ 0) : Ab.ibin op k x y = some (.int k z) := by
  cases op <;> simp only [iar, Option.some.injEq, reduceCtorEq] at h <;> subst h <;> simp only [Ab.ibin, iand, ior, ixor, iandn]
  · rw [if_neg (hnz (.inl rfl))]
  · rw [if_neg (hnz (.inr rfl))]
theorem icm_sound {op : BinOp} {x y : Int} {b : Bool} (h : icm op x y = some b) : Ab.ibin op k x y = some (.bool b) := by
  cases op <;> simp only [icm, Option.some.injEq, reduceCtorEq] at h <;> subst h <;> simp only [Ab.ibin, Option.some.injEq, Value.bool.injEq]
  all_goals rfl
end
theorem hw8 (z : Int) : IntKind.u8.wrap z = z % ((2 ^ IntKind.u8.bits : Nat) : Int) := by simp [IntKind.wrap, IntKind.bits, IntKind.signed]
theorem hw16 (z : Int) : IntKind.u16.wrap z = z % ((2 ^ IntKind.u16.bits : Nat) : Int) := by simp [IntKind.wrap, IntKind.bits, IntKind.signed]
theorem hw32 (z : Int) : IntKind.u32.wrap z = z % ((2 ^ IntKind.u32.bits : Nat) : Int) := by simp [IntKind.wrap, IntKind.bits, IntKind.signed]
theorem hw64 (z : Int) : IntKind.u64.wrap z = z % ((2 ^ IntKind.u64.bits : Nat) : Int) := by simp [IntKind.wrap, IntKind.bits, IntKind.signed]
theorem tar_sound {op : BinOp} : ∀ {k : IntKind} {x y z : IT k}, tar op k x y = some z → (op = .quo ∨ op = .rem → tnz k y = true) → Ab.ibin op k (toI k x) (toI k y) = some (.int k (toI k z))
  | .i8, x, y, z, h, hz | .i16, x, y, z, h, hz | .i32, x, y, z, h, hz | .i64, x, y, z, h, hz => iar_sound h fun ho => by
    have := hz ho
    simp only [tnz, Bool.not_eq_true', decide_eq_false_iff_not] at this
    exact this
  | .u8, x, y, z, h, hz => uar_sound (k := .u8) hw8 h fun ho => by have := hz ho; simp only [tnz, Bool.not_eq_true', decide_eq_false_iff_not] at this; exact this
  | .u16, x, y, z, h, hz => uar_sound (k := .u16) hw16 h fun ho => by have := hz ho; simp only [tnz, Bool.not_eq_true', decide_eq_false_iff_not] at this; exact this
  | .u32, x, y, z, h, hz => uar_sound (k := .u32) hw32 h fun ho => by have := hz ho; simp only [tnz, Bool.not_eq_true', decide_eq_false_iff_not] at this; exact this
  | .u64, x, y, z, h, hz => uar_sound (k := .u64) hw64 h fun ho => by have := hz ho; simp only [tnz, Bool.not_eq_true', decide_eq_false_iff_not] at this; exact this
theorem tcm_sound {op : BinOp} : ∀ {k : IntKind} {x y : IT k} {b : Bool}, tcm op k x y = some b → Ab.ibin op k (toI k x) (toI k y) = some (.bool b)
  | .i8, _, _, _, h | .i16, _, _, _, h | .i32, _, _, _, h | .i64, _, _, _, h => icm_sound h
  | .u8, _, _, _, h => ucm_sound h
  | .u16, _, _, _, h => ucm_sound h
  | .u32, _, _, _, h => ucm_sound h
  | .u64, _, _, _, h => ucm_sound h
section
variable {k : IntKind}
theorem ush_sound (hw : ∀ z : Int, k.wrap z = z % ((2 ^ k.bits : Nat) : Int)) {op : BinOp} {x z : BitVec k.bits} {c : Nat} (h : ush op x c = some z) : Ab.ishift op k x.toNat (c : Int) = some (.int k z.toNat) := by
  have hc : ¬ ((c : Int) < 0) := by omega
  cases op <;> simp only [ush, Option.some.injEq, reduceCtorEq] at h <;> subst h <;> simp only [Ab.ishift, if_neg hc, Int.toNat_natCast]
  · have e2 : ((2 : Int) ^ (min c k.bits)) = ((2 ^ (min c k.bits) : Nat) : Int) := by simp
    rw [hw, BitVec.toNat_shiftLeft, Nat.shiftLeft_eq, e2, ← Int.natCast_mul, ← Int.natCast_emod]
    congr 3
    by_cases h : c ≤ k.bits
    · rw [Nat.min_eq_left h]
    · rw [Nat.min_eq_right (by omega)]
      have : (2 : Nat) ^ c = 2 ^ k.bits * 2 ^ (c - k.bits) := by rw [← Nat.pow_add]; congr 1; omega
      rw [this, ← Nat.mul_assoc, Nat.mul_right_comm, Nat.mul_mod_left, Nat.mul_mod_left]
  · have e2 : ((2 : Int) ^ (min c k.bits)) = ((2 ^ (min c k.bits) : Nat) : Int) := by simp
    rw [e2, BitVec.toNat_ushiftRight, Nat.shiftRight_eq_div_pow]
    have : ((x.toNat : Int)).fdiv ((2 ^ (min c k.bits) : Nat) : Int) = ((x.toNat / 2 ^ (min c k.bits) : Nat) : Int) := by
      rw [Int.fdiv_eq_ediv_of_nonneg _ (Int.natCast_nonneg _)]; rfl
    rw [this]
    congr 2
    by_cases h : c ≤ k.bits
    · rw [Nat.min_eq_left h]
    · rw [Nat.min_eq_right (by omega)]
      rw [Nat.div_eq_of_lt x.isLt, Nat.div_eq_of_lt (Nat.lt_of_lt_of_le x.isLt (Nat.pow_le_pow_right (by omega) (by omega)))]
theorem ish_sound {op : BinOp} {x z : Int} {c : Nat} (h : ish k op x c = some z) : Ab.ishift op k x (c : Int) = some (.int k z) := by
  have hc : ¬ ((c : Int) < 0) := by omega
  cases op <;> simp only [ish, Option.some.injEq, reduceCtorEq] at h <;> subst h <;> simp only [Ab.ishift, if_neg hc, Int.toNat_natCast, ishl, ishr]
end
theorem tcnt_eq : ∀ {j : IntKind} {y : IT j}, tcok j y = true → (tcnt j y : Int) = toI j y
  | .i8, y, h | .i16, y, h | .i32, y, h | .i64, y, h => by simp only [tcok, decide_eq_true_eq] at h; simp only [tcnt, toI]; omega
  | .u8, _, _ | .u16, _, _ | .u32, _, _ | .u64, _, _ => rfl
theorem tsh_sound {op : BinOp} {c : Nat} : ∀ {k : IntKind} {x z : IT k}, tsh op k x c = some z → Ab.ishift op k (toI k x) (c : Int) = some (.int k (toI k z))
  | .i8, _, _, h | .i16, _, _, h | .i32, _, _, h | .i64, _, _, h => ish_sound h
  | .u8, _, _, h => ush_sound (k := .u8) hw8 h
  | .u16, _, _, h => ush_sound (k := .u16) hw16 h
  | .u32, _, _, h => ush_sound (k := .u32) hw32 h
  | .u64, _, _, h => ush_sound (k := .u64) hw64 h
section
variable {k : IntKind}
theorem uneg_eq (hw : ∀ z : Int, k.wrap z = z % ((2 ^ k.bits : Nat) : Int)) (x : BitVec k.bits) : k.wrap (0 - (x.toNat : Int)) = ((-x).toNat : Int) := by
  rw [hw, BitVec.toNat_neg, Int.natCast_emod, Int.ofNat_sub (Nat.le_of_lt x.isLt)]
  rw [show (((2 ^ k.bits : Nat) : Int) - (x.toNat : Int)) = (0 - (x.toNat : Int)) + ((2 ^ k.bits : Nat) : Int) by omega, Int.add_emod_right]
theorem unot_eq (hw : ∀ z : Int, k.wrap z = z % ((2 ^ k.bits : Nat) : Int)) (hs : k.signed = false) (x : BitVec k.bits) :
    k.wrap (BitVec.ofInt k.bits (if k.signed = true then -1 else k.max) ^^^ BitVec.ofInt k.bits (x.toNat : Int)).toNat = ((~~~x).toNat : Int) := by
  have hm : BitVec.ofInt k.bits k.max = BitVec.allOnes k.bits := by
    apply BitVec.eq_of_toNat_eq
    have e : k.max = (((2 ^ k.bits - 1 : Nat)) : Int) := by
      unfold IntKind.max
      rw [hs]
      have : 0 < 2 ^ k.bits := Nat.two_pow_pos _
      simp only [Bool.false_eq_true, if_false]
      rw [Int.ofNat_sub this]; simp
    rw [e, BitVec.ofInt_natCast, BitVec.toNat_ofNat, BitVec.toNat_allOnes]
    exact Nat.mod_eq_of_lt (by have : 0 < 2 ^ k.bits := Nat.two_pow_pos _; omega)
  rw [hs]
  simp only [Bool.false_eq_true, if_false]
  rw [hm, ofInt_nat, BitVec.allOnes_xor, wrap_toNat hw]
end
theorem tneg_sound : ∀ {k : IntKind} {x : IT k}, Ab.aun .neg (.int k (toI k x)) = some (.int k (toI k (tneg k x)))
  | .i8, _ | .i16, _ | .i32, _ | .i64, _ => rfl
  | .u8, x => congrArg (fun z => some (Value.int .u8 z)) (uneg_eq (k := .u8) hw8 x)
  | .u16, x => congrArg (fun z => some (Value.int .u16 z)) (uneg_eq (k := .u16) hw16 x)
  | .u32, x => congrArg (fun z => some (Value.int .u32 z)) (uneg_eq (k := .u32) hw32 x)
  | .u64, x => congrArg (fun z => some (Value.int .u64 z)) (uneg_eq (k := .u64) hw64 x)
theorem tnot_sound : ∀ {k : IntKind} {x : IT k}, Ab.aun .xor (.int k (toI k x)) = some (.int k (toI k (tnot k x)))
  | .i8, _ | .i16, _ | .i32, _ | .i64, _ => rfl
  | .u8, x => congrArg (fun z => some (Value.int .u8 z)) (unot_eq (k := .u8) hw8 rfl x)
  | .u16, x => congrArg (fun z => some (Value.int .u16 z)) (unot_eq (k := .u16) hw16 rfl x)
  | .u32, x => congrArg (fun z => some (Value.int .u32 z)) (unot_eq (k := .u32) hw32 rfl x)
  | .u64, x => congrArg (fun z => some (Value.int .u64 z)) (unot_eq (k := .u64) hw64 rfl x)
theorem setW_eq {n m : Nat} (x : BitVec n) : ((x.setWidth m).toNat : Int) = (x.toNat : Int) % ((2 ^ m : Nat) : Int) := by
  rw [BitVec.toNat_setWidth, Int.natCast_emod]
theorem ofI_eq {m : Nat} (x : Int) : ((BitVec.ofInt m x).toNat : Int) = x % ((2 ^ m : Nat) : Int) := by
  rw [BitVec.toNat_ofInt]
  have : 0 < ((2 ^ m : Nat) : Int) := by exact_mod_cast Nat.two_pow_pos m
  have := Int.emod_nonneg x (show ((2 ^ m : Nat) : Int) ≠ 0 by omega)
  omega
theorem uto_sound {n : Nat} {x : BitVec n} : ∀ {k : IntKind}, k.wrap (x.toNat : Int) = toI k (uto x k)
  | .i8 | .i16 | .i32 => rfl
  | .i64 => by
    unfold uto
    cases h : Nat.blt n 64 with
    | false => rfl
    | true =>
      have h : n < 64 := by simpa using h
      have hx := x.isLt
      have : 2 ^ n ≤ 2 ^ 63 := Nat.pow_le_pow_right (by omega) (by omega)
      exact IntWalk.i64_in _ (by omega)
  | .u8 => by rw [hw8]; exact (setW_eq x).symm
  | .u16 => by rw [hw16]; exact (setW_eq x).symm
  | .u32 => by rw [hw32]; exact (setW_eq x).symm
  | .u64 => by rw [hw64]; exact (setW_eq x).symm
theorem ito_sound {x : Int} : ∀ {k : IntKind}, k.wrap x = toI k (ito x k)
  | .i8 | .i16 | .i32 | .i64 => rfl
  | .u8 => by rw [hw8]; exact (ofI_eq x).symm
  | .u16 => by rw [hw16]; exact (ofI_eq x).symm
  | .u32 => by rw [hw32]; exact (ofI_eq x).symm
  | .u64 => by rw [hw64]; exact (ofI_eq x).symm
theorem tto_sound : ∀ {j : IntKind} {x : IT j} {k : IntKind}, k.wrap (toI j x) = toI k (tto j x k)
  | .i8, _, _ | .i16, _, _ | .i32, _, _ | .i64, _, _ => ito_sound
  | .u8, _, _ => uto_sound
  | .u16, _, _ => uto_sound
  | .u32, _, _ => uto_sound
  | .u64, _, _ => uto_sound
theorem toI_inj : ∀ {k : IntKind} {x y : IT k}, toI k x = toI k y → x = y
  | .i8, _, _, h | .i16, _, _, h | .i32, _, _, h | .i64, _, _, h => h
  | .u8, _, _, h | .u16, _, _, h | .u32, _, _, h | .u64, _, _, h => BitVec.eq_of_toNat_eq (Int.ofNat_inj.1 h)
theorem toI_wf : ∀ {k : IntKind} {x : IT k}, Ab.wfcB (.int k (toI k x)) = true
  | .i8, _ | .i16, _ | .i32, _ | .i64, _ => rfl
  | .u8, x => by have := x.isLt; simp only [Ab.wfcB, toI, IntKind.signed, IntKind.max, IntKind.bits, Bool.false_or, Bool.and_eq_true]; simp; omega
  | .u16, x => by have := x.isLt; simp only [Ab.wfcB, toI, IntKind.signed, IntKind.max, IntKind.bits, Bool.false_or, Bool.and_eq_true]; simp; omega
  | .u32, x => by have := x.isLt; simp only [Ab.wfcB, toI, IntKind.signed, IntKind.max, IntKind.bits, Bool.false_or, Bool.and_eq_true]; simp; omega
  | .u64, x => by have := x.isLt; simp only [Ab.wfcB, toI, IntKind.signed, IntKind.max, IntKind.bits, Bool.false_or, Bool.and_eq_true]; simp; omega
end Go.Ty
namespace Go.Ty
open Go.Ab (vcells plainC capU szOf zeroOf aggT apart)
def Ex (a : HAct) (H : Heap) (v : Option SV) (H' : Heap) : Prop := ∃ r, exec a H = some r ∧ r.dem ∧ r.val = v ∧ r.heap = H'
section
variable {H H' : Heap} {v : Option SV}
@[simp] theorem Ex_fail : Ex .fail H v H' ↔ False := by simp [Ex, exec]
@[simp] theorem Ex_ret {u : Option SV} : Ex (.ret u) H v H' ↔ v = u ∧ H' = H := by
  constructor
  · rintro ⟨r, h1, h2, h3, h4⟩
    simp only [exec, Option.some.injEq] at h1; subst h1
    exact ⟨h3.symm, h4.symm⟩
  · rintro ⟨rfl, rfl⟩; exact ⟨_, rfl, trivial, rfl, rfl⟩
@[simp] theorem Ex_pure {u : AV} : Ex (.pure u) H v H' ↔ v = some (.av u) ∧ H' = H := Ex_ret
@[simp] theorem Ex_dem {b : Bool} {k : HAct} : Ex (.dem b k) H v H' ↔ b = true ∧ Ex k H v H' := by
  constructor
  · rintro ⟨r, h1, h2, h3, h4⟩
    simp only [exec, Option.map_eq_some_iff] at h1
    obtain ⟨r', g, rfl⟩ := h1
    exact ⟨h2.1, r', g, h2.2, h3, h4⟩
  · rintro ⟨hb, r, g, h2, h3, h4⟩
    exact ⟨{ r with dem := b = true ∧ r.dem }, by simp only [exec, g, Option.map_some], ⟨hb, h2⟩, h3, h4⟩
@[simp] theorem Ex_pre {p : Prop} {k : HAct} : Ex (.pre p k) H v H' ↔ p ∧ Ex k H v H' := by
  constructor
  · rintro ⟨r, h1, h2, h3, h4⟩
    simp only [exec, Option.map_eq_some_iff] at h1
    obtain ⟨r', g, rfl⟩ := h1
    exact ⟨h2.1, r', g, h2.2, h3, h4⟩
  · rintro ⟨hb, r, g, h2, h3, h4⟩
    exact ⟨{ r with dem := p ∧ r.dem }, by simp only [exec, g, Option.map_some], ⟨hb, h2⟩, h3, h4⟩
@[simp] theorem Ex_ofO {α : Type} {o : Option α} {k : α → HAct} : Ex (.ofO o k) H v H' ↔ ∃ a, o = some a ∧ Ex (k a) H v H' := by
  cases o <;> simp [HAct.ofO]
@[simp] theorem Ex_bif {b : Bool} {k l : HAct} : Ex (bif b then k else l) H v H' ↔ (b = true ∧ Ex k H v H') ∨ (b = false ∧ Ex l H v H') := by
  cases b <;> simp
@[simp] theorem Ex_look {b : Nat} {k : Blk → HAct} : Ex (.look b k) H v H' ↔ ∃ x, H b = .live x ∧ Ex (k x) H v H' := by
  constructor
  · rintro ⟨r, h1, h2, h3, h4⟩
    simp only [exec] at h1
    split at h1
    · rename_i x hx
      simp only [Option.map_eq_some_iff] at h1
      obtain ⟨r', g, rfl⟩ := h1
      exact ⟨x, hx, r', g, h2, h3, h4⟩
    · cases h1
  · rintro ⟨x, hx, r, g, h2, h3, h4⟩
    exact ⟨{ r with touched := b :: r.touched }, by simp only [exec, hx, g, Option.map_some], h2, h3, h4⟩
@[simp] theorem Ex_put {b : Nat} {x : Blk} {k : HAct} : Ex (.put b x k) H v H' ↔ ∃ y, H b = .live y ∧ Ex k (H.put b (.live x)) v H' := by
  constructor
  · rintro ⟨r, h1, h2, h3, h4⟩
    simp only [exec] at h1
    split at h1
    · rename_i y hx
      simp only [Option.map_eq_some_iff] at h1
      obtain ⟨r', g, rfl⟩ := h1
      exact ⟨y, hx, r', g, h2, h3, h4⟩
    · cases h1
  · rintro ⟨y, hx, r, g, h2, h3, h4⟩
    exact ⟨{ r with touched := b :: r.touched, written := b :: r.written }, by simp only [exec, hx, g, Option.map_some], h2, h3, h4⟩
@[simp] theorem Ex_kill {b : Nat} {k : HAct} : Ex (.kill b k) H v H' ↔ ∃ y, H b = .live y ∧ Ex k (H.put b .dead) v H' := by
  constructor
  · rintro ⟨r, h1, h2, h3, h4⟩
    simp only [exec] at h1
    split at h1
    · rename_i y hx
      simp only [Option.map_eq_some_iff] at h1
      obtain ⟨r', g, rfl⟩ := h1
      exact ⟨y, hx, r', g, h2, h3, h4⟩
    · cases h1
  · rintro ⟨y, hx, r, g, h2, h3, h4⟩
    exact ⟨{ r with touched := b :: r.touched, written := b :: r.written }, by simp only [exec, hx, g, Option.map_some], h2, h3, h4⟩
@[simp] theorem Ex_new {b : Nat} {x : Blk} {k : HAct} : Ex (.new b x k) H v H' ↔ H b = .fresh ∧ Ex k (H.put b (.live x)) v H' := by
  constructor
  · rintro ⟨r, h1, h2, h3, h4⟩
    simp only [exec] at h1
    split at h1
    · rename_i hx
      simp only [Option.map_eq_some_iff] at h1
      obtain ⟨r', g, rfl⟩ := h1
      exact ⟨hx, r', g, h2, h3, h4⟩
    · cases h1
  · rintro ⟨hx, r, g, h2, h3, h4⟩
    exact ⟨{ r with touched := b :: r.touched, written := b :: r.written }, by simp only [exec, hx, g, Option.map_some], h2, h3, h4⟩
@[simp] theorem Ex_alt {c : Bool} {k l : HAct} : Ex (.alt c k l) H v H' ↔ (c = true ∧ Ex k H v H') ∨ (c = false ∧ Ex l H v H') := by
  cases c <;> simp [Ex, exec]
end
structure XOK (X : Cx) : Prop where
  sh : ∀ t s, X.sh t = some s → shChk X.P s (.inl t) = true
  gl : ∀ g s x, X.glob g = some ⟨s, x⟩ → ∀ H1, Cells (gl1 X) H1 s x (cellsOf s x)
def ER (X : Cx) (M : Lk) (e : Env) (e1 : Ab.Env) : Prop := ∀ k v, e k = some v → ∃ v1, e1 k = some v1 ∧ SVR (gl1 X) M v v1
section
variable {X : Cx} {M : Lk} {H H' : Heap} {e : Env} {e1 : Ab.Env}
theorem ER.mono {M' : Lk} (h : ER X M e e1) (hr : RoLe M.H1 M'.H1) (hm : ∀ k i, M.mu k = some i → M'.mu k = some i ∧ M'.ln k = M.ln k) : ER X M' e e1 := fun k v hk => by
  obtain ⟨v1, h1, h2⟩ := h k v hk
  exact ⟨v1, h1, h2.mono hr hm⟩
theorem strOf_data (s : ByteArray) : strOf (s.data.toList.map fun b => b.toBitVec) = s := by
  unfold strOf
  rw [List.map_map]
  have : (UInt8.ofBitVec ∘ fun b : UInt8 => b.toBitVec) = id := by funext b; rfl
  rw [this, List.map_id]
theorem const_sound {c : Value} {v : AV} (h : constA c = some v) : Ab.evo e1 (.const c) = some c ∧ VR (gl1 X) M v c := by
  have key : Ab.plainV c = true → (vcells c).all Ab.wfcB = true → Ab.evo e1 (.const c) = some c := by
    intro h1 h2; simp only [Ab.evo, h1, h2, Bool.and_self, cond_true]
  unfold constA at h
  split at h
  · rename_i k n
    cases hd : decide (toI k (ofI k n) = n) with
    | false => rw [hd] at h; cases h
    | true =>
      rw [hd] at h
      simp only [cond_true, Option.some.injEq] at h; subst h
      have hd := of_decide_eq_true hd
      refine ⟨key rfl ?_, .int k, _, ⟨rfl, rfl⟩, ?_⟩
      · rw [← hd]; simp only [vcells, List.all_cons, List.all_nil, Bool.and_true]; exact toI_wf
      · rw [hd]; rfl
  · injection h with h; subst h; exact ⟨key rfl rfl, .bool, _, ⟨rfl, rfl⟩, rfl⟩
  · injection h with h; subst h
    refine ⟨key rfl rfl, .str, _, ⟨rfl, rfl⟩, ?_⟩
    rw [strOf_data]; rfl
  · injection h with h; subst h; exact ⟨key rfl rfl, .non .ptr, _, ⟨rfl, rfl⟩, rfl⟩
  · injection h with h; subst h; exact ⟨key rfl rfl, VR.mkcell rfl⟩
  · injection h with h; subst h; exact ⟨key rfl rfl, .non .func, _, ⟨rfl, rfl⟩, rfl⟩
  · injection h with h; subst h; exact ⟨key rfl rfl, .non .map, _, ⟨rfl, rfl⟩, rfl⟩
  · injection h with h; subst h; exact ⟨key rfl rfl, .non .iface, _, ⟨rfl, rfl⟩, rfl⟩
  · cases h
theorem ev_sound (hX : XOK X) (he : ER X M e e1) {x : Operand} {v : SV} (h : ev X e x = some v) : ∃ v1, Ab.evo e1 x = some v1 ∧ SVR (gl1 X) M v v1 := by
  cases x with
  | tmp t => exact he t v h
  | const c =>
    simp only [ev, Option.map_eq_some_iff] at h
    obtain ⟨a, ha, rfl⟩ := h
    obtain ⟨h1, h2⟩ := const_sound (e1 := e1) (X := X) (M := M) ha
    exact ⟨c, h1, h2⟩
  | global g =>
    simp only [ev, Option.map_eq_some_iff] at h
    obtain ⟨⟨s, x⟩, hg, rfl⟩ := h
    refine ⟨_, rfl, VR.mkcell ⟨_, cellsOf s x, rfl, ?_, hX.gl g s x hg _⟩⟩
    refine ⟨cellsOf s x, ?_, by simp, by simp⟩
    simp [cellsRO, gl1, hg]
  | func f =>
    simp only [ev, Option.some.injEq] at h
    subst h
    exact ⟨_, rfl, VR.mkcell rfl⟩
theorem evA_sound (hX : XOK X) (he : ER X M e e1) {x : Operand} {v : AV} (h : evA X e x = some v) : ∃ v1, Ab.evo e1 x = some v1 ∧ VR (gl1 X) M v v1 := by
  unfold evA at h
  split at h
  · rename_i u hu
    injection h with h; subst h
    exact ev_sound hX he hu
  · cases h
theorem evL_sound (hX : XOK X) (he : ER X M e e1) : ∀ {xs : List Operand} {l : List SV}, evL X e xs = some l → ∃ l1, Ab.evArgs e1 xs = some l1 ∧ l.length = l1.length ∧ ∀ (j : Nat) v, l[j]? = some v → ∃ v1, l1[j]? = some v1 ∧ SVR (gl1 X) M v v1
  | [], l, h => by simp only [evL, Option.some.injEq] at h; subst h; exact ⟨[], rfl, rfl, by simp⟩
  | x :: r, l, h => by
    simp only [evL, Option.bind_eq_some_iff, Option.map_eq_some_iff] at h
    obtain ⟨v, hv, l', hl, rfl⟩ := h
    obtain ⟨v1, g1, g2⟩ := ev_sound hX he hv
    obtain ⟨l1, k1, k2, k3⟩ := evL_sound hX he hl
    refine ⟨v1 :: l1, by simp [Ab.evArgs, g1, k1], by simp [k2], fun j u hu => ?_⟩
    cases j with
    | zero => simp at hu; subst hu; exact ⟨v1, by simp, g2⟩
    | succ j => simpa using k3 j u (by simpa using hu)
theorem VR.int {k : IntKind} {x : IT k} {u : Value} (h : VR (gl1 X) M (.val (.int k) x) u) : u = .int k (toI k x) := by
  obtain ⟨cs, h1, h2⟩ := h.val
  have h1 : cs = [.int k (toI k x)] := h1
  subst h1; exact h2
theorem VR.ofint {k : IntKind} {x : IT k} : VR (gl1 X) M (.val (.int k) x) (.int k (toI k x)) := VR.mkval (s := .int k) rfl
theorem VR.bool {b : Bool} {u : Value} (h : VR (gl1 X) M (.val .bool b) u) : u = .bool b := by
  obtain ⟨cs, h1, h2⟩ := h.val
  have h1 : cs = [.bool b] := h1
  subst h1; exact h2
theorem VR.ofbool {b : Bool} : VR (gl1 X) M (.val .bool b) (.bool b) := VR.mkval (s := .bool) rfl
theorem VR.str {x : List (BitVec 8)} {u : Value} (h : VR (gl1 X) M (.val .str x) u) : u = .string (strOf x) := by
  obtain ⟨cs, h1, h2⟩ := h.val
  have h1 : cs = [.string (strOf x)] := h1
  subst h1; exact h2
theorem VR.ofstr {x : List (BitVec 8)} : VR (gl1 X) M (.val .str x) (.string (strOf x)) := VR.mkval (s := .str) rfl
theorem castI {j k : IntKind} {x : IT j} {y : IT k} (h : castTo (.int j) (.int k) x = some y) : j = k ∧ toI j x = toI k y := by
  obtain ⟨e, he⟩ := castTo_some h
  injection e with e
  subst e
  exact ⟨rfl, by rw [he]⟩
theorem allB_eq {α : Type} (f : α → Option Bool) (g : α → Bool) : ∀ (l : List α), (∀ a ∈ l, f a = some (g a)) → Ab.allB (l.map f) = some (l.all g)
  | [], _ => rfl
  | a :: l, h => by
    simp only [List.map_cons, Ab.allB, h a (by simp), allB_eq f g l (fun b hb => h b (by simp [hb])), Option.bind_some, Option.map_some, List.all_cons]
theorem apart_mk {t : TypeId} {s : Sh} {cs : List Value} {off : Nat} (h : shChk X.P s (.inl t) = true) (hl : off + s.size ≤ cs.length) : apart X.P t cs off = some (mkV s.isAgg ((cs.drop off).take s.size)) := by
  obtain ⟨d, h1, h2⟩ := shChk_und h
  unfold apart
  rw [h1, shChk_sz h]
  simp only [h2]
  cases ha : s.isAgg with
  | true => simp only [if_true]; rw [show Nat.ble (off + s.size) cs.length = true from by simpa using hl]; rfl
  | false =>
    have h1 := size_one ha
    simp only [Bool.false_eq_true, if_false]
    rw [h1, List.getElem?_eq_getElem (by omega)]
    rw [List.drop_eq_getElem_cons (by omega)]
    rfl
theorem teq_dec {s : Sh} {x y : s.T} : teq s x y = true ↔ x = y := teq_iff
theorem teq_cong {s : Sh} {x y : s.T} {b : Bool} (h : b = true ↔ x = y) : teq s x y = b := by
  cases hb : b with
  | true => exact teq_iff.2 (h.1 hb)
  | false =>
    cases ht : teq s x y with
    | false => rfl
    | true => have := h.2 (teq_iff.1 ht); rw [hb] at this; cases this
theorem allB_app {l m : List (Option Bool)} {a b : Bool} (h : Ab.allB l = some a) (k : Ab.allB m = some b) : Ab.allB (l ++ m) = some (a && b) := by
  induction l generalizing a with
  | nil => simp only [Ab.allB, Option.some.injEq] at h; subst h; simpa using k
  | cons o l ih =>
    simp only [Ab.allB, Option.bind_eq_some_iff, Option.map_eq_some_iff] at h
    obtain ⟨c, hc, d, hd, rfl⟩ := h
    simp only [List.cons_append, Ab.allB, hc, Option.bind_some, ih hd, Option.map_some, Bool.and_assoc]
theorem aeqIn_field {d : Nat} {f : Field} {s : Sh} {x y : s.T} {cx cy px py qx qy : List Value} (hs : shChk X.P s (.inl f.type) = true) (hlx : Cells (gl1 X) M.H1 s x cx) (hly : Cells (gl1 X) M.H1 s y cy) (hpx : px.length = f.offset) (hpy : py.length = f.offset)
    (hn : (f.name != "_") = true) (ih : Ab.aeqIn X.P d f.type (mkV s.isAgg cx) (mkV s.isAgg cy) = some (teq s x y)) :
    (if f.name ≠ "_" then (apart X.P f.type (px ++ (cx ++ qx)) f.offset).bind fun a => (apart X.P f.type (py ++ (cy ++ qy)) f.offset).bind fun b => Ab.aeqIn X.P d f.type a b else some true) = some (teq s x y) := by
  have hn : f.name ≠ "_" := by simpa using hn
  rw [if_pos hn]
  have e1 : ∀ (p c q : List Value), p.length = f.offset → c.length = s.size → apart X.P f.type (p ++ (c ++ q)) f.offset = some (mkV s.isAgg c) := by
    intro p c q hp hc
    rw [apart_mk hs (by simp only [List.length_append]; omega)]
    rw [← hp, List.drop_left, ← hc, List.take_left]
  rw [e1 px cx qx hpx hlx.length, e1 py cy qy hpy hly.length]
  exact ih
theorem rd_inj {s : Sh} {xs ys : List s.T} {n : Nat} (hx : xs.length = n) (hy : ys.length = n) : (∀ i, i < n → rd s xs i = rd s ys i) ↔ xs = ys := by
  constructor
  · intro h
    apply List.ext_getElem? ; intro i
    by_cases hi : i < n
    · rw [rd_of (by omega), rd_of (by omega), h i hi]
    · rw [List.getElem?_eq_none (by omega), List.getElem?_eq_none (by omega)]
  · rintro rfl _ _; rfl
theorem aeqIn_both : ∀ (s : Sh), (∀ (t : TypeId) (d : Nat) (x y : s.T) (cx cy : List Value), s.depth < d → shChk X.P s (.inl t) = true → eqChk X.P s (.inl t) = true → s.cmp = true → Cells (gl1 X) M.H1 s x cx → Cells (gl1 X) M.H1 s y cy →
      Ab.aeqIn X.P d t (mkV s.isAgg cx) (mkV s.isAgg cy) = some (teq s x y)) ∧
    (∀ (l : List Field) (off d : Nat) (x y : s.T) (cx cy px py : List Value), s.depth ≤ d → shChk X.P s (.inr (l, off)) = true → eqChk X.P s (.inr l) = true → s.cmp = true → Cells (gl1 X) M.H1 s x cx → Cells (gl1 X) M.H1 s y cy → px.length = off → py.length = off →
      Ab.allB (l.map fun f => if f.name ≠ "_" then (apart X.P f.type (px ++ cx) f.offset).bind fun a => (apart X.P f.type (py ++ cy) f.offset).bind fun b => Ab.aeqIn X.P d f.type a b else some true) = some (teq s x y))
  | .int k => by
    refine ⟨fun t d x y cx cy hd hs he hc hx hy => ?_, fun l off d x y cx cy px py hd hs => by simp [shChk] at hs⟩
    obtain ⟨d, rfl⟩ : ∃ m, d = m + 1 := ⟨d - 1, by omega⟩
    have hx : cx = [.int k (toI k x)] := hx
    have hy : cy = [.int k (toI k y)] := hy
    subst hx; subst hy
    unfold Ab.aeqIn
    simp only [shChk_int hs, mkV, Sh.isAgg, cond_false, List.headD_cons, if_true, Option.some.injEq]
    refine (teq_cong ?_).symm
    simp only [beq_iff_eq]
    exact ⟨toI_inj, fun h => by rw [h]⟩
  | .bool => by
    refine ⟨fun t d x y cx cy hd hs he hc hx hy => ?_, fun l off d x y cx cy px py hd hs => by simp [shChk] at hs⟩
    obtain ⟨d, rfl⟩ : ∃ m, d = m + 1 := ⟨d - 1, by omega⟩
    have hx : cx = [.bool x] := hx
    have hy : cy = [.bool y] := hy
    subst hx; subst hy
    unfold Ab.aeqIn
    simp only [shChk_bool hs, mkV, Sh.isAgg, cond_false, List.headD_cons, Option.some.injEq]
    refine (teq_cong ?_).symm
    simp only [beq_iff_eq]
  | .unit => by
    refine ⟨fun t d x y cx cy hd hs he => by simp [eqChk] at he, fun l off d x y cx cy px py hd hs he _ _ _ _ _ => ?_⟩
    match l, hs with
    | [], _ =>
      simp only [List.map_nil, Ab.allB, Option.some.injEq]
      exact (teq_cong ⟨fun _ => rfl, fun _ => rfl⟩).symm
    | _ :: _, hs => simp [shChk] at hs
  | .pair a b => by
    obtain ⟨ia, _⟩ := aeqIn_both a
    obtain ⟨_, ib⟩ := aeqIn_both b
    have two : ∀ (l : List Field) (off d : Nat) (x y : (Sh.pair a b).T) (cx cy px py : List Value), (Sh.pair a b).depth ≤ d → shChk X.P (.pair a b) (.inr (l, off)) = true → eqChk X.P (.pair a b) (.inr l) = true → (Sh.pair a b).cmp = true → Cells (gl1 X) M.H1 (.pair a b) x cx → Cells (gl1 X) M.H1 (.pair a b) y cy → px.length = off → py.length = off →
        Ab.allB (l.map fun f => if f.name ≠ "_" then (apart X.P f.type (px ++ cx) f.offset).bind fun a => (apart X.P f.type (py ++ cy) f.offset).bind fun b => Ab.aeqIn X.P d f.type a b else some true) = some (teq (.pair a b) x y) := by
      intro l off d x y cx cy px py hd hs he hc ⟨c1, d1, e1, hx1, hx2⟩ ⟨c2, d2, e2, hy1, hy2⟩ hpx hpy
      subst e1; subst e2
      match l, hs, he with
      | [], hs, _ => simp [shChk] at hs
      | f :: r, hs, he =>
        simp only [shChk, Bool.and_eq_true] at hs
        simp only [eqChk, Bool.and_eq_true] at he
        simp only [Sh.cmp, Bool.and_eq_true] at hc
        simp only [Sh.depth] at hd
        have hda : a.depth < d := by omega
        have hdb : b.depth ≤ d := by omega
        have hoff := Nat.eq_of_beq_eq_true hs.1
        have h1 := aeqIn_field (d := d) (px := px) (py := py) (qx := d1) (qy := d2) hs.2.1 hx1 hy1 (by omega) (by omega) he.1 (ia f.type d x.1 y.1 c1 c2 hda hs.2.1 he.2.1 hc.1 hx1 hy1)
        have h2 := ib r (off + a.size) d x.2 y.2 d1 d2 (px ++ c1) (py ++ c2) hdb hs.2.2 he.2.2 hc.2 hx2 hy2 (by rw [List.length_append, hx1.length]; omega) (by rw [List.length_append, hy1.length]; omega)
        simp only [List.map_cons, Ab.allB, h1, Option.bind_some]
        simp only [List.append_assoc] at h2
        rw [h2]
        simp only [Option.map_some, Option.some.injEq]
        refine (teq_cong ?_).symm
        simp only [Bool.and_eq_true, teq_iff]
        exact ⟨fun h => Prod.ext h.1 h.2, fun h => by rw [h]; exact ⟨rfl, rfl⟩⟩
    refine ⟨fun t d x y cx cy hd hs he hc hx hy => ?_, two⟩
    obtain ⟨d, rfl⟩ : ∃ m, d = m + 1 := ⟨d - 1, by omega⟩
    obtain ⟨fs, hu, hs2⟩ := shChk_pair hs
    simp only [eqChk, Bool.and_eq_true, Bool.not_eq_true'] at he
    obtain ⟨he0, he1⟩ := he
    have he2 : eqChk X.P (.pair a b) (.inr fs.toList) = true := by
      rw [hu] at he1
      split at he1
      · rename_i f r hfr
        injection hfr with hfr; injection hfr with hfr
        subst hfr
        exact he1
      · cases he1
    unfold Ab.aeqIn
    simp only [hu, mkV, Sh.isAgg, cond_true, he0, cond_false]
    exact two fs.toList 0 d x y cx cy [] [] (by omega) hs2 he2 hc hx hy rfl rfl
  | .arr n s => by
    obtain ⟨ia, _⟩ := aeqIn_both s
    refine ⟨fun t d x y cx cy hd hs he hc hx hy => ?_, fun l off d x y cx cy px py hd hs => by simp [shChk] at hs⟩
    obtain ⟨d, rfl⟩ : ∃ m, d = m + 1 := ⟨d - 1, by omega⟩
    obtain ⟨hx1, hx2⟩ := hx
    obtain ⟨hy1, hy2⟩ := hy
    obtain ⟨el, hu, hs2⟩ := shChk_arr hs
    simp only [eqChk] at he
    rw [hu] at he
    simp only [Sh.depth] at hd
    unfold Ab.aeqIn
    simp only [hu, mkV, Sh.isAgg, cond_true, shChk_sz hs2, Option.bind_some]
    rw [allB_eq _ (fun i => teq s (rd s x i) (rd s y i)) (List.range' 0 n)]
    · simp only [Option.some.injEq]
      refine (teq_cong ?_).symm
      rw [List.all_eq_true]
      have hr := rd_inj (s := s) (xs := x) (ys := y) hx1 hy1
      rw [← hr]
      constructor
      · intro h i hi
        exact teq_iff.1 (h i (by simp; omega))
      · intro h i hi
        exact teq_iff.2 (h i (by simp at hi; omega))
    · intro i hi
      have hi : i < n := by simp at hi; omega
      obtain ⟨g1, g2⟩ := hx2.nth (fun _ _ h => h.length) (rd_of (k := i) (by rw [hx1]; exact hi))
      obtain ⟨k1, k2⟩ := hy2.nth (fun _ _ h => h.length) (rd_of (k := i) (by rw [hy1]; exact hi))
      rw [apart_mk hs2 g2, apart_mk hs2 k2]
      exact ia el d (rd s x i) (rd s y i) _ _ (by omega) hs2 he hc g1 k1
  | .str => ⟨fun _ _ _ _ _ _ _ _ _ hc => by simp [Sh.cmp] at hc, fun _ _ _ _ _ _ _ _ _ _ hs => by simp [shChk] at hs⟩
  | .non _ => ⟨fun _ _ _ _ _ _ _ _ _ hc => by simp [Sh.cmp] at hc, fun _ _ _ _ _ _ _ _ _ _ hs => by simp [shChk] at hs⟩
  | .sl _ => ⟨fun _ _ _ _ _ _ _ _ _ hc => by simp [Sh.cmp] at hc, fun _ _ _ _ _ _ _ _ _ _ hs => by simp [shChk] at hs⟩
end
end Go.Ty
