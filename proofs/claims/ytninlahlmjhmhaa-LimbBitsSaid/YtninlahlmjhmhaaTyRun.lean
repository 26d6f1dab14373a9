import Derived.Test.YtninlahlmjhmhaaTyCore
namespace Go.Ty
open Go.Ab (AExit fitsN)

/-! ## The formula of a run -/
def ifB (b : Bool) (p q : Prop) : Prop := match b with | true => p | false => q
def dmd (b : Bool) (p : Prop) : Prop := match b with | true => p | false => False

def execK : HAct → Heap → (Option SV → Heap → List Nat → List Nat → Prop) → Prop
  | .fail, _, _ => False
  | .ret v, H, K => K v H [] []
  | .dem b k, H, K => dmd b (execK k H K)
  | .pre p k, H, K => p ∧ execK k H K
  | .look b k, H, K => match H b with
    | .live x => execK (k x) H fun v H t w => K v H (b :: t) w
    | _ => False
  | .put b x k, H, K => match H b with
    | .live _ => execK k (H.put b (.live x)) fun v H t w => K v H (b :: t) (b :: w)
    | _ => False
  | .kill b k, H, K => match H b with
    | .live _ => execK k (H.put b .dead) fun v H t w => K v H (b :: t) (b :: w)
    | _ => False
  | .new b x k, H, K => match H b with
    | .fresh => execK k (H.put b (.live x)) fun v H t w => K v H (b :: t) (b :: w)
    | _ => False

def putS (e : Env) (dst : Option Tmp) (v : Option SV) : Env :=
  match dst with
  | some d => e.set d v
  | none => e

def gslot (ops : Array Oper) (j : Nat) : Option Tmp := (ops[j]?).bind (·.dst)
def skipV : SV := .tup []
def boolV (b : Bool) : SV := .av (.val .bool b)

abbrev FP := List Nat × List Nat

section
variable (X : Cx) (ops : Array Oper) (N base : Nat)

def regK (K : St → List FP → Prop) : List Oper → Nat → St → List FP → Prop
  | [], _, s, f => K s f
  | o :: r, j, s, f => dmd (fitsN N o.dst) (
    match o.guard with
    | none => execK (opA X s.env (base + 8 * j) o.op) s.heap fun v H t w => regK K r (j + 1) ⟨putS s.env o.dst v, H, s.next⟩ (f ++ [(t, w)])
    | some (g, want) => match gslot ops g with
      | none => False
      | some d => match s.env d with
        | some (.tup []) => regK K r (j + 1) ⟨putS s.env o.dst (some skipV), s.heap, s.next⟩ (f ++ [([], [])])
        | some (.av (.val .bool b)) => ifB b
            (bif want then execK (opA X (s.env.set d (some (boolV true))) (base + 8 * j) o.op) s.heap fun v H t w => regK K r (j + 1) ⟨putS (s.env.set d (some (boolV true))) o.dst v, H, s.next⟩ (f ++ [(t, w)])
              else regK K r (j + 1) ⟨putS (s.env.set d (some (boolV true))) o.dst (some skipV), s.heap, s.next⟩ (f ++ [([], [])]))
            (bif want then regK K r (j + 1) ⟨putS (s.env.set d (some (boolV false))) o.dst (some skipV), s.heap, s.next⟩ (f ++ [([], [])])
              else execK (opA X (s.env.set d (some (boolV false))) (base + 8 * j) o.op) s.heap fun v H t w => regK K r (j + 1) ⟨putS (s.env.set d (some (boolV false))) o.dst v, H, s.next⟩ (f ++ [(t, w)]))
        | _ => False)
end

/-- the pairs of operations that may be done in either order; none: the order can't be left open -/
def pairs (ops : Array Oper) : Option (List (Nat × Nat)) :=
  let b := Region.before ops
  let l := ops.toList.zipIdx
  bif l.all fun (y, j) => y.after.toList.all (fun e => !Region.binds .any e || Nat.blt e.on j) then
    let ps := l.flatMap fun (y, j) => (l.filter fun (_, i) => Nat.blt i j && !(b.getD j 0).testBit i).map fun (x, i) => (x, i, y, j)
    bif ps.all fun (x, _, y, _) => x.apart ops y then some (ps.map fun (_, i, _, j) => (i, j)) else none
  else none

def disj (a b : List Nat) : Bool := a.all fun x => !b.contains x
def apartF (f g : FP) : Bool := disj f.2 g.1 && disj g.2 f.1
def freeOk (ops : Array Oper) (f : List FP) : Bool :=
  match pairs ops with
  | some ps => ps.all fun (i, j) => match f[i]?, f[j]? with
    | some a, some b => apartF a b
    | _, _ => false
  | none => false

def keyOf : Code → Option Nat
  | .region id _ _ => some id
  | .seq a b => match keyOf a with
    | some k => some k
    | none => keyOf b
  | .cond _ a b => match keyOf a with
    | some k => some k
    | none => keyOf b
  | .block _ b => keyOf b
  | .loop b => keyOf b
  | _ => none

abbrev Post := AExit → St → Prop
abbrev PT := St → Post → Prop

def unroll (F : PT) : Nat → PT
  | 0, _, _ => False
  | n + 1, s, K => F s fun x s' => match x with
    | .normal => unroll F n s' K
    | .ret => K .ret s'
    | .exit i => K (.exit i) s'

section
variable (X : Cx) (N : Nat) (LS : Nat → Option PT)
def W : Code → PT
  | .skip, s, K => K .normal s
  | .region _ ops draw, s, K => regK X ops N s.next (fun s' f => dmd (!draw || freeOk ops f) (K .normal ⟨s'.env, s'.heap, s'.next + 8 * ops.size⟩)) ops.toList 0 s []
  | .seq a b, s, K => W a s fun x s' => match x with
    | .normal => W b s' K
    | .ret => K .ret s'
    | .exit i => K (.exit i) s'
  | .cond c a b, s, K => match c with
    | .tmp t => match s.env t with
      | some (.av (.val .bool v)) => ifB v (W a ⟨s.env.set t (some (boolV true)), s.heap, s.next⟩ K) (W b ⟨s.env.set t (some (boolV false)), s.heap, s.next⟩ K)
      | _ => False
    | .const (.bool true) => W a s K
    | .const (.bool false) => W b s K
    | _ => False
  | .block id b, s, K => W b s fun x s' => match x with
    | .normal => K .normal s'
    | .ret => K .ret s'
    | .exit i => bif Nat.beq i id then K .normal s' else K (.exit i) s'
  | .loop b, s, K => match (keyOf b).bind LS with
    | some p => p s K
    | none => unroll (W b) 1000 s K
  | .exit id, s, K => K (.exit id) s
  | .label _, s, K => K .normal s
  | .ret, s, K => K .ret s
  | _, _, _ => False

/-- what a function hands back; its memory is no longer written -/
def resK (s : St) : List ResultVar → (List AV → Heap → Prop) → Prop
  | [], K => K [] s.heap
  | .tmp t :: r, K => match s.env t with
    | some (.av v) => execK (frzA v fun v => .pure v) s.heap fun v H _ _ => match v with
      | some (.av v) => resK ⟨s.env, H, s.next⟩ r fun l H => K (v :: l) H
      | _ => False
    | _ => False
  | .cell a t :: r, K => match s.env a with
    | some (.av a) => execK (loadA X t a) s.heap fun v H _ _ => match v with
      | some (.av v) => execK (frzA v fun v => .pure v) H fun v H _ _ => match v with
        | some (.av v) => resK ⟨s.env, H, s.next⟩ r fun l H => K (v :: l) H
        | _ => False
      | _ => False
    | _ => False
def one : List AV → SV
  | [v] => .av v
  | l => .tup l
def envOf (l : List SV) : Env := fun k => l[k]?
/-- a function over plain values: what it hands back -/
def FW (fn : Func) (args : List SV) (K : SV → Prop) : Prop :=
  match fn.body with
  | some c => W X N LS c ⟨envOf args, fun _ => .fresh, 1000⟩ fun x s => match x with
    | .exit _ => False
    | .normal => resK X s fn.results.toList fun l _ => K (one l)
    | .ret => resK X s fn.results.toList fun l _ => K (one l)
  | none => False
end
end Go.Ty
