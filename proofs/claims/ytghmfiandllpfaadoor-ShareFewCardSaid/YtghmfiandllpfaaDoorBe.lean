import Derived.Test.YtghmfiandllpfaaDoorDsk
import Derived.Test.YtghmfiandllpfaaDoorGa
import Derived.Test.YtghmfiandllpfaaDoorFn
namespace Go.Proofs.YtghmfiandllpfaaDoor
open Go.Ty

abbrev Num : Type := List (BitVec 64)
noncomputable def topW (m : Num) : Num := wordsN 4 (valN m + Lb.B256 - valN ((List.replicate 4 0#64).set 0 1#64))
noncomputable def offO (m : Num) : Int := IntKind.i64.wrap (((Lb.blen (valN (topW m)) : Nat) : Int) - 256)
noncomputable def canW (b : List (BitVec 8)) (o : Int) : Num := wordsN 4 (Lb.shiftN (valN (wordsN 4 (Lb.shiftN (valN (wordsN 4 (Lb.valB b))) (IntKind.i64.wrap (0 - o))))) o)
noncomputable def runT (x : Src) : Nat → Src
  | 0 => x
  | n + 1 => runG (runT x n) 32
/-- 100, as a number that nobody counts down -/
noncomputable def N100 : Nat := Classical.choose (⟨100, rfl⟩ : ∃ n : Nat, n = 100)
theorem N100_eq : N100 = 100 := Classical.choose_spec (⟨100, rfl⟩ : ∃ n : Nat, n = 100)
noncomputable def hitB (x : Src) (m : Num) (k : Nat) : Bool := decide (Lb.cmpI (valN (canW (outB (runT x k) 32 32) (offO m))) (valN m) < 0)
noncomputable def belH (x : Src) (m : Num) : Option Nat := firstN (hitB x m) N100
noncomputable def zN (m : Num) : Bool := teq numS m (List.replicate 4 0#64)
noncomputable def belE (x : Src) (m : Num) : Int := bif zN m then 1 else match belH x m with
  | some _ => 0
  | none => 6
noncomputable def belX (x : Src) (m : Num) : Num := bif zN m then List.replicate 4 0#64 else match belH x m with
  | some k => canW (outB (runT x k) 32 32) (offO m)
  | none => List.replicate 4 0#64
noncomputable def belG (x : Src) (m : Num) : Src := bif zN m then x else match belH x m with
  | some k => runT x (k + 1)
  | none => runT x N100
noncomputable def N0c : CTab := (30, conT [numS, numS] Lb.subB) :: (31, conT [numS] Lb.lenF) :: (33, conT [.arr 32 u8S] Lb.ofF) :: (34, conT [numS, i64S] Lb.shiftF) :: (18, conT [numS, numS] Lb.cmpF) :: R1c
noncomputable abbrev N0 : Go.Ty.Cx := mkX Tryd.prog GL shA N0c
theorem subB_ok : COK Tryd.prog GL 30 (conT [numS, numS] Lb.subB) := by rw [Lb.subB_eq]; exact Lb.sub_ok
theorem N0_ok : ∀ p ∈ N0c, COK Tryd.prog GL p.1 p.2 := CCons subB_ok (CCons Lb.len_ok (CCons Lb.of_ok (CCons Lb.shift_ok (CCons Lb.cmp_ok R1_ok))))
abbrev Ibo : List It := [.p 0 0 srcS, .p 3 2000 numS, .p 4 2001 numS, .p 6 2002 numS, .v 9 i64S, .v 26 i64S]
abbrev rbo : List It := [.p 0 0 srcS, .p 4 2001 numS, .v 5 i64S]
abbrev obo : List (Nat × List It) := [(0, [.p 0 0 srcS, .p 4 2001 numS, .p 6 2002 numS])]
abbrev Ibi : List It := [.p 0 0 srcS, .p 3 2000 numS, .p 4 2001 numS, .p 6 2002 numS, .v 9 i64S, .v 26 i64S, .p 10 2003 b32S, .v 28 i64S]
abbrev obi : List (Nat × List It) := [(2, [.p 0 0 srcS, .p 3 2000 numS, .p 4 2001 numS, .p 6 2002 numS, .v 9 i64S, .v 26 i64S, .p 10 2003 b32S])]
noncomputable def stBo (y : Src) (m : Num) (o : Int) (i : Int) : HI Ibo := (y, m, List.replicate 4 0#64, List.replicate 4 0#64, o, i, ())
noncomputable def rtBo (y : Src) (r : Num) : HI rbo := (y, r, (0 : Int), ())
noncomputable def Qbo : LQ Ibo rbo obo := fun z Kr Kx => ∃ (x : Src) (m : Num), z = stBo x m (offO m) 0 ∧
  (∀ k, belH x m = some k → Kr (rtBo (runT x (k + 1)) (canW (outB (runT x k) 32 32) (offO m)))) ∧ (belH x m = none → Kx.1 (runT x N100, List.replicate 4 0#64, List.replicate 4 0#64, ()))
noncomputable def Qbi : LQ Ibi [] obi := fun z _ Kx => ∃ (x : Src) (m r q : Num) (o k : Int), z = (x, m, r, q, o, k, List.replicate 32 0#8, (0 : Int), ()) ∧ ∀ g b, g = runG x 32 → b = outB x 32 32 → Kx.1 (g, m, r, q, o, k, b, ())
noncomputable def bbe : Code := Tryd.f28.body.getD .skip
noncomputable abbrev Lbe : LTab := [(7, ptL Ibo rbo obo Qbo), (10, ptL Ibi [] obi Qbi)]
theorem roundbi (x : Src) (m r z : List (BitVec 64)) (o k : Int) (b : List (BitVec 8)) (i : Int) (Kn : HI Ibi → Prop) (Kr : HI [] → Prop) (Kx : HP obi) : roundT (W N0 Tryd.f28.ntmps (LTab.look Lbe) (bodyAt bbe 10)) Ibi [] obi (x, m, r, z, o, k, b, i, ()) Kn Kr Kx =
 (  ifB (decide (i < 32))
 (dmd (decide (0 ≤ i) && decide (i < 32))
 (Kn (nextG x, m, r, z, o, k, b.set i.toNat (nextB x), IntKind.i64.wrap (i + 1), PUnit.unit)))
 (Kx.1 (x, m, r, z, o, k, b, PUnit.unit))) := by kernel_rfl
theorem roundbo (x : Src) (m r z : Num) (o k : Int) (Kn : HI Ibo → Prop) (Kr : HI rbo → Prop) (Kx : HP obo) : roundT (W N0 Tryd.f28.ntmps (LTab.look Lbe) (bodyAt bbe 7)) Ibo rbo obo (x, m, r, z, o, k, ()) Kn Kr Kx =
  ifB (decide (k < 100)) (Qbi (x, m, r, z, o, k, List.replicate 32 0#8, 0, PUnit.unit) (fun _ => False)
    (fun y => ifB (decide (Lb.cmpI (valN (canW y.2.2.2.2.2.2.1 y.2.2.2.2.1)) (valN y.2.1) < 0)) (Kr (y.1, canW y.2.2.2.2.2.2.1 y.2.2.2.2.1, 0, PUnit.unit)) (Kn (y.1, y.2.1, y.2.2.1, y.2.2.2.1, y.2.2.2.2.1, IntKind.i64.wrap (y.2.2.2.2.2.1 + 1), PUnit.unit)), PUnit.unit)) (Kx.1 (x, r, z, PUnit.unit)) := by kernel_rfl
/-- a round: a hit or none -/
theorem tryY (y : Src) (m : Num) (o : Int) (i : Nat) (hi : i < 100) (Kn : HI Ibo → Prop) (Kr : HI rbo → Prop) (Kx : HP obo)
    (h1 : decide (Lb.cmpI (valN (canW (outB y 32 32) o)) (valN m) < 0) = true → Kr (rtBo (runG y 32) (canW (outB y 32 32) o))) (h2 : decide (Lb.cmpI (valN (canW (outB y 32 32) o)) (valN m) < 0) = false → Kn (stBo (runG y 32) m o ((i + 1 : Nat) : Int))) :
    roundT (W N0 Tryd.f28.ntmps (LTab.look Lbe) (bodyAt bbe 7)) Ibo rbo obo (stBo y m o (i : Int)) Kn Kr Kx := by
  refine (roundbo y m _ _ o (i : Int) Kn Kr Kx).mpr ?_
  refine ifB_dec (fun _ => ⟨y, m, List.replicate 4 0#64, List.replicate 4 0#64, o, (i : Int), rfl, fun g b hg hb => ?_⟩) (fun c => absurd (show (i : Int) < 100 by omega) c)
  rw [← hg, ← hb] at h1
  rw [← hg, ← hb] at h2
  clear hg hb
  show ifB (decide (Lb.cmpI (valN (canW b o)) (valN m) < 0)) (Kr (rtBo g (canW b o))) (Kn (stBo g m o (IntKind.i64.wrap ((i : Int) + 1))))
  rw [i64w (a := (i : Int) + 1) (n := i + 1) (by omega) (by omega)]
  exact ifB_of h1 h2
theorem tryR (x : Src) (m : Num) (i : Nat) (hi : i < 100) (Kn : HI Ibo → Prop) (Kr : HI rbo → Prop) (Kx : HP obo)
    (h1 : hitB x m i = true → Kr (rtBo (runT x (i + 1)) (canW (outB (runT x i) 32 32) (offO m)))) (h2 : hitB x m i = false → Kn (stBo (runT x (i + 1)) m (offO m) ((i + 1 : Nat) : Int))) :
    roundT (W N0 Tryd.f28.ntmps (LTab.look Lbe) (bodyAt bbe 7)) Ibo rbo obo (stBo (runT x i) m (offO m) (i : Int)) Kn Kr Kx :=
  tryY (runT x i) m (offO m) i hi Kn Kr Kx h1 h2
theorem loopbi : ∀ z Kr Kx, Qbi z Kr Kx → ∃ n, untl (W N0 Tryd.f28.ntmps (LTab.look Lbe) (bodyAt bbe 10)) Ibi [] obi n z Kr Kx := by
  rintro z Kr Kx ⟨x, m, r, q, o, k, ez, hK⟩
  have key := untl_up (F := W N0 Tryd.f28.ntmps (LTab.look Lbe) (bodyAt bbe 10)) (l := Ibi) (lr := []) (lx := obi) (Kr := Kr) (Kx := Kx) (st := fun i => (runG x i, m, r, q, o, k, outB x 32 i, (i : Int), ())) 32 (fun i hi Kn hn => ?_) (fun Kn => ?_)
  · rw [ez]; exact key
  · rw [roundbi, i64w (a := (i : Int) + 1) (n := i + 1) (by omega) (by omega), Int.toNat_natCast]
    exact ifB_dec (fun _ => dmd_of (andT (decTr (by omega)) (decTr (by omega))) hn) (fun c => absurd (show (i : Int) < 32 by omega) c)
  · rw [roundbi]
    exact ifB_dec (fun c => absurd c (by decide)) (fun _ => hK _ _ rfl rfl)
theorem loopbo : ∀ z Kr Kx, Qbo z Kr Kx → ∃ n, untl (W N0 Tryd.f28.ntmps (LTab.look Lbe) (bodyAt bbe 7)) Ibo rbo obo n z Kr Kx := by
  rintro z Kr Kx ⟨x, m, ez, hr, hn⟩
  rw [ez]
  have e100 := N100_eq
  cases hf : belH x m with
  | some j =>
    obtain ⟨h1, h2, h3⟩ := first_some hf
    refine untl_up (F := W N0 Tryd.f28.ntmps (LTab.look Lbe) (bodyAt bbe 7)) (l := Ibo) (lr := rbo) (lx := obo) (Kr := Kr) (Kx := Kx) (st := fun i => stBo (runT x i) m (offO m) (i : Int)) j (fun i hi Kn hK => ?_) (fun Kn => ?_)
    · exact tryR x m i (by omega) Kn Kr Kx (fun c => by rw [h3 i hi] at c; cases c) (fun _ => hK)
    · exact tryR x m j (by omega) Kn Kr Kx (fun _ => hr j hf) (fun c => by rw [h2] at c; cases c)
  | none =>
    have h3 := first_none hf
    refine untl_up (F := W N0 Tryd.f28.ntmps (LTab.look Lbe) (bodyAt bbe 7)) (l := Ibo) (lr := rbo) (lx := obo) (Kr := Kr) (Kx := Kx) (st := fun i => stBo (runT x i) m (offO m) (i : Int)) N100 (fun i hi Kn hK => ?_) (fun Kn => ?_)
    · exact tryR x m i (by omega) Kn Kr Kx (fun c => by rw [h3 i hi] at c; cases c) (fun _ => hK)
    · unfold stBo
      rw [roundbo]
      exact ifB_dec (fun c => absurd c (by omega)) (fun _ => hn hf)
theorem fwBelow (x : Src) (m : Num) (K : SV → Slot → Prop) : FWM N0 Tryd.f28.ntmps (LTab.look Lbe) Tryd.f28 srcS x (argsOf [numS] (m, ())) K =
  ifB (zN m) (K (.tup [.val numS (List.replicate 4 0#64), .val i64S 1]) (.live ⟨.one srcS (.val srcS x), true⟩))
    (Qbo (x, m, List.replicate 4 0#64, List.replicate 4 0#64, offO m, 0, PUnit.unit) (fun x => K (.tup [.val numS x.2.1, .val i64S x.2.2.1]) (.live ⟨.one srcS (.val srcS x.1), true⟩))
      (fun x => K (.tup [.val numS x.2.2.1, .val i64S 6]) (.live ⟨.one srcS (.val srcS x.1), true⟩), PUnit.unit)) := by kernel_rfl
theorem below_law (x : Src) (m : Num) (K : SV → Slot → Prop) (h : K (.tup [.val numS (belX x m), .val i64S (belE x m)]) (.live ⟨.one srcS (.val srcS (belG x m)), true⟩)) :
    FWM N0 Tryd.f28.ntmps (LTab.look Lbe) Tryd.f28 srcS x (argsOf [numS] (m, ())) K := by
  rw [fwBelow]
  unfold belX belE belG at h
  refine ifB_of (fun c => ?_) (fun c => ⟨x, m, rfl, fun k hk => ?_, fun hk => ?_⟩)
  · rw [cond_pos c, cond_pos c, cond_pos c] at h; exact h
  · rw [cond_neg c, cond_neg c, cond_neg c, hk] at h; exact h
  · rw [cond_neg c, cond_neg c, cond_neg c, hk] at h; exact h
theorem bodyBe : bodyAt (bodyAt bbe 7) 10 = bodyAt bbe 10 := by kernel_rfl
theorem lokBi : LoopsOK N0 Tryd.f28.ntmps (LTab.look Lbe) (bodyAt bbe 10) := loopsOK (by kernel_rfl) (LTCons (noLoop (by kernel_rfl)) (LTCons (noLoop (by kernel_rfl)) LTNil))
theorem lokBo : LoopsOK N0 Tryd.f28.ntmps (LTab.look Lbe) (bodyAt bbe 7) :=
  loopsOK (by kernel_rfl) (LTCons (noLoop (by kernel_rfl)) (LTCons (loop_of (t := Lbe) (c := bodyAt bbe 7) (k := 10) shA_ok N0_ok mixed (by rw [bodyBe]; exact lokBi) (by kernel_rfl) (by rw [bodyBe]; exact loopbi)) LTNil))
theorem lokBe : LoopsOK N0 Tryd.f28.ntmps (LTab.look Lbe) bbe :=
  loopsOK (by kernel_rfl) (LTCons (loop_of (t := Lbe) (c := bbe) (k := 7) shA_ok N0_ok mixed lokBo (by kernel_rfl) loopbo) (LTCons (loop_of (t := Lbe) (c := bbe) (k := 10) shA_ok N0_ok mixed lokBi (by kernel_rfl) loopbi) LTNil))
set_option maxRecDepth 20000 in
theorem below_ok : COK Tryd.prog GL 28 (conG srcS [.v numS] (fun x xs => belG x xs.1) fun x xs => .ret (.tup [.val numS (belX x xs.1), .val i64S (belE x xs.1)])) :=
  conG_ok (fun x xs _ _ _ => FWM_pcg (LS := LTab.look Lbe) (xok shA_ok) (consok N0_ok) mixed Tryd.func28 (c := bbe) rfl (by kernel_rfl) (by kernel_rfl) lokBe (below_law x xs.1 _ ⟨rfl, rfl⟩) rfl)
end Go.Proofs.YtghmfiandllpfaaDoor
