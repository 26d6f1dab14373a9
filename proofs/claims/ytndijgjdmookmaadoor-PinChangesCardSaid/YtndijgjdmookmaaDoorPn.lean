import Derived.Test.YtndijgjdmookmaaDoorHn
import Derived.Test.YtndijgjdmookmaaDoorTyD
namespace Go.Proofs.YtndijgjdmookmaaDoor
open Go.Ty

/-! ## Stretched PINs -/
theorem newS_ok : COK Tryd.prog GL 58 (conS [.v (.sl u8S)] newMF) :=
  conS_ok (fun xs _ hc => PC_of_fw (t := LmN) shA_ok H6_ok mixed Tryd.func58 (c := bmN) rfl (by kernel_rfl) (by kernel_rfl)
    (loopsOK (by kernel_rfl) (LTCons (loop_of shA_ok H6_ok mixed (loopsOK (by kernel_rfl) (LTCons (noLoop (by kernel_rfl)) LTNil)) (by kernel_rfl) loopmN) LTNil)) rfl (newM_fw xs.1 (Nat.le_of_ble_eq_true hc.1))) (fun _ => rfl)
theorem writeS_ok : COK Tryd.prog GL 59 (conS [.v macS, .v (.sl u8S)] writeMF) :=
  conS_ok (fun xs _ hc => PC_of_fw (t := []) shA_ok H6_ok mixed Tryd.func59 (c := Tryd.f59.body.getD .skip) rfl (by kernel_rfl) (by kernel_rfl) loopsNil rfl ((fwMWrite xs.1 xs.2.1 _).mpr (dmd_of hc.1 rfl))) (fun _ => rfl)
theorem sumS_ok : COK Tryd.prog GL 60 (conS [.v macS] fun xs => .ret (.av (.val b32S (sumM xs.1)))) :=
  conS_ok (fun xs _ _ => PC_of_fw (t := []) shA_ok H6_ok mixed Tryd.func60 (c := Tryd.f60.body.getD .skip) rfl (by kernel_rfl) (by kernel_rfl) loopsNil rfl ((fwMSum xs.1 _).mpr (by
    have e := take_all (l := sumW xs.1.1) (n := 32) (sumW_len _).symm
    rw [e, sumW_len]
    exact dmd_of rfl rfl))) (fun _ => rfl)
theorem macS_ok : COK Tryd.prog GL 32 (conS [.v (.sl u8S), .v (.sl u8S)] macF) :=
  conS_ok (fun xs _ hc => PC_of_fw (t := []) shA_ok M1_ok mixed Tryd.func32 (c := Tryd.f32.body.getD .skip) rfl (by kernel_rfl) (by kernel_rfl) loopsNil rfl ((fwMac xs.1 xs.2.1 _).mpr (dmd_of hc.1 (dmd_of hc.2.1 rfl)))) (fun _ => rfl)
noncomputable def P0c : CTab := (58, conS [.v (.sl u8S)] newMF) :: (59, conS [.v macS, .v (.sl u8S)] writeMF) :: (60, conS [.v macS] fun xs => .ret (.av (.val b32S (sumM xs.1)))) :: (32, conS [.v (.sl u8S), .v (.sl u8S)] macF) :: []
noncomputable abbrev P0 : Go.Ty.Cx := mkX Tryd.prog GL shA P0c
theorem P0_ok : ∀ p ∈ P0c, COK Tryd.prog GL p.1 p.2 := CCons newS_ok (CCons writeS_ok (CCons sumS_ok (CCons macS_ok CNil)))
noncomputable def stD (k p : List (BitVec 8)) : Nat → List (BitVec 8)
  | 0 => macW k p
  | n + 1 => macW k (stD k p n ++ p)
theorem macW_len (k p : List (BitVec 8)) : (macW k p).length = 32 := sumM_len _
theorem stD_len (k p : List (BitVec 8)) : ∀ n, (stD k p n).length = 32
  | 0 => macW_len _ _
  | _ + 1 => macW_len _ _
theorem tk_st (k p : List (BitVec 8)) (n : Nat) : List.take 32 (List.drop 0 (stD k p n)) = stD k p n := take_all (stD_len k p n).symm
abbrev Ist : List It := [.v 0 (.sl u8S), .v 1 (.sl u8S), .p 4 2000 b32S, .p 5 2001 b32S, .v 9 i64S]
abbrev ost : List (Nat × List It) := [(0, [.p 4 2000 b32S, .p 5 2001 b32S])]
noncomputable def Qst : LQ Ist [] ost := fun x _ Kx => ∃ k p r : List (BitVec 8), x = (k, p, r, stD k p 0, (0 : Int), ()) ∧ (k.length ≤ 140737488355328 ∧ p.length ≤ 140737488355328) ∧ Kx.1 (r, stD k p 8, ())
noncomputable def bst : Code := Tryd.f47.body.getD .skip
noncomputable abbrev Lst : LTab := [(3, ptL Ist [] ost Qst)]
theorem roundst (k p : List (BitVec 8)) (r d : List (BitVec 8)) (i : Int) (Kn : HI Ist → Prop) (Kr : HI [] → Prop) (Kx : HP ost) : roundT (W P0 Tryd.f47.ntmps (LTab.look Lst) (bodyAt bst 3)) Ist [] ost (k, p, r, d, i, ()) Kn Kr Kx =
 (  ifB (decide (i < 8))
    (dmd (k.length.ble 140737488355328)
      (dmd ((List.take 32 (List.drop 0 d)).length.ble 140737488355328)
        (dmd (p.length.ble 140737488355328)
          (Kn
            (k, p, r, sumM (writeM (writeM (newM k) (List.take 32 (List.drop 0 d))) p), IntKind.i64.wrap (i + 1),
              PUnit.unit)))))
    (Kx.1 (r, d, PUnit.unit))) := by kernel_rfl
theorem fwStretch (k : Sh.T (.sl u8S)) (p : Sh.T (.sl u8S)) (P : SV → Prop) : FW P0 Tryd.f47.ntmps (LTab.look Lst) Tryd.f47 (argsOf [.sl u8S, .sl u8S] (k, p, ())) P =
 (  dmd ((List.length k).ble 140737488355328)
    (dmd ((List.length p).ble 140737488355328)
      (Qst (k, p, List.replicate 32 0#8, macW k p, 0, PUnit.unit) (fun _ => False)
        (fun x => P (SV.av (AV.val (Sh.arr 32 (Sh.int IntKind.u8)) x.2.1)), PUnit.unit)))) := by kernel_rfl
set_option maxRecDepth 20000 in
theorem loopst : ∀ x Kr Kx, Qst x Kr Kx → ∃ n, untl (W P0 Tryd.f47.ntmps (LTab.look Lst) (bodyAt bst 3)) Ist [] ost n x Kr Kx := by
  rintro x Kr Kx ⟨k, p, r, ex, ⟨hk, hp⟩, hK⟩
  have key := untl_up (F := W P0 Tryd.f47.ntmps (LTab.look Lst) (bodyAt bst 3)) (l := Ist) (lr := []) (lx := ost) (Kr := Kr) (Kx := Kx) (st := fun i => (k, p, r, stD k p i, (i : Int), ())) 8 (fun i hi Kn hn => ?_) (fun Kn => ?_)
  · rw [ex]; exact key
  · rw [roundst, i64w (a := (i : Int) + 1) (n := i + 1) (by omega) (by omega), tk_st, stD_len]
    refine ifB_dec (fun _ => dmd_of (bleT hk) (dmd_of rfl (dmd_of (bleT hp) ?_))) (fun c => absurd (show (i : Int) < 8 by omega) c)
    rw [← writeM_app]
    exact hn
  · rw [roundst]
    exact ifB_dec (fun c => absurd c (by decide)) (fun _ => hK)
noncomputable def strPF : HA [.v (.sl u8S), .v (.sl u8S)] → RT := fun xs => .dem (Nat.ble (List.length xs.1) 140737488355328) (.dem (Nat.ble (List.length xs.2.1) 140737488355328) (.ret (.av (.val b32S (stD xs.1 xs.2.1 8)))))
theorem stretch_fw (k p : List (BitVec 8)) (hk : Nat.ble k.length 140737488355328 = true) (hp : Nat.ble p.length 140737488355328 = true) : FW P0 Tryd.f47.ntmps (LTab.look Lst) Tryd.f47 (argsOf [.sl u8S, .sl u8S] (k, p, ())) (fun r => r = .av (.val b32S (stD k p 8))) := by
  rw [fwStretch]
  exact dmd_of hk (dmd_of hp ⟨k, p, _, rfl, ⟨Nat.le_of_ble_eq_true hk, Nat.le_of_ble_eq_true hp⟩, rfl⟩)
set_option maxRecDepth 20000 in
theorem stretch_ok : COK Tryd.prog GL 47 (conA [.v (.sl u8S), .v (.sl u8S)] strPF) :=
  conA_ok (fun xs _ hc => PC_of_fw (t := Lst) shA_ok P0_ok mixed Tryd.func47 (c := bst) rfl (by kernel_rfl) (by kernel_rfl)
    (loopsOK (by kernel_rfl) (LTCons (loop_of shA_ok P0_ok mixed (loopsOK (by kernel_rfl) (LTCons (noLoop (by kernel_rfl)) LTNil)) (by kernel_rfl) loopst) LTNil)) rfl (stretch_fw xs.1 xs.2.1 hc.1 hc.2.1)) (fun _ => rfl)
end Go.Proofs.YtndijgjdmookmaaDoor
