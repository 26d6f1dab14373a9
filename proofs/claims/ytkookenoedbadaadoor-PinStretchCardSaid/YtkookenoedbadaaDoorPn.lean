import Derived.Test.YtkookenoedbadaaDoorHn
import Derived.Test.YtkookenoedbadaaDoorSw
namespace Go.Proofs.YtkookenoedbadaaDoor
open Go.Ty

/-! ## Stretched PINs -/
theorem newS_ok : COK Tryd.prog GL 8 (conS [.v (.sl u8S)] newMF) :=
  conS_ok (fun xs _ hc => PC_of_fw (t := LmN) shA_ok H6_ok mixed Tryd.func8 (c := bmN) rfl (by kernel_rfl) (by kernel_rfl)
    (loopsOK (by kernel_rfl) (LTCons (loop_of shA_ok H6_ok mixed (loopsOK (by kernel_rfl) (LTCons (noLoop (by kernel_rfl)) LTNil)) (by kernel_rfl) loopmN) LTNil)) rfl (newM_fw xs.1 (Nat.le_of_ble_eq_true hc.1))) (fun _ => rfl)
theorem writeS_ok : COK Tryd.prog GL 9 (conS [.v macS, .v (.sl u8S)] writeMF) :=
  conS_ok (fun xs _ hc => PC_of_fw (t := []) shA_ok H6_ok mixed Tryd.func9 (c := Tryd.f9.body.getD .skip) rfl (by kernel_rfl) (by kernel_rfl) loopsNil rfl ((fwMWrite xs.1 xs.2.1 _).mpr (dmd_of hc.1 rfl))) (fun _ => rfl)
theorem sumS_ok : COK Tryd.prog GL 10 (conS [.v macS] fun xs => .ret (.av (.val b32S (sumM xs.1)))) :=
  conS_ok (fun xs _ _ => PC_of_fw (t := []) shA_ok H6_ok mixed Tryd.func10 (c := Tryd.f10.body.getD .skip) rfl (by kernel_rfl) (by kernel_rfl) loopsNil rfl ((fwMSum xs.1 _).mpr (by
    have e := take_all (l := sumW xs.1.1) (n := 32) (sumW_len _).symm
    rw [e, sumW_len]
    exact dmd_of rfl rfl))) (fun _ => rfl)
theorem macS_ok : COK Tryd.prog GL 5 (conS [.v (.sl u8S), .v (.sl u8S)] macF) :=
  conS_ok (fun xs _ hc => PC_of_fw (t := []) shA_ok M1_ok mixed Tryd.func5 (c := Tryd.f5.body.getD .skip) rfl (by kernel_rfl) (by kernel_rfl) loopsNil rfl ((fwMac xs.1 xs.2.1 _).mpr (dmd_of hc.1 (dmd_of hc.2.1 rfl)))) (fun _ => rfl)
noncomputable def P0c : CTab := (8, conS [.v (.sl u8S)] newMF) :: (9, conS [.v macS, .v (.sl u8S)] writeMF) :: (10, conS [.v macS] fun xs => .ret (.av (.val b32S (sumM xs.1)))) :: (5, conS [.v (.sl u8S), .v (.sl u8S)] macF) :: []
noncomputable abbrev P0 : Go.Ty.Cx := mkX Tryd.prog GL shA P0c
theorem P0_ok : ∀ p ∈ P0c, COK Tryd.prog GL p.1 p.2 := CCons newS_ok (CCons writeS_ok (CCons sumS_ok (CCons macS_ok CNil)))
noncomputable def stD (k p : List (BitVec 8)) : Nat → List (BitVec 8)
  | 0 => macW k p
  | n + 1 => macW k (stD k p n ++ p)
theorem macW_len (k p : List (BitVec 8)) : (macW k p).length = 32 := sumM_len _
theorem stD_len (k p : List (BitVec 8)) : ∀ n, (stD k p n).length = 32
  | 0 => macW_len _ _
  | _ + 1 => macW_len _ _
theorem tk_st (k p : List (BitVec 8)) (n : Nat) : List.take 32 (List.drop 0 (stD k p n)) = stD k p n := take_all (stD_len k p n).symm
abbrev Ist : List It := [.v 0 (.sl u8S), .v 1 (.sl u8S), .p 4 2000 b32S, .p 5 2001 b32S, .v 9 i64S]
abbrev ost : List (Nat × List It) := [(0, [.p 4 2000 b32S, .p 5 2001 b32S])]
noncomputable def Qst : LQ Ist [] ost := fun x _ Kx => ∃ k p r : List (BitVec 8), x = (k, p, r, stD k p 0, (0 : Int), ()) ∧ (k.length ≤ 140737488355328 ∧ p.length ≤ 140737488355328) ∧ Kx.1 (r, stD k p 8, ())
noncomputable def bst : Code := Tryd.f7.body.getD .skip
noncomputable abbrev Lst : LTab := [(3, ptL Ist [] ost Qst)]
theorem roundst (k p : List (BitVec 8)) (r d : List (BitVec 8)) (i : Int) (Kn : HI Ist → Prop) (Kr : HI [] → Prop) (Kx : HP ost) : roundT (W P0 Tryd.f7.ntmps (LTab.look Lst) (bodyAt bst 3)) Ist [] ost (k, p, r, d, i, ()) Kn Kr Kx =
 (  ifB (decide (i < 8))
    (dmd (k.length.ble 140737488355328)
      (dmd ((List.take 32 (List.drop 0 d)).length.ble 140737488355328)
        (dmd (p.length.ble 140737488355328)
          (Kn
            (k, p, r, sumM (writeM (writeM (newM k) (List.take 32 (List.drop 0 d))) p), IntKind.i64.wrap (i + 1),
              PUnit.unit)))))
    (Kx.1 (r, d, PUnit.unit))) := by kernel_rfl
theorem fwStretch (k : Sh.T (.sl u8S)) (p : Sh.T (.sl u8S)) (P : SV → Prop) : FW P0 Tryd.f7.ntmps (LTab.look Lst) Tryd.f7 (argsOf [.sl u8S, .sl u8S] (k, p, ())) P =
 (  dmd ((List.length k).ble 140737488355328)
    (dmd ((List.length p).ble 140737488355328)
      (Qst (k, p, List.replicate 32 0#8, macW k p, 0, PUnit.unit) (fun _ => False)
        (fun x => P (SV.av (AV.val (Sh.arr 32 (Sh.int IntKind.u8)) x.2.1)), PUnit.unit)))) := by kernel_rfl
set_option maxRecDepth 20000 in
theorem loopst : ∀ x Kr Kx, Qst x Kr Kx → ∃ n, untl (W P0 Tryd.f7.ntmps (LTab.look Lst) (bodyAt bst 3)) Ist [] ost n x Kr Kx := by
  rintro x Kr Kx ⟨k, p, r, ex, ⟨hk, hp⟩, hK⟩
  have key := untl_up (F := W P0 Tryd.f7.ntmps (LTab.look Lst) (bodyAt bst 3)) (l := Ist) (lr := []) (lx := ost) (Kr := Kr) (Kx := Kx) (st := fun i => (k, p, r, stD k p i, (i : Int), ())) 8 (fun i hi Kn hn => ?_) (fun Kn => ?_)
  · rw [ex]; exact key
  · rw [roundst, i64w (a := (i : Int) + 1) (n := i + 1) (by omega) (by omega), tk_st, stD_len]
    refine ifB_dec (fun _ => dmd_of (bleT hk) (dmd_of rfl (dmd_of (bleT hp) ?_))) (fun c => absurd (show (i : Int) < 8 by omega) c)
    rw [← writeM_app]
    exact hn
  · rw [roundst]
    exact ifB_dec (fun c => absurd c (by decide)) (fun _ => hK)
noncomputable def strPF : HA [.v (.sl u8S), .v (.sl u8S)] → RT := fun xs => .dem (Nat.ble (List.length xs.1) 140737488355328) (.dem (Nat.ble (List.length xs.2.1) 140737488355328) (.ret (.av (.val b32S (stD xs.1 xs.2.1 8)))))
theorem stretch_fw (k p : List (BitVec 8)) (hk : Nat.ble k.length 140737488355328 = true) (hp : Nat.ble p.length 140737488355328 = true) : FW P0 Tryd.f7.ntmps (LTab.look Lst) Tryd.f7 (argsOf [.sl u8S, .sl u8S] (k, p, ())) (fun r => r = .av (.val b32S (stD k p 8))) := by
  rw [fwStretch]
  exact dmd_of hk (dmd_of hp ⟨k, p, _, rfl, ⟨Nat.le_of_ble_eq_true hk, Nat.le_of_ble_eq_true hp⟩, rfl⟩)
set_option maxRecDepth 20000 in
theorem stretch_ok : COK Tryd.prog GL 7 (conA [.v (.sl u8S), .v (.sl u8S)] strPF) :=
  conA_ok (fun xs _ hc => PC_of_fw (t := Lst) shA_ok P0_ok mixed Tryd.func7 (c := bst) rfl (by kernel_rfl) (by kernel_rfl)
    (loopsOK (by kernel_rfl) (LTCons (loop_of shA_ok P0_ok mixed (loopsOK (by kernel_rfl) (LTCons (noLoop (by kernel_rfl)) LTNil)) (by kernel_rfl) loopst) LTNil)) rfl (stretch_fw xs.1 xs.2.1 hc.1 hc.2.1)) (fun _ => rfl)
noncomputable def clobF : HA [.v (.sl u8S)] → WT := fun xs => .dem (!Nat.beq (List.length xs.1) 0) (.dem (Nat.ble (List.length xs.1) 1000000) (.ret [] (some ⟨u8S, xs.1⟩)))
theorem fwClob (p : List (BitVec 8)) (K : List AV → OwnV → Prop) : FWO M2 Tryd.f6.ntmps (LTab.look []) 0 Tryd.f6 (argsOf [.sl u8S] (p, ())) K =
 (  dmd (!p.length.beq 0)
    (dmd (((0 + p.length) * 1).ble 140737488355328)
      ((0 = 0 ∧ 0 + p.length = ((List.replicate 0 0#8).append p).length) ∧
        K [] (some ⟨Sh.int IntKind.u8, (List.replicate 0 0#8).append p⟩)))) := by kernel_rfl
set_option maxRecDepth 20000 in
theorem clob_ok : COK Tryd.prog GL 6 (conV [.v (.sl u8S)] clobF) := conV_ok fun xs _ hc => by
  obtain ⟨p, ⟨⟩⟩ := xs
  obtain ⟨h1, h2, _⟩ := hc
  have h2 : List.length p ≤ 1000000 := Nat.le_of_ble_eq_true h2
  refine ⟨u8S, p, rfl, rfl, ?_⟩
  refine PCW_of_fw (np := 0) (l := []) (o := some ⟨u8S, p⟩) (t := []) shA_ok M2_ok mixed Tryd.func6 (c := Tryd.f6.body.getD .skip) rfl (by kernel_rfl) (by kernel_rfl) loopsNil (fun v hv => by cases hv) ((fwClob p _).mpr ?_)
  exact dmd_of h1 (dmd_of (bleT (by omega)) ⟨⟨rfl, Nat.zero_add _⟩, rfl, rfl⟩)
noncomputable def P1c : CTab := (7, conA [.v (.sl u8S), .v (.sl u8S)] strPF) :: (6, conV [.v (.sl u8S)] clobF) :: P0c
noncomputable abbrev P1 : Go.Ty.Cx := mkX Tryd.prog GL shA P1c
theorem P1_ok : ∀ p ∈ P1c, COK Tryd.prog GL p.1 p.2 := CCons stretch_ok (CCons clob_ok P0_ok)

/-! ## By no key, nine times -/
noncomputable def pinW (h1 h2 : List (BitVec 32)) : Nat → List (BitVec 32)
  | 0 => pressW h2 (bytesH (pressW h1 (padW 64#64)) ++ padW 96#64)
  | n + 1 => pressW h2 (bytesH (pressW h1 (bytesH (pinW h1 h2 n) ++ padW 96#64)) ++ padW 96#64)
theorem mac32 {d : List (BitVec 8)} (h : d.length = 32) : macW [] d = markN (pressW ivW b54) (pressW ivW b92) (d ++ padW 96#64) := by
  have ed : BitVec.ofNat 64 d.length = 32#64 := by rw [h]
  unfold macW sumM writeM
  rw [newM_nil]
  show sumW (writeW (pressW ivW b92, 64#64, b92, ()) (sumW (writeW (pressW ivW b54, 64#64, b54, ()) d))) = _
  rw [sum_block _ 64#64 b54 d rfl rfl (by rw [ed, List.length_append, h]; exact congrArg (32 + ·) pad96)]
  rw [sum_block _ 64#64 b92 _ rfl rfl (by rw [bytesH_len, List.length_append, bytesH_len]; exact congrArg (32 + ·) pad96), bytesH_len, ed]; rfl
theorem st_nil : ∀ n, stD [] [] n = bytesH (pinW (pressW ivW b54) (pressW ivW b92) n)
  | 0 => macW_nil
  | n + 1 => by
    show macW [] (stD [] [] n ++ []) = _
    rw [List.append_nil, mac32 (stD_len _ _ _), st_nil n]; rfl
def pinG (h1 h2 : List (BitVec 32)) : Nat → List (BitVec 32) → Bool
  | 0, x => decide ((rd u32S x 0).toNat = 0x56c03555)
  | n + 1, x => pressF h1 (bytesH x ++ padW 96#64) fun y => pressF h2 (bytesH y ++ padW 96#64) fun z => pinG h1 h2 n z
theorem pinG_eq (h1 h2 : List (BitVec 32)) : ∀ n m, pinG h1 h2 n (pinW h1 h2 m) = decide ((rd u32S (pinW h1 h2 (m + n)) 0).toNat = 0x56c03555)
  | 0, _ => rfl
  | n + 1, m => by
    unfold pinG
    rw [pressF_eq, pressF_eq]
    have e : m + (n + 1) = (m + 1) + n := by omega
    rw [e]
    exact pinG_eq h1 h2 n (m + 1)
theorem pins_ev : pressF ivW b54 (fun h1 => pressF ivW b92 fun h2 => pressF h1 (padW 64#64) fun y => pressF h2 (bytesH y ++ padW 96#64) fun z => pinG h1 h2 8 z) = true := by decide +kernel
theorem pins_ne : stD [] [] 8 ≠ List.replicate 32 0#8 := by
  intro h
  have k := pins_ev
  rw [pressF_eq, pressF_eq, pressF_eq, pressF_eq] at k
  have k := (pinG_eq (pressW ivW b54) (pressW ivW b92) 8 0).symm.trans k
  have k := of_decide_eq_true k
  rw [st_nil] at h
  have h1 : rd u8S (bytesH (pinW (pressW ivW b54) (pressW ivW b92) 8)) 0 = 0#8 := by rw [h]; rfl
  have h2 : BitVec.setWidth 8 (rd u32S (pinW (pressW ivW b54) (pressW ivW b92) (0 + 8)) 0 >>> 24) = 0#8 := h1
  rw [show rd u32S (pinW (pressW ivW b54) (pressW ivW b92) (0 + 8)) 0 = 0x56c03555#32 from BitVec.eq_of_toNat_eq k] at h2
  exact absurd h2 (by decide)
set_option maxRecDepth 100000 in
theorem fwPins (P : SV → Prop) : FW P1 Tryd.f4.ntmps (LTab.look []) Tryd.f4 (argsOf [] ()) P = (P (SV.av (AV.val Sh.bool (!teq b32S (stD [] [] 8) (List.replicate 32 0#8))))) := by kernel_rfl
set_option maxRecDepth 100000 in
theorem pins_pc : PC (bx Tryd.prog GL) 4 (argsOf [] ()) (.av (.val .bool true)) :=
  PC_of_fw (t := []) (ct := P1c) (st := shA) (c := Tryd.f4.body.getD .skip) shA_ok P1_ok mixed Tryd.func4 rfl (by kernel_rfl) (by kernel_rfl) loopsNil rfl ((fwPins _).mpr (by
    rw [teq_ne (s := b32S) pins_ne]; rfl))
theorem pins_ok : COK Tryd.prog GL 4 (conT [] fun _ => .av (.val .bool true)) := conT_ok (fun _ _ => pins_pc) (fun _ => rfl)
noncomputable def P2c : CTab := (4, conT [] fun _ => .av (.val .bool true)) :: P1c
noncomputable abbrev P2 : Go.Ty.Cx := mkX Tryd.prog GL shA P2c
theorem P2_ok : ∀ p ∈ P2c, COK Tryd.prog GL p.1 p.2 := CCons pins_ok P1_ok

/-! ## The law -/
abbrev Ips : List It := [.v 0 (.sl u8S), .v 1 (.sl u8S), .p 5 2000 b32S, .v 6 i64S]
abbrev ops_ : List (Nat × List It) := [(0, [.v 0 (.sl u8S), .v 1 (.sl u8S), .p 5 2000 b32S])]
noncomputable def Qps : LQ Ips [] ops_ := fun x _ Kx => ∃ k p : List (BitVec 8), x = (k, p, stD k p 0, (0 : Int), ()) ∧ (k.length ≤ 140737488351232 ∧ p.length ≤ 140737488351232) ∧ Kx.1 (k, p, stD k p 8, ())
noncomputable def bps : Code := Tryd.f3.body.getD .skip
noncomputable abbrev Lps : LTab := [(5, ptL Ips [] ops_ Qps)]
theorem roundps (k p : List (BitVec 8)) (d : List (BitVec 8)) (i : Int) (Kn : HI Ips → Prop) (Kr : HI [] → Prop) (Kx : HP ops_) : roundT (W P2 Tryd.f3.ntmps (LTab.look Lps) (bodyAt bps 5)) Ips [] ops_ (k, p, d, i, ()) Kn Kr Kx =
 (  ifB (decide (i < 8))
    (dmd (!(List.take 32 (List.drop 0 d)).length.beq 0)
      (dmd ((List.take 32 (List.drop 0 d)).length.ble 1000000)
        (dmd
          ((List.take 32 (List.drop 0 d)).length.beq (List.take 32 (List.drop 0 d)).length &&
            (((List.take 32 (List.drop 0 d)).length + p.length) * 1).ble 140737488355328)
          (dmd (k.length.ble 140737488355328)
            (dmd
              ((List.take ((List.take 32 (List.drop 0 d)).length + p.length)
                      (List.drop 0 ((List.take 32 (List.drop 0 d)).append p))).length.ble
                140737488355328)
              (Kn
                (k, p,
                  macW k
                    (List.take ((List.take 32 (List.drop 0 d)).length + p.length)
                      (List.drop 0 ((List.take 32 (List.drop 0 d)).append p))),
                  IntKind.i64.wrap (i + 1), PUnit.unit)))))))
    (Kx.1 (k, p, d, PUnit.unit))) := by kernel_rfl
theorem fwPinS (k : Sh.T (.sl u8S)) (p : Sh.T (.sl u8S)) (P : SV → Prop) : FW P2 Tryd.f3.ntmps (LTab.look Lps) Tryd.f3 (argsOf [.sl u8S, .sl u8S] (k, p, ())) P =
 (  dmd ((List.length k).ble 140737488355328)
    (dmd ((List.length p).ble 140737488355328)
      (Qps (k, p, macW k p, 0, PUnit.unit) (fun _ => False)
        (fun x =>
          dmd ((List.length x.1).ble 140737488355328)
            (dmd ((List.length x.2.1).ble 140737488355328)
              (P (SV.av (AV.val Sh.bool (teq (Sh.arr 32 (Sh.int IntKind.u8)) (stD x.1 x.2.1 8) x.2.2.1))))),
          PUnit.unit)))) := by kernel_rfl
set_option maxRecDepth 20000 in
theorem loopps : ∀ x Kr Kx, Qps x Kr Kx → ∃ n, untl (W P2 Tryd.f3.ntmps (LTab.look Lps) (bodyAt bps 5)) Ips [] ops_ n x Kr Kx := by
  rintro x Kr Kx ⟨k, p, ex, ⟨hk, hp⟩, hK⟩
  have key := untl_up (F := W P2 Tryd.f3.ntmps (LTab.look Lps) (bodyAt bps 5)) (l := Ips) (lr := []) (lx := ops_) (Kr := Kr) (Kx := Kx) (st := fun i => (k, p, stD k p i, (i : Int), ())) 8 (fun i hi Kn hn => ?_) (fun Kn => ?_)
  · rw [ex]; exact key
  · have ea : List.take ((stD k p i).length + p.length) (List.drop 0 ((stD k p i).append p)) = stD k p i ++ p := drop0_take (stD k p i ++ p) _ List.length_append.symm
    have el : (stD k p i ++ p).length = 32 + p.length := by rw [List.length_append, stD_len]
    rw [roundps, i64w (a := (i : Int) + 1) (n := i + 1) (by omega) (by omega), tk_st, ea, el, stD_len]
    exact ifB_dec (fun _ => dmd_of rfl (dmd_of (bleT (by omega)) (dmd_of (andT rfl (bleT (by omega))) (dmd_of (bleT (by omega)) (dmd_of (bleT (by omega)) hn))))) (fun c => absurd (show (i : Int) < 8 by omega) c)
  · rw [roundps]
    exact ifB_dec (fun c => absurd c (by decide)) (fun _ => hK)
theorem pinS_fw (k p : List (BitVec 8)) (h1 : k.length ≤ 140737488351232) (h2 : p.length ≤ 140737488351232) : FW P2 Tryd.f3.ntmps (LTab.look Lps) Tryd.f3 (argsOf [.sl u8S, .sl u8S] (k, p, ())) (fun r => r = .av (.val .bool true)) := by
  have hk : Nat.ble k.length 140737488355328 = true := bleT (by omega)
  have hp : Nat.ble p.length 140737488355328 = true := bleT (by omega)
  have he : teq b32S (stD k p 8) (stD k p 8) = true := teq_self
  rw [fwPinS]
  refine dmd_of hk (dmd_of hp ⟨k, p, rfl, ⟨h1, h2⟩, ?_⟩)
  show dmd (Nat.ble (List.length k) 140737488355328) (dmd (Nat.ble (List.length p) 140737488355328) (SV.av (AV.val Sh.bool (teq b32S (stD k p 8) (stD k p 8))) = SV.av (.val .bool true)))
  rw [he]
  exact dmd_of hk (dmd_of hp rfl)
theorem walkPinStretch (xs : HL [.sl u8S, .sl u8S]) (h : okHL [.sl u8S, .sl u8S] xs) : PC (bx Tryd.prog GL) 3 (argsOf [.sl u8S, .sl u8S] xs) (.av (.val .bool true)) := by
  have h1 : List.length xs.1 * 1 ≤ 140737488351232 := h.1.1
  have h2 : List.length xs.2.1 * 1 ≤ 140737488351232 := h.2.1.1
  exact PC_of_fw (t := Lps) shA_ok P2_ok mixed Tryd.func3 (c := bps) rfl (by kernel_rfl) (by kernel_rfl) (loopsOK (by kernel_rfl) (LTCons (loop_of shA_ok P2_ok mixed (loopsOK (by kernel_rfl) (LTCons (noLoop (by kernel_rfl)) LTNil)) (by kernel_rfl) loopps) LTNil)) rfl (pinS_fw xs.1 xs.2.1 (by omega) (by omega))
end Go.Proofs.YtkookenoedbadaaDoor
