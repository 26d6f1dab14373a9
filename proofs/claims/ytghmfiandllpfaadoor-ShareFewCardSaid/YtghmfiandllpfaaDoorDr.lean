import Derived.Test.YtghmfiandllpfaaDoorHm
import Derived.Test.YtghmfiandllpfaaDoorTyD
namespace Go.Proofs.YtghmfiandllpfaaDoor
open Go.Ty

/-! ## Sources of bytes -/
theorem newS_ok : COK Tryd.prog GL 77 (conS [.v (.sl u8S)] newMF) :=
  conS_ok (fun xs _ hc => PC_of_fw (t := LmN) shA_ok H6_ok mixed Tryd.func77 (c := bmN) rfl (by kernel_rfl) (by kernel_rfl)
    (loopsOK (by kernel_rfl) (LTCons (loop_of shA_ok H6_ok mixed (loopsOK (by kernel_rfl) (LTCons (noLoop (by kernel_rfl)) LTNil)) (by kernel_rfl) loopmN) LTNil)) rfl (newM_fw xs.1 (Nat.le_of_ble_eq_true hc.1))) (fun _ => rfl)
theorem writeS_ok : COK Tryd.prog GL 78 (conS [.v macS, .v (.sl u8S)] writeMF) :=
  conS_ok (fun xs _ hc => PC_of_fw (t := []) shA_ok H6_ok mixed Tryd.func78 (c := Tryd.f78.body.getD .skip) rfl (by kernel_rfl) (by kernel_rfl) loopsNil rfl ((fwMWrite xs.1 xs.2.1 _).mpr (dmd_of hc.1 rfl))) (fun _ => rfl)
theorem sumS_ok : COK Tryd.prog GL 79 (conS [.v macS] fun xs => .ret (.av (.val b32S (sumM xs.1)))) :=
  conS_ok (fun xs _ _ => PC_of_fw (t := []) shA_ok H6_ok mixed Tryd.func79 (c := Tryd.f79.body.getD .skip) rfl (by kernel_rfl) (by kernel_rfl) loopsNil rfl ((fwMSum xs.1 _).mpr (by
    have e := take_all (l := sumW xs.1.1) (n := 32) (sumW_len _).symm
    rw [e, sumW_len]
    exact dmd_of rfl rfl))) (fun _ => rfl)
abbrev srcS : Sh := .pair macS (.pair u64S (.pair b32S (.pair .bool .unit)))
abbrev Src : Type := srcS.T
noncomputable def R0c : CTab := (77, conS [.v (.sl u8S)] newMF) :: (78, conS [.v macS, .v (.sl u8S)] writeMF) :: (79, conS [.v macS] fun xs => .ret (.av (.val b32S (sumM xs.1)))) :: []
noncomputable abbrev R0 : Go.Ty.Cx := mkX Tryd.prog GL shA R0c
theorem R0_ok : ∀ p ∈ R0c, COK Tryd.prog GL p.1 p.2 := CCons newS_ok (CCons writeS_ok (CCons sumS_ok CNil))
theorem fwAt (k : List (BitVec 8)) (n : BitVec 64) (K : (s : Sh) → s.T → Prop) : FWN R0 Tryd.f53.ntmps (LTab.look []) Tryd.f53 (argsOf [.sl u8S, u64S] (k, n, ())) K =
 (  dmd (k.length.ble 140737488355328)
    (K
      ((((Sh.arr 8 (Sh.int IntKind.u32)).pair
                ((Sh.int IntKind.u64).pair ((Sh.arr 64 (Sh.int IntKind.u8)).pair Sh.unit))).pair
            (((Sh.arr 8 (Sh.int IntKind.u32)).pair
                  ((Sh.int IntKind.u64).pair ((Sh.arr 64 (Sh.int IntKind.u8)).pair Sh.unit))).pair
              Sh.unit)).pair
        ((Sh.int IntKind.u64).pair ((Sh.arr 32 (Sh.int IntKind.u8)).pair (Sh.bool.pair Sh.unit))))
      (newM k, n,
        [0#8, 0#8, 0#8, 0#8, 0#8, 0#8, 0#8, 0#8, 0#8, 0#8, 0#8, 0#8, 0#8, 0#8, 0#8, 0#8, 0#8, 0#8, 0#8, 0#8, 0#8, 0#8,
          0#8, 0#8, 0#8, 0#8, 0#8, 0#8, 0#8, 0#8, 0#8, 0#8],
        false, PUnit.unit))) := by kernel_rfl
theorem fwPlace (x : Sh.T srcS) (K : SV → Slot → Prop) : FWM R0 Tryd.f29.ntmps (LTab.look []) Tryd.f29 srcS x [] K =
 (  K (SV.av (AV.val (Sh.int IntKind.u64) x.2.1))
    (Slot.live
      {
        c :=
          Cont.one
            ((((Sh.arr 8 (Sh.int IntKind.u32)).pair
                      ((Sh.int IntKind.u64).pair ((Sh.arr 64 (Sh.int IntKind.u8)).pair Sh.unit))).pair
                  (((Sh.arr 8 (Sh.int IntKind.u32)).pair
                        ((Sh.int IntKind.u64).pair ((Sh.arr 64 (Sh.int IntKind.u8)).pair Sh.unit))).pair
                    Sh.unit)).pair
              ((Sh.int IntKind.u64).pair ((Sh.arr 32 (Sh.int IntKind.u8)).pair (Sh.bool.pair Sh.unit))))
            (AV.val
              ((((Sh.arr 8 (Sh.int IntKind.u32)).pair
                        ((Sh.int IntKind.u64).pair ((Sh.arr 64 (Sh.int IntKind.u8)).pair Sh.unit))).pair
                    (((Sh.arr 8 (Sh.int IntKind.u32)).pair
                          ((Sh.int IntKind.u64).pair ((Sh.arr 64 (Sh.int IntKind.u8)).pair Sh.unit))).pair
                      Sh.unit)).pair
                ((Sh.int IntKind.u64).pair ((Sh.arr 32 (Sh.int IntKind.u8)).pair (Sh.bool.pair Sh.unit))))
              x),
        own := true })) := by kernel_rfl
def ctr8 (q : BitVec 64) : List (BitVec 8) := [BitVec.setWidth 8 (q >>> 56), BitVec.setWidth 8 (q >>> 48), BitVec.setWidth 8 (q >>> 40), BitVec.setWidth 8 (q >>> 32), BitVec.setWidth 8 (q >>> 24), BitVec.setWidth 8 (q >>> 16), BitVec.setWidth 8 (q >>> 8), BitVec.setWidth 8 (q >>> 0)]
noncomputable def blkN (m : MS) (n : BitVec 64) : List (BitVec 8) := sumM (writeM m (ctr8 (n / 32#64)))
noncomputable def curB (x : Src) : List (BitVec 8) := bif decide (x.2.1 % 32#64 = 0#64) then blkN x.1 x.2.1 else bif !x.2.2.2.1 then blkN x.1 x.2.1 else x.2.2.1
noncomputable def nextG (x : Src) : Src := (x.1, x.2.1 + 1#64, curB x, true, ())
noncomputable def nextB (x : Src) : BitVec 8 := rd u8S (curB x) (x.2.1 % 32#64).toNat
theorem mod32 (n : BitVec 64) : Nat.blt (n % 32#64).toNat 32 = true := by
  refine bleT ?_
  rw [BitVec.toNat_umod]
  exact Nat.mod_lt _ (by decide)
theorem fwNext (x : Src) (K : SV → Slot → Prop) : FWM R0 Tryd.f55.ntmps (LTab.look []) Tryd.f55 srcS x [] K =
  ifB (decide (x.2.1 % 32#64 = 0#64)) (dmd (Nat.blt (x.2.1 % 32#64).toNat 32) (K (.av (.val u8S (rd u8S (blkN x.1 x.2.1) (x.2.1 % 32#64).toNat))) (.live ⟨.one srcS (.val srcS (x.1, x.2.1 + 1#64, blkN x.1 x.2.1, true, x.2.2.2.2)), true⟩)))
    (ifB (!x.2.2.2.1) (dmd (Nat.blt (x.2.1 % 32#64).toNat 32) (K (.av (.val u8S (rd u8S (blkN x.1 x.2.1) (x.2.1 % 32#64).toNat))) (.live ⟨.one srcS (.val srcS (x.1, x.2.1 + 1#64, blkN x.1 x.2.1, true, x.2.2.2.2)), true⟩)))
      (dmd (Nat.blt (x.2.1 % 32#64).toNat 32) (K (.av (.val u8S (rd u8S x.2.2.1 (x.2.1 % 32#64).toNat))) (.live ⟨.one srcS (.val srcS (x.1, x.2.1 + 1#64, x.2.2.1, x.2.2.2.1, x.2.2.2.2)), true⟩)))) := by kernel_rfl
theorem cond_pos {α : Type} {b : Bool} {p q : α} (h : b = true) : (bif b then p else q) = p := by rw [h]; rfl
theorem cond_neg {α : Type} {b : Bool} {p q : α} (h : b = false) : (bif b then p else q) = q := by rw [h]; rfl
theorem next_law (x : Src) (K : SV → Slot → Prop) (h : K (.av (.val u8S (nextB x))) (.live ⟨.one srcS (.val srcS (nextG x)), true⟩)) : FWM R0 Tryd.f55.ntmps (LTab.look []) Tryd.f55 srcS x [] K := by
  rw [fwNext]
  have hm := mod32 x.2.1
  have go : ∀ b, curB x = b → K (.av (.val u8S (rd u8S b (x.2.1 % 32#64).toNat))) (.live ⟨.one srcS (.val srcS (x.1, x.2.1 + 1#64, b, true, x.2.2.2.2)), true⟩) := fun b e => by
    have h1 : nextB x = rd u8S b (x.2.1 % 32#64).toNat := by unfold nextB; rw [e]
    have h2 : nextG x = (x.1, x.2.1 + 1#64, b, true, x.2.2.2.2) := by unfold nextG; rw [e]
    rw [h1, h2] at h
    exact h
  by_cases d : x.2.1 % 32#64 = 0#64
  · have e : curB x = blkN x.1 x.2.1 := by unfold curB; exact cond_pos (decTr d)
    exact ifB_dec (fun _ => dmd_of hm (go _ e)) (fun c => absurd d c)
  · refine ifB_dec (fun c => absurd c d) (fun _ => ?_)
    cases f : x.2.2.2.1 with
    | false =>
      have e : curB x = blkN x.1 x.2.1 := by unfold curB; rw [f]; exact cond_neg (decFa d)
      exact dmd_of hm (go _ e)
    | true =>
      have e : curB x = x.2.2.1 := by unfold curB; rw [f]; exact cond_neg (decFa d)
      exact dmd_of hm (go _ e)
set_option maxRecDepth 20000 in
theorem next_ok : COK Tryd.prog GL 55 (conM srcS [] (fun x _ => nextG x) fun x _ => .ret (.av (.val u8S (nextB x)))) :=
  conM_ok rfl (fun x _ _ _ _ => FWM_pcm (LS := LTab.look []) (xok shA_ok) (consok R0_ok) mixed Tryd.func55 (c := Tryd.f55.body.getD .skip) rfl (by kernel_rfl) (by kernel_rfl) loopsNil (next_law x _ ⟨rfl, rfl⟩) rfl) (fun _ _ => rfl)
set_option maxRecDepth 20000 in
theorem place_ok : COK Tryd.prog GL 29 (conM srcS [] (fun x _ => x) fun x _ => .ret (.av (.val u64S x.2.1))) :=
  conM_ok rfl (fun x _ _ _ _ => FWM_pcm (LS := LTab.look []) (xok shA_ok) (consok R0_ok) mixed Tryd.func29 (c := Tryd.f29.body.getD .skip) rfl (by kernel_rfl) (by kernel_rfl) loopsNil ((fwPlace x _).mpr ⟨rfl, rfl⟩) rfl) (fun _ _ => rfl)
noncomputable def srcN (k : List (BitVec 8)) (n : BitVec 64) : Src := (newM k, n, List.replicate 32 0#8, false, ())
set_option maxRecDepth 20000 in
theorem at_ok : COK Tryd.prog GL 53 (conNew [.v (.sl u8S), .v u64S] srcS (fun xs => Nat.ble (List.length xs.1) 140737488355328) fun xs => srcN xs.1 xs.2.1) :=
  conNew_ok rfl (fun xs _ hd => FWN_pcn (LS := LTab.look []) (xok shA_ok) (consok R0_ok) mixed Tryd.func53 (c := Tryd.f53.body.getD .skip) rfl (by kernel_rfl) (by kernel_rfl) loopsNil ((fwAt xs.1 xs.2.1 _).mpr (dmd_of hd rfl)))
noncomputable def R1c : CTab := (55, conM srcS [] (fun x _ => nextG x) fun x _ => .ret (.av (.val u8S (nextB x)))) :: (29, conM srcS [] (fun x _ => x) fun x _ => .ret (.av (.val u64S x.2.1))) :: (53, conNew [.v (.sl u8S), .v u64S] srcS (fun xs => Nat.ble (List.length xs.1) 140737488355328) fun xs => srcN xs.1 xs.2.1) :: []
noncomputable abbrev R1 : Go.Ty.Cx := mkX Tryd.prog GL shA R1c
theorem R1_ok : ∀ p ∈ R1c, COK Tryd.prog GL p.1 p.2 := CCons next_ok (CCons place_ok (CCons at_ok CNil))
end Go.Proofs.YtghmfiandllpfaaDoor
