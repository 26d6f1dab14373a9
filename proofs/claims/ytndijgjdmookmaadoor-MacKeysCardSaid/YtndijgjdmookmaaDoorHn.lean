import Derived.Test.YtndijgjdmookmaaDoorHm
namespace Go.Proofs.YtndijgjdmookmaaDoor
open Go.Ty

/-! ## Whole blocks -/
theorem part_block (s : HS) (b : List (BitVec 8)) (h0 : s.2.1 % 64#64 = 0#64) (hl : List.length s.2.2.1 = 64) (hb : b.length = 64) : ∀ i, i ≤ 63 → writeW s (b.take i) = (s.1, s.2.1 + BitVec.ofNat 64 i, b.take i ++ List.drop i s.2.2.1, ())
  | 0, _ => by
    show s = _
    rw [show s.2.1 + BitVec.ofNat 64 0 = s.2.1 from BitVec.add_zero _]; rfl
  | i + 1, hi => by
    have ih := part_block s b h0 hl hb i (by omega)
    rw [take_next (by omega), writeW_app, ih]
    show stepH _ _ = _
    have hm : ∀ k : Nat, k < 2 ^ 32 → ((s.2.1 + BitVec.ofNat 64 k) % 64#64).toNat = k % 64 := fun k _ => by
      have h := congrArg BitVec.toNat h0
      rw [BitVec.toNat_umod] at h
      have h : s.2.1.toNat % 64 = 0 := h
      rw [BitVec.toNat_umod, BitVec.toNat_add, BitVec.toNat_ofNat]
      show (s.2.1.toNat + k % 2 ^ 64) % 2 ^ 64 % 64 = _
      omega
    have h1 := hm i (by omega)
    have h2 := hm (i + 1) (by omega)
    have e1 : s.2.1 + BitVec.ofNat 64 i + 1#64 = s.2.1 + BitVec.ofNat 64 (i + 1) := by rw [BitVec.ofNat_add, BitVec.add_assoc]
    unfold stepH
    show (bif decide ((s.2.1 + BitVec.ofNat 64 i + 1#64) % 64#64 = 0#64) then _ else _) = _
    rw [e1, decFa (fun c => by rw [c] at h2; have h2 : 0 = (i + 1) % 64 := h2; omega), cond_false]
    show (s.1, s.2.1 + BitVec.ofNat 64 (i + 1), List.set (b.take i ++ List.drop i s.2.2.1) ((s.2.1 + BitVec.ofNat 64 i) % 64#64).toNat (rd u8S b i), ()) = _
    have hti : (b.take i).length = i := by rw [List.length_take]; omega
    rw [h1, Nat.mod_eq_of_lt (by omega), List.set_append_right _ _ (by omega), hti, Nat.sub_self, List.drop_eq_getElem_cons (by omega), List.set_cons_zero, List.append_assoc]; rfl
theorem write_block (s : HS) (b : List (BitVec 8)) (h0 : s.2.1 % 64#64 = 0#64) (hl : List.length s.2.2.1 = 64) (hb : b.length = 64) : writeW s b = (pressW s.1 b, s.2.1 + 64#64, b, ()) := by
  have hp := part_block s b h0 hl hb 63 (by omega)
  have e : b = b.take 63 ++ [rd u8S b 63] := by rw [← take_next (by omega), List.take_of_length_le (by omega)]
  have h := congrArg BitVec.toNat h0
  rw [BitVec.toNat_umod] at h
  have h : s.2.1.toNat % 64 = 0 := h
  have e1 : s.2.1 + BitVec.ofNat 64 63 + 1#64 = s.2.1 + 64#64 := by rw [BitVec.add_assoc]; rfl
  have hz : (s.2.1 + 64#64) % 64#64 = 0#64 := by
    apply BitVec.eq_of_toNat_eq
    rw [BitVec.toNat_umod, BitVec.toNat_add]
    show (s.2.1.toNat + 64) % 2 ^ 64 % 64 = 0
    omega
  have h1 : ((s.2.1 + BitVec.ofNat 64 63) % 64#64).toNat = 63 := by
    rw [BitVec.toNat_umod, BitVec.toNat_add]
    show (s.2.1.toNat + 63) % 2 ^ 64 % 64 = 63
    omega
  have hti : (b.take 63).length = 63 := by rw [List.length_take]; omega
  have e2 : List.set (b.take 63 ++ List.drop 63 s.2.2.1) 63 (rd u8S b 63) = b := by
    rw [List.set_append_right _ _ (by omega), hti, Nat.sub_self, List.drop_eq_getElem_cons (by omega), List.drop_of_length_le (by omega), List.set_cons_zero]
    exact e.symm
  have e3 : writeW s b = stepH (writeW s (b.take 63)) (rd u8S b 63) := by
    conv => lhs; rw [e]
    rw [writeW_app]; rfl
  rw [e3, hp]
  unfold stepH
  show (bif decide ((s.2.1 + BitVec.ofNat 64 63 + 1#64) % 64#64 = 0#64) then _ else _) = _
  rw [e1, hz, decTr rfl, cond_true]
  show (pressW s.1 (List.set (b.take 63 ++ List.drop 63 s.2.2.1) ((s.2.1 + BitVec.ofNat 64 63) % 64#64).toNat (rd u8S b 63)), s.2.1 + 64#64, List.set (b.take 63 ++ List.drop 63 s.2.2.1) ((s.2.1 + BitVec.ofNat 64 63) % 64#64).toNat (rd u8S b 63), ()) = _
  rw [h1, e2]
/-- behind a whole block: what is left, in one block more -/
theorem sum_block (h : List (BitVec 32)) (n : BitVec 64) (l d : List (BitVec 8)) (h0 : n % 64#64 = 0#64) (hl : List.length l = 64) (hd : (d ++ padW (n + BitVec.ofNat 64 d.length)).length = 64) : sumW (writeW ((h, n, l, ()) : HS) d) = bytesH (pressW h (d ++ padW (n + BitVec.ofNat 64 d.length))) := by
  unfold sumW
  have e : (writeW ((h, n, l, ()) : HS) d).2.1 = n + BitVec.ofNat 64 d.length := write_n d _
  rw [e, ← writeW_app, write_block ((h, n, l, ()) : HS) _ h0 hl hd]
def b54 : List (BitVec 8) := List.replicate 64 54#8
def b92 : List (BitVec 8) := List.replicate 64 92#8
theorem newM_nil : newM [] = ((pressW ivW b54, 64#64, b54, ()), (pressW ivW b92, 64#64, b92, ()), ()) := by
  have e : keyK [] = [] := rfl
  unfold newM
  rw [e]
  have e1 : xorB 54#8 (blkM []) = b54 := by decide +kernel
  have e2 : xorB 92#8 (blkM []) = b92 := by decide +kernel
  rw [e1, e2, write_block newD b54 rfl rfl rfl, write_block newD b92 rfl rfl rfl]; rfl
/-- a mark by no key, of 32 bytes -/
noncomputable def markN (h1 h2 : List (BitVec 32)) (d : List (BitVec 8)) : List (BitVec 8) := bytesH (pressW h2 (bytesH (pressW h1 d) ++ padW 96#64))
theorem pad96 : (padW 96#64).length = 32 := by decide +kernel
theorem macW_nil : macW [] [] = markN (pressW ivW b54) (pressW ivW b92) (padW 64#64) := by
  unfold macW sumM writeM
  rw [newM_nil]
  show sumW (writeW (pressW ivW b92, 64#64, b92, ()) (sumW (writeW (pressW ivW b54, 64#64, b54, ()) []))) = _
  rw [sum_block _ 64#64 b54 [] rfl rfl (by decide +kernel)]
  rw [sum_block _ 64#64 b92 _ rfl rfl (by rw [bytesH_len, List.length_append, bytesH_len]; exact congrArg (32 + ·) pad96), bytesH_len]; rfl
theorem macs_ne : macW [] [] ≠ List.replicate 32 0#8 := by
  intro h
  rw [macW_nil] at h
  have k : pressF ivW b54 (fun h1 => pressF ivW b92 fun h2 => pressF h1 (padW 64#64) fun h3 => pressF h2 (bytesH h3 ++ padW 96#64) fun h4 => decide ((rd u32S h4 0).toNat = 0xb613679a)) = true := by decide +kernel
  rw [pressF_eq, pressF_eq, pressF_eq, pressF_eq] at k
  have k := of_decide_eq_true k
  unfold markN at h
  have h1 : rd u8S (bytesH (pressW (pressW ivW b92) (bytesH (pressW (pressW ivW b54) (padW 64#64)) ++ padW 96#64))) 0 = 0#8 := by rw [h]; rfl
  have h2 : BitVec.setWidth 8 (rd u32S (pressW (pressW ivW b92) (bytesH (pressW (pressW ivW b54) (padW 64#64)) ++ padW 96#64)) 0 >>> 24) = 0#8 := h1
  rw [show rd u32S (pressW (pressW ivW b92) (bytesH (pressW (pressW ivW b54) (padW 64#64)) ++ padW 96#64)) 0 = 0xb613679a#32 from BitVec.eq_of_toNat_eq k] at h2
  exact absurd h2 (by decide)
theorem fwMac (k : Sh.T (.sl u8S)) (p : Sh.T (.sl u8S)) (P : SV → Prop) : FW M1 Tryd.f32.ntmps (LTab.look []) Tryd.f32 (argsOf [.sl u8S, .sl u8S] (k, p, ())) P =
 (  dmd ((List.length k).ble 140737488355328)
    (dmd ((List.length p).ble 140737488355328)
      (P (SV.av (AV.val (Sh.arr 32 (Sh.int IntKind.u8)) (sumM (writeM (newM k) p))))))) := by kernel_rfl
noncomputable def macF : HA [.v (.sl u8S), .v (.sl u8S)] → RT := fun xs => .dem (Nat.ble (List.length xs.1) 140737488355328) (.dem (Nat.ble (List.length xs.2.1) 140737488355328) (.ret (.av (.val b32S (macW xs.1 xs.2.1)))))
theorem mac_ok : COK Tryd.prog GL 32 (conA [.v (.sl u8S), .v (.sl u8S)] macF) :=
  conA_ok (fun xs _ hc => PC_of_fw (t := []) shA_ok M1_ok mixed Tryd.func32 (c := Tryd.f32.body.getD .skip) rfl (by kernel_rfl) (by kernel_rfl) loopsNil rfl ((fwMac xs.1 xs.2.1 _).mpr (dmd_of hc.1 (dmd_of hc.2.1 rfl)))) (fun _ => rfl)
noncomputable def M2c : CTab := (32, conA [.v (.sl u8S), .v (.sl u8S)] macF) :: M1c
noncomputable abbrev M2 : Go.Ty.Cx := mkX Tryd.prog GL shA M2c
theorem M2_ok : ∀ p ∈ M2c, COK Tryd.prog GL p.1 p.2 := CCons mac_ok M1_ok
set_option maxRecDepth 20000 in
theorem fwMacs (P : SV → Prop) : FW M2 Tryd.f30.ntmps (LTab.look []) Tryd.f30 (argsOf [] (())) P = P (.av (.val .bool (!teq b32S (macW [] []) (List.replicate 32 0#8)))) := by kernel_rfl
theorem macs_fw : FW M2 Tryd.f30.ntmps (LTab.look []) Tryd.f30 (argsOf [] (())) (fun r => r = .av (.val .bool true)) := by
  rw [fwMacs, teq_ne (s := b32S) macs_ne]; rfl
set_option maxRecDepth 20000 in
theorem macs_pc : PC (bx Tryd.prog GL) 30 (argsOf [] ()) (.av (.val .bool true)) :=
  PC_of_fw (t := []) (ct := M2c) (st := shA) (c := Tryd.f30.body.getD .skip) shA_ok M2_ok mixed Tryd.func30 rfl (by kernel_rfl) (by kernel_rfl) loopsNil rfl macs_fw
theorem macs_ok : COK Tryd.prog GL 30 (conT [] fun _ => .av (.val .bool true)) := conT_ok (fun _ _ => macs_pc) (fun _ => rfl)
end Go.Proofs.YtndijgjdmookmaaDoor
