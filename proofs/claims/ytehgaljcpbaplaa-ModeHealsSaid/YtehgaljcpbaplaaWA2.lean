import Derived.Test.YtehgaljcpbaplaaWA1
namespace Go.Proofs.Ytehgaljcpbaplaa
open Go.Ty

theorem sub_all : ∀ x : BitVec 8, 99#8 ^^^ x ^^^ rotB x 1 ^^^ rotB x 2 ^^^ rotB x 3 ^^^ rotB x 4 = BitVec.ofNat 8 (99 ^^^ x.toNat ^^^ Go.Gfn.rotN x.toNat 1 ^^^ Go.Gfn.rotN x.toNat 2 ^^^ Go.Gfn.rotN x.toNat 3 ^^^ Go.Gfn.rotN x.toNat 4) := by decide +kernel
theorem unsub_all : ∀ a : BitVec 8, (rotB (a ^^^ 99#8) 1 ^^^ rotB (a ^^^ 99#8) 3 ^^^ rotB (a ^^^ 99#8) 6).toNat = Go.Gfn.rotN (a.toNat ^^^ 99) 1 ^^^ Go.Gfn.rotN (a.toNat ^^^ 99) 3 ^^^ Go.Gfn.rotN (a.toNat ^^^ 99) 6 := by decide +kernel
theorem ginv_nat (a : BitVec 8) : (Go.Gfn.ginv a).toNat = Go.Gfn.inv8 a.toNat := by
  unfold Go.Gfn.ginv
  rw [BitVec.toNat_ofNat]
  refine Nat.mod_eq_of_lt ?_
  rw [← Go.Gfn.invN_eq a.isLt]
  exact Go.Gfn.invN_lt a.isLt
noncomputable def subF : HL [u8S] → SV := fun xs => .av (.val u8S (Go.Gfn.gsub xs.1))
noncomputable def unsubF : HL [u8S] → SV := fun xs => .av (.val u8S (Go.Gfn.gunsub xs.1))
theorem fwSub (a : Sh.T (u8S)) (P : SV → Prop) : FW A3 Try.f35.ntmps (LTab.look []) Try.f35 (argsOf [u8S] (a, ())) P =
 (  P
    (SV.av
      (AV.val (Sh.int IntKind.u8)
        (99#8 ^^^ Go.Gfn.ginv a ^^^ rotB (Go.Gfn.ginv a) 1 ^^^ rotB (Go.Gfn.ginv a) 2 ^^^ rotB (Go.Gfn.ginv a) 3 ^^^
          rotB (Go.Gfn.ginv a) 4)))) := by kernel_rfl
theorem sub_ok : COK Try.prog GL 35 (conT [u8S] subF) := by
  refine conT_ok (fun xs hw => ?_) (fun xs => rfl)
  obtain ⟨a, ⟨⟩⟩ := xs
  refine PC_of_fw (t := []) shA_ok a3_ok mixed Try.func35 (c := Try.f35.body.getD .skip) rfl (by kernel_rfl) (by kernel_rfl) loopsNil rfl ?_
  have e : 99#8 ^^^ Go.Gfn.ginv a ^^^ rotB (Go.Gfn.ginv a) 1 ^^^ rotB (Go.Gfn.ginv a) 2 ^^^ rotB (Go.Gfn.ginv a) 3 ^^^ rotB (Go.Gfn.ginv a) 4 = Go.Gfn.gsub a := by
    rw [sub_all, ginv_nat]; rfl
  rw [show (PUnit.unit : HL []) = () from rfl, fwSub, e]; rfl
theorem fwUnsub (a : Sh.T (u8S)) (P : SV → Prop) : FW A3 Try.f37.ntmps (LTab.look []) Try.f37 (argsOf [u8S] (a, ())) P =
 (  P (SV.av (AV.val (Sh.int IntKind.u8) (Go.Gfn.ginv (rotB (a ^^^ 99#8) 1 ^^^ rotB (a ^^^ 99#8) 3 ^^^ rotB (a ^^^ 99#8) 6))))) := by kernel_rfl
theorem unsub_ok : COK Try.prog GL 37 (conT [u8S] unsubF) := by
  refine conT_ok (fun xs hw => ?_) (fun xs => rfl)
  obtain ⟨a, ⟨⟩⟩ := xs
  refine PC_of_fw (t := []) shA_ok a3_ok mixed Try.func37 (c := Try.f37.body.getD .skip) rfl (by kernel_rfl) (by kernel_rfl) loopsNil rfl ?_
  have e : Go.Gfn.ginv (rotB (a ^^^ 99#8) 1 ^^^ rotB (a ^^^ 99#8) 3 ^^^ rotB (a ^^^ 99#8) 6) = Go.Gfn.gunsub a := by
    unfold Go.Gfn.ginv
    rw [unsub_all]; rfl
  rw [show (PUnit.unit : HL []) = () from rfl, fwUnsub, e]; rfl
/-! ## Columns -/
theorem of4b {l : List (BitVec 8)} (h : l.length = 4) : ∃ a b c d, l = [a, b, c, d] := by
  match l, h with
  | [a, b, c, d], _ => exact ⟨a, b, c, d, rfl⟩
noncomputable def colF : HL [a4S, a4S] → SV := fun xs => .av (.val a4S [Go.Gfn.dot (rd u8S xs.2.1 0) (rd u8S xs.2.1 1) (rd u8S xs.2.1 2) (rd u8S xs.2.1 3) (rd u8S xs.1 0) (rd u8S xs.1 1) (rd u8S xs.1 2) (rd u8S xs.1 3), Go.Gfn.dot (rd u8S xs.2.1 0) (rd u8S xs.2.1 1) (rd u8S xs.2.1 2) (rd u8S xs.2.1 3) (rd u8S xs.1 1) (rd u8S xs.1 2) (rd u8S xs.1 3) (rd u8S xs.1 0), Go.Gfn.dot (rd u8S xs.2.1 0) (rd u8S xs.2.1 1) (rd u8S xs.2.1 2) (rd u8S xs.2.1 3) (rd u8S xs.1 2) (rd u8S xs.1 3) (rd u8S xs.1 0) (rd u8S xs.1 1), Go.Gfn.dot (rd u8S xs.2.1 0) (rd u8S xs.2.1 1) (rd u8S xs.2.1 2) (rd u8S xs.2.1 3) (rd u8S xs.1 3) (rd u8S xs.1 0) (rd u8S xs.1 1) (rd u8S xs.1 2)])
noncomputable def mixF : HL [a4S] → SV := fun xs => .av (.val a4S [Go.Gfn.dot 2 3 1 1 (rd u8S xs.1 0) (rd u8S xs.1 1) (rd u8S xs.1 2) (rd u8S xs.1 3), Go.Gfn.dot 2 3 1 1 (rd u8S xs.1 1) (rd u8S xs.1 2) (rd u8S xs.1 3) (rd u8S xs.1 0), Go.Gfn.dot 2 3 1 1 (rd u8S xs.1 2) (rd u8S xs.1 3) (rd u8S xs.1 0) (rd u8S xs.1 1), Go.Gfn.dot 2 3 1 1 (rd u8S xs.1 3) (rd u8S xs.1 0) (rd u8S xs.1 1) (rd u8S xs.1 2)])
noncomputable def unmixF : HL [a4S] → SV := fun xs => .av (.val a4S [Go.Gfn.dot 14 11 13 9 (rd u8S xs.1 0) (rd u8S xs.1 1) (rd u8S xs.1 2) (rd u8S xs.1 3), Go.Gfn.dot 14 11 13 9 (rd u8S xs.1 1) (rd u8S xs.1 2) (rd u8S xs.1 3) (rd u8S xs.1 0), Go.Gfn.dot 14 11 13 9 (rd u8S xs.1 2) (rd u8S xs.1 3) (rd u8S xs.1 0) (rd u8S xs.1 1), Go.Gfn.dot 14 11 13 9 (rd u8S xs.1 3) (rd u8S xs.1 0) (rd u8S xs.1 1) (rd u8S xs.1 2)])
theorem fwCol (c0 c1 c2 c3 x0 x1 x2 x3 : BitVec 8) (P : SV → Prop) : FW A3 Try.f31.ntmps (LTab.look []) Try.f31 (argsOf [a4S, a4S] ([c0, c1, c2, c3], [x0, x1, x2, x3], ())) P =
 (  P
    (SV.av
      (AV.val (Sh.arr 4 (Sh.int IntKind.u8))
        [0#8 ^^^ Go.Gfn.gm x0 c0 ^^^ Go.Gfn.gm x1 c1 ^^^ Go.Gfn.gm x2 c2 ^^^ Go.Gfn.gm x3 c3,
          0#8 ^^^ Go.Gfn.gm x0 c1 ^^^ Go.Gfn.gm x1 c2 ^^^ Go.Gfn.gm x2 c3 ^^^ Go.Gfn.gm x3 c0,
          0#8 ^^^ Go.Gfn.gm x0 c2 ^^^ Go.Gfn.gm x1 c3 ^^^ Go.Gfn.gm x2 c0 ^^^ Go.Gfn.gm x3 c1,
          0#8 ^^^ Go.Gfn.gm x0 c3 ^^^ Go.Gfn.gm x1 c0 ^^^ Go.Gfn.gm x2 c1 ^^^ Go.Gfn.gm x3 c2]))) := by kernel_rfl
theorem col_ok : COK Try.prog GL 31 (conT [a4S, a4S] colF) := by
  refine conT_ok (fun xs hw => ?_) (fun xs => rfl)
  obtain ⟨c, x, ⟨⟩⟩ := xs
  obtain ⟨c0, c1, c2, c3, hc⟩ := of4b hw.1.1
  obtain ⟨x0, x1, x2, x3, hx⟩ := of4b hw.2.1.1
  have hc : c = [c0, c1, c2, c3] := hc
  have hx : x = [x0, x1, x2, x3] := hx
  subst hc hx
  refine PC_of_fw (t := []) shA_ok a3_ok mixed Try.func31 (c := Try.f31.body.getD .skip) rfl (by kernel_rfl) (by kernel_rfl) loopsNil rfl ?_
  rw [show (PUnit.unit : HL []) = () from rfl, fwCol]
  simp only [BitVec.zero_xor]
  rfl
noncomputable def a4 : CTab := (31, conT [a4S, a4S] colF) :: a3
theorem a4_ok : ∀ p ∈ a4, COK Try.prog GL p.1 p.2 := CCons col_ok a3_ok
noncomputable abbrev A4 : Go.Ty.Cx := mkX Try.prog GL shA a4
theorem fwMix (c0 c1 c2 c3 : BitVec 8) (P : SV → Prop) : FW A4 Try.f16.ntmps (LTab.look []) Try.f16 (argsOf [a4S] ([c0, c1, c2, c3], ())) P =
 (  P
    (SV.av
      (AV.val (Sh.arr 4 (Sh.int IntKind.u8))
        [Go.Gfn.dot (2#8) (3#8) (1#8) (1#8) c0 c1 c2 c3, Go.Gfn.dot (2#8) (3#8) (1#8) (1#8) c1 c2 c3 c0,
          Go.Gfn.dot (2#8) (3#8) (1#8) (1#8) c2 c3 c0 c1, Go.Gfn.dot (2#8) (3#8) (1#8) (1#8) c3 c0 c1 c2]))) := by kernel_rfl
theorem mix_ok : COK Try.prog GL 16 (conT [a4S] mixF) := by
  refine conT_ok (fun xs hw => ?_) (fun xs => rfl)
  obtain ⟨c, ⟨⟩⟩ := xs
  obtain ⟨c0, c1, c2, c3, hc⟩ := of4b hw.1.1
  have hc : c = [c0, c1, c2, c3] := hc
  subst hc
  refine PC_of_fw (t := []) shA_ok a4_ok mixed Try.func16 (c := Try.f16.body.getD .skip) rfl (by kernel_rfl) (by kernel_rfl) loopsNil rfl ?_
  rw [show (PUnit.unit : HL []) = () from rfl, fwMix]; rfl
theorem fwUnmix (c0 c1 c2 c3 : BitVec 8) (P : SV → Prop) : FW A4 Try.f17.ntmps (LTab.look []) Try.f17 (argsOf [a4S] ([c0, c1, c2, c3], ())) P =
 (  P
    (SV.av
      (AV.val (Sh.arr 4 (Sh.int IntKind.u8))
        [Go.Gfn.dot (14#8) (11#8) (13#8) (9#8) c0 c1 c2 c3, Go.Gfn.dot (14#8) (11#8) (13#8) (9#8) c1 c2 c3 c0,
          Go.Gfn.dot (14#8) (11#8) (13#8) (9#8) c2 c3 c0 c1, Go.Gfn.dot (14#8) (11#8) (13#8) (9#8) c3 c0 c1 c2]))) := by kernel_rfl
theorem unmix_ok : COK Try.prog GL 17 (conT [a4S] unmixF) := by
  refine conT_ok (fun xs hw => ?_) (fun xs => rfl)
  obtain ⟨c, ⟨⟩⟩ := xs
  obtain ⟨c0, c1, c2, c3, hc⟩ := of4b hw.1.1
  have hc : c = [c0, c1, c2, c3] := hc
  subst hc
  refine PC_of_fw (t := []) shA_ok a4_ok mixed Try.func17 (c := Try.f17.body.getD .skip) rfl (by kernel_rfl) (by kernel_rfl) loopsNil rfl ?_
  rw [show (PUnit.unit : HL []) = () from rfl, fwUnmix]; rfl
noncomputable def a5 : CTab := (35, conT [u8S] subF) :: (37, conT [u8S] unsubF) :: (16, conT [a4S] mixF) :: (17, conT [a4S] unmixF) :: a4
theorem a5_ok : ∀ p ∈ a5, COK Try.prog GL p.1 p.2 := CCons sub_ok (CCons unsub_ok (CCons mix_ok (CCons unmix_ok a4_ok)))
noncomputable abbrev A5 : Go.Ty.Cx := mkX Try.prog GL shA a5
end Go.Proofs.Ytehgaljcpbaplaa
