import Derived.Test.YtehgaljcpbaplaaB0
import Derived.Test.YtehgaljcpbaplaaProg
import Derived.Test.YtehgaljcpbaplaaTyC
import Derived.Test.YtehgaljcpbaplaaGfo
import Derived.Laws.Externs
namespace Go.Proofs.Ytehgaljcpbaplaa
open Go.Ty

abbrev a4S : Sh := .arr 4 u8S
abbrev b16S : Sh := .arr 16 u8S
abbrev keyS : Sh := .pair (.arr 60 a4S) (.pair i64S .unit)
noncomputable def a0 : CTab := []
theorem a0_ok : ∀ p ∈ a0, COK Try.prog GL p.1 p.2 := CNil
noncomputable abbrev A0 : Go.Ty.Cx := mkX Try.prog GL shA a0
/-! ## Products -/
theorem xt_nat : ∀ a : BitVec 8, (a <<< 1 ^^^ a >>> 7 * 27#8).toNat = Go.Gfn.xtN a.toNat := by decide +kernel
theorem half_nat : ∀ b : BitVec 8, (b >>> 1).toNat = b.toNat / 2 := by decide +kernel
theorem odd_nat : ∀ b : BitVec 8, decide (b &&& 1#8 = 1#8) = decide (b.toNat % 2 = 1) := by decide +kernel
theorem pos_nat : ∀ b : BitVec 8, decide (0#8 < b) = decide (b.toNat ≠ 0) := by decide +kernel
noncomputable def gB (n : Nat) (a b : BitVec 8) : BitVec 8 := BitVec.ofNat 8 (Go.Gfn.mulB n a.toNat b.toNat)
theorem gB_nat (n : Nat) (a b : BitVec 8) : (gB n a b).toNat = Go.Gfn.mulB n a.toNat b.toNat := by
  unfold gB
  rw [BitVec.toNat_ofNat]
  exact Nat.mod_eq_of_lt (Go.Gfn.mulB_lt n _ _ a.isLt)
theorem gB_zero (n : Nat) {a b : BitVec 8} (h : b.toNat = 0) : gB n a b = 0#8 := by
  unfold gB
  rw [h, Go.Gfn.mulB_zero]
theorem gB_odd (n : Nat) {a b : BitVec 8} (h : b.toNat % 2 = 1) : gB (n + 1) a b = a ^^^ gB n (a <<< 1 ^^^ a >>> 7 * 27#8) (b >>> 1) := by
  refine BitVec.eq_of_toNat_eq ?_
  rw [BitVec.toNat_xor, gB_nat, gB_nat, xt_nat, half_nat]
  show (if b.toNat % 2 = 1 then a.toNat else 0) ^^^ _ = _
  rw [if_pos h]
theorem gB_even (n : Nat) {a b : BitVec 8} (h : ¬b.toNat % 2 = 1) : gB (n + 1) a b = gB n (a <<< 1 ^^^ a >>> 7 * 27#8) (b >>> 1) := by
  refine BitVec.eq_of_toNat_eq ?_
  rw [gB_nat, gB_nat, xt_nat, half_nat]
  show (if b.toNat % 2 = 1 then a.toNat else 0) ^^^ _ = _
  rw [if_neg h, Nat.zero_xor]
abbrev Im : List It := [.v 0 u8S, .v 1 u8S, .v 5 u8S]
abbrev om : List (Nat × List It) := [(0, [.v 5 u8S])]
noncomputable def bm : Code := Try.f39.body.getD .skip
noncomputable def Qm : LQ Im [] om := fun x _ Kx => Kx.1 (x.2.2.1 ^^^ Go.Gfn.gm x.1 x.2.1, ())
noncomputable abbrev Lm : LTab := [(2, ptL Im [] om Qm)]
theorem roundm (a b o : BitVec 8) (Kn : HI Im → Prop) (Kr : HI [] → Prop) (Kx : HP om) : roundT (W A0 Try.f39.ntmps (LTab.look Lm) (bodyAt bm 2)) Im [] om (a, b, o, ()) Kn Kr Kx =
 (  ifB (decide (0#8 < b))
    (ifB (decide (b &&& 1#8 = 1#8)) (Kn (a <<< 1 ^^^ a >>> 7 * 27#8, b >>> 1, o ^^^ a, PUnit.unit))
      (Kn (a <<< 1 ^^^ a >>> 7 * 27#8, b >>> 1, o, PUnit.unit)))
    (Kx.1 (o, PUnit.unit))) := by kernel_rfl
theorem fwMul (a : Sh.T (u8S)) (b : Sh.T (u8S)) (P : SV → Prop) : FW A0 Try.f39.ntmps (LTab.look Lm) Try.f39 (argsOf [u8S, u8S] (a, b, ())) P =
 (  Qm (a, b, 0#8, PUnit.unit) (fun _ => False) (fun y => P (SV.av (AV.val (Sh.int IntKind.u8) y.1)), PUnit.unit)) := by kernel_rfl
theorem loopm : ∀ x Kr Kx, Qm x Kr Kx → ∃ n, untl (W A0 Try.f39.ntmps (LTab.look Lm) (bodyAt bm 2)) Im [] om n x Kr Kx := by
  rintro ⟨a, b, o, u⟩ Kr Kx hK
  have hK : Kx.1 (o ^^^ Go.Gfn.gm a b, ()) := hK
  have key : ∀ (n : Nat) (a b o : BitVec 8), b.toNat < 2 ^ n → Kx.1 (o ^^^ gB n a b, ()) → untl (W A0 Try.f39.ntmps (LTab.look Lm) (bodyAt bm 2)) Im [] om (n + 1) (a, b, o, ()) Kr Kx := by
    intro n
    induction n with
    | zero =>
      intro a b o hb hK
      rw [Nat.pow_zero] at hb
      have h0 : b.toNat = 0 := by omega
      rw [untl_succ, roundm, pos_nat, h0]
      rw [gB_zero 0 h0, BitVec.xor_zero] at hK
      exact hK
    | succ n ih =>
      intro a b o hb hK
      rw [untl_succ, roundm, pos_nat, odd_nat]
      have hlt : (b >>> 1).toNat < 2 ^ n := by rw [half_nat]; rw [Nat.pow_succ] at hb; omega
      refine ifB_of (fun _ => ifB_of (fun h => ?_) (fun h => ?_)) (fun h => ?_)
      · rw [gB_odd n (of_decide_eq_true h), ← BitVec.xor_assoc] at hK
        exact ih _ _ _ hlt hK
      · rw [gB_even n (of_decide_eq_false h)] at hK
        exact ih _ _ _ hlt hK
      · have h0 : b.toNat = 0 := by
          have := of_decide_eq_false h
          omega
        rw [gB_zero _ h0, BitVec.xor_zero] at hK
        exact hK
  exact ⟨9, key 8 a b o b.isLt hK⟩
noncomputable def gmF : HL [u8S, u8S] → SV := fun xs => .av (.val u8S (Go.Gfn.gm xs.1 xs.2.1))
theorem mul_ok : COK Try.prog GL 39 (conT [u8S, u8S] gmF) := by
  refine conT_ok (fun xs hw => ?_) (fun xs => rfl)
  obtain ⟨a, b, ⟨⟩⟩ := xs
  refine PC_of_fw (t := Lm) shA_ok a0_ok mixed Try.func39 (c := bm) rfl (by kernel_rfl) (by kernel_rfl) (loopsOK (by kernel_rfl) (LTCons (loop_of shA_ok a0_ok mixed (loopsOK (by kernel_rfl) (LTCons (noLoop (by kernel_rfl)) LTNil)) (by kernel_rfl) loopm) LTNil)) rfl ?_
  rw [show (PUnit.unit : HL []) = () from rfl, fwMul]
  show SV.av (.val u8S (0#8 ^^^ Go.Gfn.gm a b)) = SV.av (.val u8S (Go.Gfn.gm a b))
  rw [BitVec.zero_xor]
noncomputable def a1 : CTab := [(39, conT [u8S, u8S] gmF)]
theorem a1_ok : ∀ p ∈ a1, COK Try.prog GL p.1 p.2 := CCons mul_ok CNil
noncomputable abbrev A1 : Go.Ty.Cx := mkX Try.prog GL shA a1
/-! ## Powers -/
noncomputable def gpow (a : BitVec 8) (n : BitVec 64) : BitVec 8 := BitVec.ofNat 8 (Go.Gfn.npow a.toNat n.toNat)
noncomputable def gpowN (a : BitVec 8) (n : Nat) : BitVec 8 := BitVec.ofNat 8 (Go.Gfn.npow a.toNat n)
theorem gpowN_nat (a : BitVec 8) (n : Nat) : (gpowN a n).toNat = Go.Gfn.npow a.toNat n := by
  unfold gpowN
  rw [BitVec.toNat_ofNat]
  exact Nat.mod_eq_of_lt (Go.Gfn.npow_lt a.isLt n)
theorem gm_one (a : BitVec 8) : Go.Gfn.gm a 1#8 = a := BitVec.eq_of_toNat_eq (by rw [Go.Gfn.gm_nat]; exact Go.Gfn.mulN_one _ a.isLt)
theorem gpow_odd {a : BitVec 8} {n : Nat} (h : n % 2 = 1) : gpowN a n = Go.Gfn.gm a (gpowN (Go.Gfn.gm a a) (n / 2)) := by
  refine BitVec.eq_of_toNat_eq ?_
  rw [gpowN_nat, Go.Gfn.gm_nat, gpowN_nat, Go.Gfn.gm_nat, Go.Gfn.npow_sq a.isLt, Go.Gfn.mulN_comm _ _ a.isLt (Go.Gfn.npow_lt a.isLt _)]
  conv => lhs; rw [show n = 2 * (n / 2) + 1 by omega]
  rfl
theorem gpow_even {a : BitVec 8} {n : Nat} (h : ¬n % 2 = 1) : gpowN a n = gpowN (Go.Gfn.gm a a) (n / 2) := by
  refine BitVec.eq_of_toNat_eq ?_
  rw [gpowN_nat, gpowN_nat, Go.Gfn.gm_nat, Go.Gfn.npow_sq a.isLt]
  conv => lhs; rw [show n = 2 * (n / 2) by omega]
theorem odd64 (n : BitVec 64) : decide (n &&& 1#64 = 1#64) = decide (n.toNat % 2 = 1) := by
  refine decide_eq_decide.2 ⟨fun h => ?_, fun h => BitVec.eq_of_toNat_eq ?_⟩
  · have := congrArg BitVec.toNat h
    rw [BitVec.toNat_and, show (1#64).toNat = 1 from rfl, Nat.and_one_is_mod] at this
    exact this
  · rw [BitVec.toNat_and, show (1#64).toNat = 1 from rfl, Nat.and_one_is_mod]; exact h
theorem half64 (n : BitVec 64) : (n >>> 1).toNat = n.toNat / 2 := by rw [BitVec.toNat_ushiftRight, Nat.shiftRight_eq_div_pow, Nat.pow_one]
noncomputable def bw : Code := Try.f33.body.getD .skip
abbrev Iw : List It := [.v 0 u8S, .v 1 u64S, .v 5 u8S]
noncomputable def Qw : LQ Iw [] om := fun x _ Kx => Kx.1 (Go.Gfn.gm x.2.2.1 (gpow x.1 x.2.1), ())
noncomputable abbrev Lw : LTab := [(2, ptL Iw [] om Qw)]
theorem roundw (a : BitVec 8) (n : BitVec 64) (o : BitVec 8) (Kn : HI Iw → Prop) (Kr : HI [] → Prop) (Kx : HP om) : roundT (W A1 Try.f33.ntmps (LTab.look Lw) (bodyAt bw 2)) Iw [] om (a, n, o, ()) Kn Kr Kx =
 (  ifB (decide (0#64 < n))
    (ifB (decide (n &&& 1#64 = 1#64)) (Kn (Go.Gfn.gm a a, n >>> 1, Go.Gfn.gm o a, PUnit.unit))
      (Kn (Go.Gfn.gm a a, n >>> 1, o, PUnit.unit)))
    (Kx.1 (o, PUnit.unit))) := by kernel_rfl
theorem fwPow (a : Sh.T (u8S)) (n : Sh.T (u64S)) (P : SV → Prop) : FW A1 Try.f33.ntmps (LTab.look Lw) Try.f33 (argsOf [u8S, u64S] (a, n, ())) P =
 (  Qw (a, n, 1#8, PUnit.unit) (fun _ => False) (fun y => P (SV.av (AV.val (Sh.int IntKind.u8) y.1)), PUnit.unit)) := by kernel_rfl
theorem loopw : ∀ x Kr Kx, Qw x Kr Kx → ∃ n, untl (W A1 Try.f33.ntmps (LTab.look Lw) (bodyAt bw 2)) Iw [] om n x Kr Kx := by
  rintro ⟨a, n, o, u⟩ Kr Kx hK
  have hK : Kx.1 (Go.Gfn.gm o (gpowN a n.toNat), ()) := hK
  have key : ∀ (k : Nat) (a : BitVec 8) (n : BitVec 64) (o : BitVec 8), n.toNat < 2 ^ k → Kx.1 (Go.Gfn.gm o (gpowN a n.toNat), ()) → untl (W A1 Try.f33.ntmps (LTab.look Lw) (bodyAt bw 2)) Iw [] om (k + 1) (a, n, o, ()) Kr Kx := by
    intro k
    induction k with
    | zero =>
      intro a n o hn hK
      rw [Nat.pow_zero] at hn
      have h0 : n.toNat = 0 := by omega
      rw [untl_succ, roundw]
      refine ifB_of (fun h => ?_) (fun _ => ?_)
      · have := of_decide_eq_true h
        have := BitVec.lt_def.1 this
        rw [h0] at this
        exact absurd this (by decide)
      · have e : gpowN a 0 = 1#8 := rfl
        rw [h0, e, gm_one] at hK
        exact hK
    | succ k ih =>
      intro a n o hn hK
      rw [untl_succ, roundw, odd64]
      have hlt : (n >>> 1).toNat < 2 ^ k := by rw [half64]; rw [Nat.pow_succ] at hn; omega
      refine ifB_of (fun _ => ifB_of (fun h => ?_) (fun h => ?_)) (fun h => ?_)
      · refine ih _ _ _ hlt ?_
        rw [gpow_odd (of_decide_eq_true h), ← Go.Gfn.gm_assoc] at hK
        rw [half64]; exact hK
      · refine ih _ _ _ hlt ?_
        rw [gpow_even (of_decide_eq_false h)] at hK
        rw [half64]; exact hK
      · have h0 : n.toNat = 0 := by
          have h := of_decide_eq_false h
          by_cases c : n.toNat = 0
          · exact c
          · exact absurd (show 0#64 < n from BitVec.lt_def.2 (by show 0 < n.toNat; omega)) h
        have e : gpowN a 0 = 1#8 := rfl
        rw [h0, e, gm_one] at hK
        exact hK
  exact ⟨65, key 64 a n o n.isLt hK⟩
noncomputable def powF : HL [u8S, u64S] → SV := fun xs => .av (.val u8S (gpow xs.1 xs.2.1))
theorem pow_ok : COK Try.prog GL 33 (conT [u8S, u64S] powF) := by
  refine conT_ok (fun xs hw => ?_) (fun xs => rfl)
  obtain ⟨a, n, ⟨⟩⟩ := xs
  refine PC_of_fw (t := Lw) shA_ok a1_ok mixed Try.func33 (c := bw) rfl (by kernel_rfl) (by kernel_rfl) (loopsOK (by kernel_rfl) (LTCons (loop_of shA_ok a1_ok mixed (loopsOK (by kernel_rfl) (LTCons (noLoop (by kernel_rfl)) LTNil)) (by kernel_rfl) loopw) LTNil)) rfl ?_
  rw [show (PUnit.unit : HL []) = () from rfl, fwPow]
  show SV.av (.val u8S (Go.Gfn.gm 1#8 (gpow a n))) = SV.av (.val u8S (gpow a n))
  rw [Go.Gfn.gm_comm, gm_one]
noncomputable def a2 : CTab := (33, conT [u8S, u64S] powF) :: a1
theorem a2_ok : ∀ p ∈ a2, COK Try.prog GL p.1 p.2 := CCons pow_ok a1_ok
noncomputable abbrev A2 : Go.Ty.Cx := mkX Try.prog GL shA a2
noncomputable def invF : HL [u8S] → SV := fun xs => .av (.val u8S (Go.Gfn.ginv xs.1))
theorem fwInv (a : Sh.T (u8S)) (P : SV → Prop) : FW A2 Try.f40.ntmps (LTab.look []) Try.f40 (argsOf [u8S] (a, ())) P =
 (  P (SV.av (AV.val (Sh.int IntKind.u8) (gpow a 254#64)))) := by kernel_rfl
theorem inv_ok : COK Try.prog GL 40 (conT [u8S] invF) := by
  refine conT_ok (fun xs hw => ?_) (fun xs => rfl)
  obtain ⟨a, ⟨⟩⟩ := xs
  refine PC_of_fw (t := []) shA_ok a2_ok mixed Try.func40 (c := Try.f40.body.getD .skip) rfl (by kernel_rfl) (by kernel_rfl) loopsNil rfl ?_
  have e : gpow a 254#64 = Go.Gfn.ginv a := congrArg (BitVec.ofNat 8) (Go.Gfn.invN_eq a.isLt)
  rw [show (PUnit.unit : HL []) = () from rfl, fwInv, e]; rfl
noncomputable def rotB (a : BitVec 8) (k : Int) : BitVec 8 := a <<< (BitVec.ofInt 64 k &&& 7#64).toNat ||| a >>> (8#64 - (BitVec.ofInt 64 k &&& 7#64)).toNat
noncomputable def rotF : HL [u8S, i64S] → SV := fun xs => .av (.val u8S (rotB xs.1 xs.2.1))
theorem fwRot (a : Sh.T (u8S)) (k : Sh.T (i64S)) (P : SV → Prop) : FW A2 Try.f41.ntmps (LTab.look []) Try.f41 (argsOf [u8S, i64S] (a, k, ())) P =
 (  P
    (SV.av
      (AV.val (Sh.int IntKind.u8)
        (a <<< (BitVec.ofInt 64 k &&& 7#64).toNat ||| a >>> (8#64 - (BitVec.ofInt 64 k &&& 7#64)).toNat)))) := by kernel_rfl
theorem rot_ok : COK Try.prog GL 41 (conT [u8S, i64S] rotF) := by
  refine conT_ok (fun xs hw => ?_) (fun xs => rfl)
  obtain ⟨a, k, ⟨⟩⟩ := xs
  refine PC_of_fw (t := []) shA_ok a2_ok mixed Try.func41 (c := Try.f41.body.getD .skip) rfl (by kernel_rfl) (by kernel_rfl) loopsNil rfl ?_
  rw [show (PUnit.unit : HL []) = () from rfl, fwRot]; rfl
noncomputable def a3 : CTab := (40, conT [u8S] invF) :: (41, conT [u8S, i64S] rotF) :: a2
theorem a3_ok : ∀ p ∈ a3, COK Try.prog GL p.1 p.2 := CCons inv_ok (CCons rot_ok a2_ok)
noncomputable abbrev A3 : Go.Ty.Cx := mkX Try.prog GL shA a3
end Go.Proofs.Ytehgaljcpbaplaa
