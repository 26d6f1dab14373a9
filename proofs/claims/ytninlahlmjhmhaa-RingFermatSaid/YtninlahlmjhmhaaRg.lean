import Derived.Test.YtninlahlmjhmhaaRf
namespace Go.Proofs.Ytninlahlmjhmhaa
open Go.Ty

theorem fw50  (P : SV → Prop) : FW Y10 Try.f50.ntmps (LTab.look []) Try.f50 (argsOf [] (())) P =
 (  ifB (noRing (valN [7#64, 0#64, 0#64, 0#64])) (P (SV.av (AV.val Sh.bool false)))
    (okR (ringOf [7#64, 0#64, 0#64, 0#64]) ∧ P (SV.av (AV.val Sh.bool true)))) := by kernel_rfl

theorem rings_ok : COK Try.prog noGl 50 (conT [] fun _ => .av (.val .bool true)) := by
  refine conT_ok (fun xs hw => ?_) (fun xs => rfl)
  obtain ⟨⟩ := xs
  refine PC_of_fw (t := []) shR_ok ct10_ok mixed Try.func50 (c := Try.f50.body.getD .skip) rfl (by kernel_rfl) (by kernel_rfl) loopsNil rfl ?_
  rw [show (PUnit.unit : HL []) = () from rfl, fw50]
  have h7 : valN [7#64, 0#64, 0#64, 0#64] = 7 := rfl
  refine ifB_of (fun h => ?_) (fun h => ⟨ringOf_ok ⟨rfl, fun _ _ => trivial⟩ h, rfl⟩)
  rw [h7] at h; exact absurd h (by decide)
noncomputable def ct11 : CTab := (50, conT [] fun _ => .av (.val .bool true)) :: ct10
theorem ct11_ok : ∀ p ∈ ct11, COK Try.prog noGl p.1 p.2 := CCons rings_ok ct10_ok
noncomputable abbrev Y11 : Go.Ty.Cx := mkX Try.prog noGl shR ct11
theorem fw18 (m : Sh.T (numS)) (a : Sh.T (numS)) (i : Sh.T (numS)) (j : Sh.T (numS)) (P : SV → Prop) : FW Y11 Try.f18.ntmps (LTab.look []) Try.f18 (argsOf [numS, numS, numS, numS] (m, a, i, j, ())) P =
 (  ifB (noRing (valN m)) (P (SV.av (AV.val Sh.bool true)))
    (ifB
      (!teq (Sh.arr 4 (Sh.int IntKind.u64))
          (wordsN 4
            (valN (wordsN 8 (valN i * valN j)) /
              (2 ^ 256)))
          [0#64, 0#64, 0#64, 0#64])
      (P (SV.av (AV.val Sh.bool true)))
      (okR (ringOf m) ∧
        okR (ringOf m) ∧
          okR (ringOf m) ∧
            P
              (SV.av
                (AV.val Sh.bool
                  (teq (Sh.arr 4 (Sh.int IntKind.u64))
                    (wordsN 4
                      (powN (valN (wordsN 4 (powN (valN a) (valN i) (valN (ringOf m).1)))) (valN j) (valN (ringOf m).1)))
                    (wordsN 4
                      (powN (valN a) (valN (wordsN 4 (valN (wordsN 8 (valN i * valN j))))) (valN (ringOf m).1))))))))) := by kernel_rfl

theorem powN_lt {A K M : Nat} (h : 0 < M) : powN A K M < M := Nat.mod_lt _ h
theorem powN_pow {A I J M : Nat} : powN (powN A I M) J M = powN A (I * J) M := by
  unfold powN; rw [← Nat.pow_mod, Nat.pow_mul]
theorem powN_add {A I J M : Nat} : powN A I M * powN A J M % M = powN A (I + J) M := by
  unfold powN; rw [← Nat.mul_mod, Nat.pow_add]
theorem powN_mul {A B I M : Nat} : powN A I M * powN B I M % M = powN (A * B % M) I M := by
  unfold powN; rw [← Nat.mul_mod, ← Nat.pow_mod, Nat.mul_pow]
theorem walk18 (xs : HL [numS, numS, numS, numS]) (h : okHL [numS, numS, numS, numS] xs) : PC (bx Try.prog noGl) 18 (argsOf [numS, numS, numS, numS] xs) (.av (.val .bool true)) := by
  obtain ⟨m, a, i, j, ⟨⟩⟩ := xs
  refine PC_of_fw (t := []) shR_ok ct11_ok mixed Try.func18 (c := Try.f18.body.getD .skip) rfl (by kernel_rfl) (by kernel_rfl) loopsNil rfl ?_
  rw [show (PUnit.unit : HL []) = () from rfl, fw18]
  have wm : numS.wfT m := okwf4 h.1
  have M2 : valN m < 2 ^ 256 := lt4 wm
  have I2 : valN i < 2 ^ 256 := lt4 (okwf4 h.2.2.1)
  have J2 : valN j < 2 ^ 256 := lt4 (okwf4 h.2.2.2.1)
  have hp : valN i * valN j < 2 ^ 256 * 2 ^ 256 := Nat.mul_lt_mul'' I2 J2
  have hq : valN i * valN j / 2 ^ 256 < 2 ^ 256 := Nat.div_lt_of_lt_mul hp
  rw [v8 hp, teq_z hq]
  refine ifB_of (fun _ => rfl) (fun hr => ifB_of (fun _ => rfl) (fun h => ?_))
  have hok := ringOf_ok wm hr
  refine ⟨hok, hok, hok, ?_⟩
  obtain ⟨hodd, hm1⟩ := noRing_no hr
  have hm : (ringOf m).1 = m := rfl
  have h0 : valN i * valN j / 2 ^ 256 = 0 := not_t h fun h => of_decide_eq_true h
  have hlt : valN i * valN j < 2 ^ 256 := by
    rcases Nat.div_eq_zero_iff.1 h0 with h | h
    · exact absurd h (by omega)
    · exact h
  rw [hm, v4 (Nat.lt_trans (powN_lt (by omega)) M2), v4 hlt, powN_pow]
  exact pbool (teq_of rfl)
end Go.Proofs.Ytninlahlmjhmhaa
