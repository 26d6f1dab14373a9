import Derived.Test.YtmekcdapbpioaaaGa
namespace Go.Proofs.Ytmekcdapbpioaaa
open Go.Ty

/-! ## Points -/
abbrev ptS : Sh := .pair numS (.pair numS .unit)
abbrev quS : Sh := .pair numS (.pair numS (.pair numS (.pair numS .unit)))
def shV : STab := (32, ptS) :: (33, ptS) :: (88, quS) :: (89, quS) :: shU
theorem shV_ok : shV.all (fun (t, s) => shChk Try.prog s (.inl t)) = true := by kernel_rfl
noncomputable abbrev G1 : Go.Ty.Cx := mkX Try.prog noGl shV g1
noncomputable def DD : Nat := Classical.choose (⟨37095705934669439343138083508754565189542113879843219016388785533085940283555, rfl⟩ : ∃ n : Nat, n = 37095705934669439343138083508754565189542113879843219016388785533085940283555)
theorem DD_eq : DD = 37095705934669439343138083508754565189542113879843219016388785533085940283555 := Classical.choose_spec (⟨37095705934669439343138083508754565189542113879843219016388785533085940283555, rfl⟩ : ∃ n : Nat, n = 37095705934669439343138083508754565189542113879843219016388785533085940283555)
noncomputable def BX : Nat := Classical.choose (⟨15112221349535400772501151409588531511454012693041857206046113283949847762202, rfl⟩ : ∃ n : Nat, n = 15112221349535400772501151409588531511454012693041857206046113283949847762202)
theorem BX_eq : BX = 15112221349535400772501151409588531511454012693041857206046113283949847762202 := Classical.choose_spec (⟨15112221349535400772501151409588531511454012693041857206046113283949847762202, rfl⟩ : ∃ n : Nat, n = 15112221349535400772501151409588531511454012693041857206046113283949847762202)
noncomputable def BY : Nat := Classical.choose (⟨46316835694926478169428394003475163141307993866256225615783033603165251855960, rfl⟩ : ∃ n : Nat, n = 46316835694926478169428394003475163141307993866256225615783033603165251855960)
theorem BY_eq : BY = 46316835694926478169428394003475163141307993866256225615783033603165251855960 := Classical.choose_spec (⟨46316835694926478169428394003475163141307993866256225615783033603165251855960, rfl⟩ : ∃ n : Nat, n = 46316835694926478169428394003475163141307993866256225615783033603165251855960)
theorem w0_eq : wordsN 4 0 = [0#64, 0#64, 0#64, 0#64] := by rw [wordsN_eq]; decide
theorem w1_eq : wordsN 4 1 = [1#64, 0#64, 0#64, 0#64] := by rw [wordsN_eq]; decide
theorem dd_words : wordsN 4 DD = [8496970652267935907#64, 31536524315187371#64, 10144147576115030168#64, 5909686906226998899#64] := by rw [DD_eq, wordsN_eq]; decide
theorem bx_words : wordsN 4 BX = [14507833142362363162#64, 7578651490590762930#64, 13881468655802702940#64, 2407515759118799870#64] := by rw [BX_eq, wordsN_eq]; decide
theorem by_words : wordsN 4 BY = [7378697629483820632#64, 7378697629483820646#64, 7378697629483820646#64, 7378697629483820646#64] := by rw [BY_eq, wordsN_eq]; decide
theorem fw79  (P : SV → Prop) : FW G1 Try.f60.ntmps (LTab.look []) Try.f60 (argsOf [] (())) P =
 (  P
    (SV.av
      (AV.val (Sh.arr 4 (Sh.int IntKind.u64))
        [8496970652267935907#64, 31536524315187371#64, 10144147576115030168#64, 5909686906226998899#64]))) := by kernel_rfl
theorem d_ok : COK Try.prog noGl 60 (conT [] fun _ => .av (.val numS (wordsN 4 DD))) := by
  refine conT_ok (fun xs hw => ?_) (fun xs => rfl)
  obtain ⟨⟩ := xs
  refine PC_of_fw (t := []) shV_ok g1_ok mixed Try.func60 (c := Try.f60.body.getD .skip) rfl (by kernel_rfl) (by kernel_rfl) loopsNil rfl ?_
  rw [show (PUnit.unit : HL []) = () from rfl, fw79, dd_words]
theorem fw44  (P : SV → Prop) : FW G1 Try.f35.ntmps (LTab.look []) Try.f35 (argsOf [] (())) P =
 (  P
    (SV.av
      (AV.val ((Sh.arr 4 (Sh.int IntKind.u64)).pair ((Sh.arr 4 (Sh.int IntKind.u64)).pair Sh.unit))
        ([0#64, 0#64, 0#64, 0#64], [1#64, 0#64, 0#64, 0#64], PUnit.unit)))) := by kernel_rfl
theorem zero_ok : COK Try.prog noGl 35 (conT [] fun _ => .av (.val ptS (wordsN 4 0, wordsN 4 1, ()))) := by
  refine conT_ok (fun xs hw => ?_) (fun xs => rfl)
  obtain ⟨⟩ := xs
  refine PC_of_fw (t := []) shV_ok g1_ok mixed Try.func35 (c := Try.f35.body.getD .skip) rfl (by kernel_rfl) (by kernel_rfl) loopsNil rfl ?_
  rw [show (PUnit.unit : HL []) = () from rfl, fw44, w0_eq, w1_eq]
theorem fw50  (P : SV → Prop) : FW G1 Try.f39.ntmps (LTab.look []) Try.f39 (argsOf [] (())) P =
 (  P
    (SV.av
      (AV.val ((Sh.arr 4 (Sh.int IntKind.u64)).pair ((Sh.arr 4 (Sh.int IntKind.u64)).pair Sh.unit))
        ([14507833142362363162#64, 7578651490590762930#64, 13881468655802702940#64, 2407515759118799870#64],
          [7378697629483820632#64, 7378697629483820646#64, 7378697629483820646#64, 7378697629483820646#64], PUnit.unit)))) := by kernel_rfl
theorem base_ok : COK Try.prog noGl 39 (conT [] fun _ => .av (.val ptS (wordsN 4 BX, wordsN 4 BY, ()))) := by
  refine conT_ok (fun xs hw => ?_) (fun xs => rfl)
  obtain ⟨⟩ := xs
  refine PC_of_fw (t := []) shV_ok g1_ok mixed Try.func39 (c := Try.f39.body.getD .skip) rfl (by kernel_rfl) (by kernel_rfl) loopsNil rfl ?_
  rw [show (PUnit.unit : HL []) = () from rfl, fw50, bx_words, by_words]
noncomputable def g2 : CTab := (60, conT [] fun _ => .av (.val numS (wordsN 4 DD))) :: (35, conT [] fun _ => .av (.val ptS (wordsN 4 0, wordsN 4 1, ()))) :: (39, conT [] fun _ => .av (.val ptS (wordsN 4 BX, wordsN 4 BY, ()))) :: g1
theorem g2_ok : ∀ p ∈ g2, COK Try.prog noGl p.1 p.2 := CCons d_ok (CCons zero_ok (CCons base_ok g1_ok))
noncomputable abbrev G2 : Go.Ty.Cx := mkX Try.prog noGl shV g2
/-- x and y, below P, are a point of the curve -/
noncomputable def onN (x y : Nat) : Bool := decide (x < PP) && (decide (y < PP) && decide (y * y % PP = (x * x + (1 + DD * (x * x * (y * y)))) % PP))
noncomputable def onF : HL [ptS] → SV := fun xs => .av (.val .bool (onN (valN xs.1.1) (valN xs.1.2.1)))
theorem DD_lt : DD < PP := by rw [DD_eq, PP_eq]; decide
theorem DD_val : valN (wordsN 4 DD) = DD := v4 (by have := DD_lt; have := PP_lt; omega)
theorem sub_eq_iff {A B C : Nat} (ha : A < PP) (hb : B < PP) (hc : C < PP) : (A + PP - B) % PP = C ↔ A = (B + C) % PP := by
  by_cases h : B + C < PP <;> by_cases k : A < B
  · rw [Nat.mod_eq_of_lt h, Nat.mod_eq_of_lt (by omega)]; omega
  · rw [Nat.mod_eq_of_lt h, show A + PP - B = (A - B) + PP by omega, Nat.add_mod_right, Nat.mod_eq_of_lt (by omega)]; omega
  · rw [Nat.mod_eq_sub_mod (show B + C ≥ PP by omega), Nat.mod_eq_of_lt (show B + C - PP < PP by omega), Nat.mod_eq_of_lt (by omega)]; omega
  · rw [Nat.mod_eq_sub_mod (show B + C ≥ PP by omega), Nat.mod_eq_of_lt (show B + C - PP < PP by omega), show A + PP - B = (A - B) + PP by omega, Nat.add_mod_right, Nat.mod_eq_of_lt (by omega)]; omega
theorem low_same {x : List (BitVec 64)} (h : numS.wfT x) : teq (Sh.arr 4 (Sh.int IntKind.u64)) x (wordsN 4 (valN x % PP)) = decide (valN x < PP) := by
  by_cases c : valN x < PP
  · rw [decide_eq_true c, Nat.mod_eq_of_lt c]
    refine teq_of ?_
    obtain ⟨a, b, e, d, rfl⟩ := of4 h
    exact (words_valN [a, b, e, d]).symm
  · rw [decide_eq_false c]
    refine Bool.eq_false_iff.2 fun e => c ?_
    have e : x = wordsN 4 (valN x % PP) := teq_iff.1 e
    rw [e, vp]; exact Nat.mod_lt _ PP_pos
theorem fw38 (p : Sh.T (ptS)) (P : SV → Prop) : FW G2 Try.f29.ntmps (LTab.look []) Try.f29 (argsOf [ptS] (p, ())) P =
 (  ifB (!teq (Sh.arr 4 (Sh.int IntKind.u64)) p.1 (wordsN 4 (valN p.1 % PP))) (P (SV.av (AV.val Sh.bool false)))
    (ifB (!teq (Sh.arr 4 (Sh.int IntKind.u64)) p.2.1 (wordsN 4 (valN p.2.1 % PP))) (P (SV.av (AV.val Sh.bool false)))
      (P
        (SV.av
          (AV.val Sh.bool
            (teq (Sh.arr 4 (Sh.int IntKind.u64))
              (wordsN 4
                ((valN (wordsN 4 (valN p.2.1 * valN p.2.1 % PP)) % PP + PP -
                    valN (wordsN 4 (valN p.1 * valN p.1 % PP)) % PP) %
                  PP))
              (wordsN 4
                ((valN [1#64, 0#64, 0#64, 0#64] +
                    valN
                      (wordsN 4
                        (valN (wordsN 4 DD) *
                            valN
                              (wordsN 4
                                (valN (wordsN 4 (valN p.1 * valN p.1 % PP)) *
                                    valN (wordsN 4 (valN p.2.1 * valN p.2.1 % PP)) %
                                  PP)) %
                          PP))) %
                  PP)))))))) := by kernel_rfl
theorem on_ok : COK Try.prog noGl 29 (conT [ptS] onF) := by
  refine conT_ok (fun xs hw => ?_) (fun xs => rfl)
  obtain ⟨p, ⟨⟩⟩ := xs
  have h1 : numS.wfT p.1 := hw.1.1
  have h2 : numS.wfT p.2.1 := hw.1.2.1
  refine PC_of_fw (t := []) shV_ok g2_ok mixed Try.func29 (c := Try.f29.body.getD .skip) rfl (by kernel_rfl) (by kernel_rfl) loopsNil rfl ?_
  have z1 : valN [1#64, 0#64, 0#64, 0#64] = 1 := rfl
  rw [show (PUnit.unit : HL []) = () from rfl, fw38, low_same h1, low_same h2]
  simp only [vp, z1, DD_val]
  show ifB _ (SV.av (.val .bool false) = SV.av (.val .bool (onN (valN p.1) (valN p.2.1)))) (ifB _ (SV.av (.val .bool false) = SV.av (.val .bool (onN (valN p.1) (valN p.2.1)))) (_ = SV.av (.val .bool (onN (valN p.1) (valN p.2.1)))))
  unfold onN
  generalize valN p.1 = x
  generalize valN p.2.1 = y
  refine ifB_of (fun h => ?_) (fun h => ifB_of (fun h' => ?_) (fun h' => ?_))
  · rw [show decide (x < PP) = false by simpa using h]; rfl
  · rw [show decide (x < PP) = true by simpa using h, show decide (y < PP) = false by simpa using h']; rfl
  · rw [show decide (x < PP) = true by simpa using h, show decide (y < PP) = true by simpa using h', Bool.true_and, Bool.true_and, words_inj (vlt _) (vlt _)]
    refine congrArg (fun b => SV.av (.val .bool b)) (decide_eq_decide.2 ?_)
    rw [Nat.mod_mod, Nat.mod_mod]
    refine (sub_eq_iff (Nat.mod_lt _ PP_pos) (Nat.mod_lt _ PP_pos) (Nat.mod_lt _ PP_pos)).trans ?_
    simp only [Nat.add_mod_mod, Nat.mod_add_mod, Nat.mul_mod_mod, Nat.mod_mul_mod]
noncomputable def g3 : CTab := (29, conT [ptS] onF) :: g2
theorem g3_ok : ∀ p ∈ g3, COK Try.prog noGl p.1 p.2 := CCons on_ok g2_ok
noncomputable abbrev G3 : Go.Ty.Cx := mkX Try.prog noGl shV g3
end Go.Proofs.Ytmekcdapbpioaaa
