import Derived.Test.YtghmfiandllpfaaDoorB0
import Derived.Test.YtghmfiandllpfaaDoorFc
import Derived.Test.YtghmfiandllpfaaDoorFerL
namespace Go.Proofs.YtghmfiandllpfaaDoor.Lb
open Go.Ty

/-- 2^252 + 27742317777372353535851937790883648493 -/
noncomputable def LL : Nat := Classical.choose (⟨2 ^ 252 + 27742317777372353535851937790883648493, rfl⟩ : ∃ n : Nat, n = 2 ^ 252 + 27742317777372353535851937790883648493)
theorem LL_eq : LL = 2 ^ 252 + 27742317777372353535851937790883648493 := Classical.choose_spec (⟨2 ^ 252 + 27742317777372353535851937790883648493, rfl⟩ : ∃ n : Nat, n = 2 ^ 252 + 27742317777372353535851937790883648493)
theorem LL_lt : LL < 2 ^ 253 := by rw [LL_eq] <;> decide
theorem LL_1 : 1 < LL := by rw [LL_eq] <;> decide
theorem LL_pos : 0 < LL := Nat.lt_trans Nat.zero_lt_one LL_1
theorem ferLL : Go.Fer.Fer LL := by rw [LL_eq]; exact Go.Fer.ferL
theorem LL_val : valN (wordsN 4 LL) = LL := v4 (by have := LL_lt; omega)
theorem vll (X : Nat) : X % LL < 2 ^ 256 := by have := LL_lt; have := Nat.mod_lt X LL_pos; omega
theorem vl' (X : Nat) : valN (wordsN 4 (X % LL)) = X % LL := v4 (vll X)
noncomputable def redF : HL [wideS] → SV := fun xs => .av (.val numS (wordsN 4 (valN xs.1 % LL)))
noncomputable def lowLF : HL [numS] → SV := fun xs => .av (.val numS (wordsN 4 (valN xs.1 % LL)))
noncomputable def addLF : HL [numS, numS] → SV := fun xs => .av (.val numS (wordsN 4 ((valN xs.1 + valN xs.2.1) % LL)))
noncomputable def negLF : HL [numS] → SV := fun xs => .av (.val numS (wordsN 4 ((LL - valN xs.1 % LL) % LL)))
noncomputable def mulLF : HL [numS, numS] → SV := fun xs => .av (.val numS (wordsN 4 (valN xs.1 * valN xs.2.1 % LL)))
noncomputable def invLF : HL [numS] → SV := fun xs => .av (.val numS (wordsN 4 (invN (valN xs.1) LL)))
theorem fw51  (P : SV → Prop) : FW F5 Tryd.f19.ntmps (LTab.look []) Tryd.f19 (argsOf [] (())) P =
 (  P
    (SV.av
      (AV.val (Sh.arr 4 (Sh.int IntKind.u64))
        [6346243789798364141#64, 1503914060200516822#64, 0#64, 1152921504606846976#64]))) := by kernel_rfl
theorem L_ok : COK Tryd.prog GL 19 (conT [] fun _ => .av (.val numS (wordsN 4 LL))) := by
  refine conT_ok (fun xs hw => ?_) (fun xs => rfl)
  obtain ⟨⟩ := xs
  refine PC_of_fw (t := []) shU_ok f5_ok mixed Tryd.func19 (c := Tryd.f19.body.getD .skip) rfl (by kernel_rfl) (by kernel_rfl) loopsNil rfl ?_
  rw [show (PUnit.unit : HL []) = () from rfl, fw51, show wordsN 4 LL = [6346243789798364141#64, 1503914060200516822#64, 0#64, 1152921504606846976#64] by rw [LL_eq, wordsN_eq]; decide]
noncomputable def s1 : CTab := (19, conT [] fun _ => .av (.val numS (wordsN 4 LL))) :: f5
theorem s1_ok : ∀ p ∈ s1, COK Tryd.prog GL p.1 p.2 := CCons L_ok f5_ok
noncomputable abbrev S1 : Go.Ty.Cx := mkX Tryd.prog GL shU s1
theorem fw62 (w : Sh.T (wideS)) (P : SV → Prop) : FW S1 Tryd.f50.ntmps (LTab.look []) Tryd.f50 (argsOf [wideS] (w, ())) P =
 (  P (SV.av (AV.val (Sh.arr 4 (Sh.int IntKind.u64)) (wordsN 4 (remN (valN w) (valN (wordsN 4 LL))))))) := by kernel_rfl
theorem red_ok : COK Tryd.prog GL 50 (conT [wideS] redF) := by
  refine conT_ok (fun xs hw => ?_) (fun xs => rfl)
  obtain ⟨w, ⟨⟩⟩ := xs
  refine PC_of_fw (t := []) shU_ok s1_ok mixed Tryd.func50 (c := Tryd.f50.body.getD .skip) rfl (by kernel_rfl) (by kernel_rfl) loopsNil rfl ?_
  have eF : redF (w, PUnit.unit) = SV.av (.val numS (wordsN 4 (valN w % LL))) := rfl
  rw [show (PUnit.unit : HL []) = () from rfl, fw62, eF, LL_val, remN_pos LL_pos]
noncomputable def s2 : CTab := (50, conT [wideS] redF) :: s1
theorem s2_ok : ∀ p ∈ s2, COK Tryd.prog GL p.1 p.2 := CCons red_ok s1_ok
noncomputable abbrev S2 : Go.Ty.Cx := mkX Tryd.prog GL shU s2
theorem fw52 (a : Sh.T (numS)) (P : SV → Prop) : FW S2 Tryd.f49.ntmps (LTab.look []) Tryd.f49 (argsOf [numS] (a, ())) P =
 (  P
    (SV.av
      (AV.val (Sh.arr 4 (Sh.int IntKind.u64))
        (wordsN 4 (valN (wordsN 8 (valN a + B256 * valN [0#64, 0#64, 0#64, 0#64])) % LL))))) := by kernel_rfl
theorem lowL_ok : COK Tryd.prog GL 49 (conT [numS] lowLF) := by
  refine conT_ok (fun xs hw => ?_) (fun xs => rfl)
  obtain ⟨a, ⟨⟩⟩ := xs
  refine PC_of_fw (t := []) shU_ok s2_ok mixed Tryd.func49 (c := Tryd.f49.body.getD .skip) rfl (by kernel_rfl) (by kernel_rfl) loopsNil rfl ?_
  have eF : lowLF (a, PUnit.unit) = SV.av (.val numS (wordsN 4 (valN a % LL))) := rfl
  have A2 : valN a < 2 ^ 256 := lt4 hw.1
  have z0 : valN [0#64, 0#64, 0#64, 0#64] = 0 := rfl
  rw [show (PUnit.unit : HL []) = () from rfl, fw52, eF, z0, Nat.mul_zero, Nat.add_zero, v8 (lt5 A2)]
noncomputable def s3 : CTab := (49, conT [numS] lowLF) :: s2
theorem s3_ok : ∀ p ∈ s3, COK Tryd.prog GL p.1 p.2 := CCons lowL_ok s2_ok
noncomputable abbrev S3 : Go.Ty.Cx := mkX Tryd.prog GL shU s3
theorem fw55 (a : Sh.T (numS)) (b : Sh.T (numS)) (P : SV → Prop) : FW S3 Tryd.f22.ntmps (LTab.look []) Tryd.f22 (argsOf [numS, numS] (a, b, ())) P =
 (  P
    (SV.av
      (AV.val (Sh.arr 4 (Sh.int IntKind.u64))
        (wordsN 4 (valN (wordsN 4 (valN (wordsN 4 (valN a % LL)) + valN (wordsN 4 (valN b % LL)))) % LL))))) := by kernel_rfl
theorem addL_ok : COK Tryd.prog GL 22 (conT [numS, numS] addLF) := by
  refine conT_ok (fun xs hw => ?_) (fun xs => rfl)
  obtain ⟨a, b, ⟨⟩⟩ := xs
  refine PC_of_fw (t := []) shU_ok s3_ok mixed Tryd.func22 (c := Tryd.f22.body.getD .skip) rfl (by kernel_rfl) (by kernel_rfl) loopsNil rfl ?_
  have eF : addLF (a, b, PUnit.unit) = SV.av (.val numS (wordsN 4 ((valN a + valN b) % LL))) := rfl
  have h1 := Nat.mod_lt (valN a) LL_pos
  have h2 := Nat.mod_lt (valN b) LL_pos
  have h3 := LL_lt
  rw [show (PUnit.unit : HL []) = () from rfl, fw55, eF, vl', vl', v4 (n := valN a % LL + valN b % LL) (by omega), ← Nat.add_mod]
theorem fw57 (a : Sh.T (numS)) (P : SV → Prop) : FW S3 Tryd.f23.ntmps (LTab.look []) Tryd.f23 (argsOf [numS] (a, ())) P =
 (  P
    (SV.av
      (AV.val (Sh.arr 4 (Sh.int IntKind.u64))
        (wordsN 4 (valN (wordsN 4 (valN (wordsN 4 LL) + B256 - valN (wordsN 4 (valN a % LL)))) % LL))))) := by kernel_rfl
theorem negL_ok : COK Tryd.prog GL 23 (conT [numS] negLF) := by
  refine conT_ok (fun xs hw => ?_) (fun xs => rfl)
  obtain ⟨a, ⟨⟩⟩ := xs
  refine PC_of_fw (t := []) shU_ok s3_ok mixed Tryd.func23 (c := Tryd.f23.body.getD .skip) rfl (by kernel_rfl) (by kernel_rfl) loopsNil rfl ?_
  have eF : negLF (a, PUnit.unit) = SV.av (.val numS (wordsN 4 ((LL - valN a % LL) % LL))) := rfl
  have h1 := Nat.mod_lt (valN a) LL_pos
  have h3 := LL_lt
  rw [show (PUnit.unit : HL []) = () from rfl, fw57, eF, LL_val, vl', B256_eq]
  generalize valN a % LL = A at *
  generalize LL = M at *
  rw [v4m, show M + 2 ^ 256 - A = M - A + 2 ^ 256 by omega, Nat.add_mod_right, Nat.mod_eq_of_lt (show M - A < 2 ^ 256 by omega)]
theorem fw56 (a : Sh.T (numS)) (b : Sh.T (numS)) (P : SV → Prop) : FW S3 Tryd.f24.ntmps (LTab.look []) Tryd.f24 (argsOf [numS, numS] (a, b, ())) P =
 (  P (SV.av (AV.val (Sh.arr 4 (Sh.int IntKind.u64)) (wordsN 4 (valN (wordsN 8 (valN a * valN b)) % LL))))) := by kernel_rfl
theorem mulL_ok : COK Tryd.prog GL 24 (conT [numS, numS] mulLF) := by
  refine conT_ok (fun xs hw => ?_) (fun xs => rfl)
  obtain ⟨a, b, ⟨⟩⟩ := xs
  refine PC_of_fw (t := []) shU_ok s3_ok mixed Tryd.func24 (c := Tryd.f24.body.getD .skip) rfl (by kernel_rfl) (by kernel_rfl) loopsNil rfl ?_
  have eF : mulLF (a, b, PUnit.unit) = SV.av (.val numS (wordsN 4 (valN a * valN b % LL))) := rfl
  have A2 : valN a < 2 ^ 256 := lt4 hw.1
  have B2 : valN b < 2 ^ 256 := lt4 hw.2.1
  rw [show (PUnit.unit : HL []) = () from rfl, fw56, eF, v8 (Nat.mul_lt_mul'' A2 B2)]
theorem fw58 (a : Sh.T (numS)) (P : SV → Prop) : FW S3 Tryd.f25.ntmps (LTab.look []) Tryd.f25 (argsOf [numS] (a, ())) P =
 (  P (SV.av (AV.val (Sh.arr 4 (Sh.int IntKind.u64)) (wordsN 4 (invN (valN a) (valN (wordsN 4 LL))))))) := by kernel_rfl
theorem invL_ok : COK Tryd.prog GL 25 (conT [numS] invLF) := by
  refine conT_ok (fun xs hw => ?_) (fun xs => rfl)
  obtain ⟨a, ⟨⟩⟩ := xs
  refine PC_of_fw (t := []) shU_ok s3_ok mixed Tryd.func25 (c := Tryd.f25.body.getD .skip) rfl (by kernel_rfl) (by kernel_rfl) loopsNil rfl ?_
  have eF : invLF (a, PUnit.unit) = SV.av (.val numS (wordsN 4 (invN (valN a) LL))) := rfl
  rw [show (PUnit.unit : HL []) = () from rfl, fw58, eF, LL_val]
noncomputable def s4 : CTab := (22, conT [numS, numS] addLF) :: (23, conT [numS] negLF) :: (24, conT [numS, numS] mulLF) :: (25, conT [numS] invLF) :: s3
theorem s4_ok : ∀ p ∈ s4, COK Tryd.prog GL p.1 p.2 := CCons addL_ok (CCons negL_ok (CCons mulL_ok (CCons invL_ok s3_ok)))
noncomputable abbrev S4 : Go.Ty.Cx := mkX Tryd.prog GL shU s4
end Go.Proofs.YtghmfiandllpfaaDoor.Lb
