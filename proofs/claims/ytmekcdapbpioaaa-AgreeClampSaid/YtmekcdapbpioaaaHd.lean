import Derived.Test.YtmekcdapbpioaaaHc
namespace Go.Proofs.Ytmekcdapbpioaaa
open Go.Ty

theorem fwSum (p : Sh.T (ptS)) (q : Sh.T (ptS)) (P : SV → Prop) : FW G7 Try.f34.ntmps (LTab.look []) Try.f34 (argsOf [ptS, ptS] (p, q, ())) P =
 (  P
    (SV.av
      (AV.val ((Sh.arr 4 (Sh.int IntKind.u64)).pair ((Sh.arr 4 (Sh.int IntKind.u64)).pair Sh.unit))
        (wb (onP p && onP q) (sumP p q).1, wb (onP p && onP q) (sumP p q).2, PUnit.unit)))) := by kernel_rfl
theorem sum_ok : COK Try.prog noGl 34 (conT [ptS, ptS] sumF) := by
  refine conT_ok (fun xs hw => ?_) (fun xs => rfl)
  obtain ⟨p, q, ⟨⟩⟩ := xs
  refine PC_of_fw (t := []) shV_ok g7_ok mixed Try.func34 (c := Try.f34.body.getD .skip) rfl (by kernel_rfl) (by kernel_rfl) loopsNil rfl ?_
  rw [show (PUnit.unit : HL []) = () from rfl, fwSum]; rfl
theorem fwTim (n : Sh.T (numS)) (p : Sh.T (ptS)) (P : SV → Prop) : FW G7 Try.f33.ntmps (LTab.look []) Try.f33 (argsOf [numS, ptS] (n, p, ())) P =
 (  P
    (SV.av
      (AV.val ((Sh.arr 4 (Sh.int IntKind.u64)).pair ((Sh.arr 4 (Sh.int IntKind.u64)).pair Sh.unit))
        (wb (onP p) (tmP n p).1, wb (onP p) (tmP n p).2, PUnit.unit)))) := by kernel_rfl
theorem tim_ok : COK Try.prog noGl 33 (conT [numS, ptS] timF) := by
  refine conT_ok (fun xs hw => ?_) (fun xs => rfl)
  obtain ⟨n, p, ⟨⟩⟩ := xs
  refine PC_of_fw (t := []) shV_ok g7_ok mixed Try.func33 (c := Try.f33.body.getD .skip) rfl (by kernel_rfl) (by kernel_rfl) loopsNil rfl ?_
  rw [show (PUnit.unit : HL []) = () from rfl, fwTim]; rfl
noncomputable def g8 : CTab := (34, conT [ptS, ptS] sumF) :: (33, conT [numS, ptS] timF) :: g7
theorem g8_ok : ∀ p ∈ g8, COK Try.prog noGl p.1 p.2 := CCons sum_ok (CCons tim_ok g7_ok)
noncomputable abbrev G8 : Go.Ty.Cx := mkX Try.prog noGl shV g8
/-! ## Words of points -/
theorem onP_w {X : FF × FF} (h : Go.Edw.On dF X) : onP (wf X.1, wf X.2, ()) = true := onP_wf h
theorem toP_w (X : FF × FF) : toP (wf X.1, wf X.2, ()) = X := toP_wf X.1 X.2
theorem sum_on {p q : Sh.T ptS} (h : onP p = true) (k : onP q = true) : Go.Edw.On dF (sumP p q) := crv.add_on (onP_on h) (onP_on k)
theorem tm_on {n : List (BitVec 64)} {p : Sh.T ptS} (h : onP p = true) : Go.Edw.On dF (tmP n p) := crv.mul_on (onP_on h) _
theorem sumP_l (X : FF × FF) (q : Sh.T ptS) : sumP (wf X.1, wf X.2, ()) q = Go.Edw.add dF ivF X (toP q) := by unfold sumP; rw [toP_w]
theorem sumP_r (X : FF × FF) (q : Sh.T ptS) : sumP q (wf X.1, wf X.2, ()) = Go.Edw.add dF ivF (toP q) X := by unfold sumP; rw [toP_w]
theorem tmP_w (n : List (BitVec 64)) (X : FF × FF) : tmP n (wf X.1, wf X.2, ()) = Go.Edw.mul dF ivF (valN n) X := by unfold tmP; rw [toP_w]
theorem zero_w : (wordsN 4 0, wordsN 4 1, ()) = ((wf ((0, 1) : FF × FF).1, wf ((0, 1) : FF × FF).2, ()) : Sh.T ptS) := by
  show _ = (wf 0, wf 1, ())
  rw [wf_zero, wf_one]
theorem base_w : (wordsN 4 BX, wordsN 4 BY, ()) = ((wf bF.1, wf bF.2, ()) : Sh.T ptS) := by
  show _ = (wordsN 4 (BX % PP), wordsN 4 (BY % PP), ())
  rw [Nat.mod_eq_of_lt (onN_lt base_on).1, Nat.mod_eq_of_lt (onN_lt base_on).2.1]
theorem base_onP : onP (wordsN 4 BX, wordsN 4 BY, ()) = true := by rw [base_w]; exact onP_w bF_on
theorem zero_onP : onP (wordsN 4 0, wordsN 4 1, ()) = true := by rw [zero_w]; exact onP_w Go.Edw.on_zero
theorem teq_pt (X Y : FF × FF) : teq ptS (wf X.1, wf X.2, ()) (wf Y.1, wf Y.2, ()) = decide (X = Y) := by
  by_cases h : X = Y
  · rw [decide_eq_true h, h]; exact teq_of rfl
  · rw [decide_eq_false h]
    refine Bool.eq_false_iff.2 fun e => h ?_
    have e : ((wf X.1, wf X.2, ()) : Sh.T ptS) = (wf Y.1, wf Y.2, ()) := teq_iff.1 e
    rw [← toP_w X, ← toP_w Y, e]
theorem eight_w : valN [8#64, 0#64, 0#64, 0#64] = 8 := rfl
theorem base_small {n : Nat} (h : n % LL ≠ 0) : Go.Edw.mul dF ivF n bF ≠ (0, 1) := fun e => h ((base_iff n).1 e)
noncomputable def g9 : CTab := g8
theorem g9_ok : ∀ p ∈ g9, COK Try.prog noGl p.1 p.2 := g8_ok
noncomputable abbrev G9 : Go.Ty.Cx := mkX Try.prog noGl shV g9
/-! ## The one number -/
theorem uN_eq {y : Nat} (h : y < PP) : uN y = (Go.Edw.pl ivF (tf y)).val := by
  have e : tf ((1 + y) % PP * powP ((PP + 1 - y) % PP) (PP - 2)) = Go.Edw.pl ivF (tf y) := by
    unfold Go.Edw.pl
    rw [tf_mul, tf_mod, tf_add, tf_inv, tf_mod, show PP + 1 - y = 1 + PP - y % PP by rw [Nat.mod_eq_of_lt h]; omega, tf_sub, tf_one]
  exact congrArg Fin.val e
theorem neg_w {p : Sh.T ptS} (h : onP p = true) : (wordsN 4 ((PP - valN p.1) % PP), wordsN 4 (valN p.2.1), ()) = ((wf (-(toP p).1), wf (toP p).2, ()) : Sh.T ptS) := by
  obtain ⟨h1, h2, _⟩ := onP_iff.1 h
  have e1 : tf (PP - valN p.1) = -(toP p).1 := by
    have := tf_sub 0 (valN p.1)
    rw [Nat.zero_add, Nat.mod_eq_of_lt h1, tf_zero] at this
    rw [this]
    show 0 - tf (valN p.1) = - tf (valN p.1)
    grind
  have e2 : wordsN 4 (valN p.2.1) = wf (toP p).2 := by
    show _ = wordsN 4 (valN p.2.1 % PP)
    rw [Nat.mod_eq_of_lt h2]
  rw [wf_of e1, e2]
end Go.Proofs.Ytmekcdapbpioaaa
