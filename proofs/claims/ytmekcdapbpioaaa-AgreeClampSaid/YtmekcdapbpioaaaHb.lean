import Derived.Test.YtmekcdapbpioaaaHa
namespace Go.Proofs.Ytmekcdapbpioaaa
open Go.Ty

/-! ## Points with a denominator: what plus and point compute -/
noncomputable def toQ (q : Sh.T quS) : Go.Edw.Qd PP := (tf (valN q.1), tf (valN q.2.1), tf (valN q.2.2.1), tf (valN q.2.2.2.1))
noncomputable def qofF : HL [ptS] → SV := fun xs => .av (.val quS (xs.1.1, xs.1.2.1, wordsN 4 1, wordsN 4 (valN xs.1.1 * valN xs.1.2.1 % PP), ()))
noncomputable def plusF : HL [quS, quS] → SV := fun xs => .av (.val quS (wf (Go.Edw.qplus dF (toQ xs.1) (toQ xs.2.1)).1, wf (Go.Edw.qplus dF (toQ xs.1) (toQ xs.2.1)).2.1, wf (Go.Edw.qplus dF (toQ xs.1) (toQ xs.2.1)).2.2.1, wf (Go.Edw.qplus dF (toQ xs.1) (toQ xs.2.1)).2.2.2, ()))
noncomputable def pointF : HL [quS] → SV := fun xs => .av (.val ptS (wf (Go.Edw.qpoint ivF (toQ xs.1)).1, wf (Go.Edw.qpoint ivF (toQ xs.1)).2, ()))
theorem fwQof (p : Sh.T (ptS)) (P : SV → Prop) : FW G5 Try.f76.ntmps (LTab.look []) Try.f76 (argsOf [ptS] (p, ())) P =
 (  P
    (SV.av
      (AV.val
        ((Sh.arr 4 (Sh.int IntKind.u64)).pair
          ((Sh.arr 4 (Sh.int IntKind.u64)).pair
            ((Sh.arr 4 (Sh.int IntKind.u64)).pair ((Sh.arr 4 (Sh.int IntKind.u64)).pair Sh.unit))))
        (p.1, p.2.1, [1#64, 0#64, 0#64, 0#64], wordsN 4 (valN p.1 * valN p.2.1 % PP), PUnit.unit)))) := by kernel_rfl
theorem qof_ok : COK Try.prog noGl 76 (conT [ptS] qofF) := by
  refine conT_ok (fun xs hw => ?_) (fun xs => rfl)
  obtain ⟨p, ⟨⟩⟩ := xs
  refine PC_of_fw (t := []) shV_ok g5_ok mixed Try.func76 (c := Try.f76.body.getD .skip) rfl (by kernel_rfl) (by kernel_rfl) loopsNil rfl ?_
  rw [show (PUnit.unit : HL []) = () from rfl, fwQof, ← w1_eq]; rfl
theorem fwPlus (q : Sh.T (quS)) (r : Sh.T (quS)) (P : SV → Prop) : FW G5 Try.f77.ntmps (LTab.look []) Try.f77 (argsOf [quS, quS] (q, r, ())) P =
 (  P
    (SV.av
      (AV.val
        ((Sh.arr 4 (Sh.int IntKind.u64)).pair
          ((Sh.arr 4 (Sh.int IntKind.u64)).pair
            ((Sh.arr 4 (Sh.int IntKind.u64)).pair ((Sh.arr 4 (Sh.int IntKind.u64)).pair Sh.unit))))
        (wordsN 4
            (valN
                  (wordsN 4
                    ((valN
                              (wordsN 4
                                (valN (wordsN 4 ((valN q.2.1 + valN q.1) % PP)) *
                                    valN (wordsN 4 ((valN r.2.1 + valN r.1) % PP)) %
                                  PP)) %
                            PP +
                          PP -
                        valN
                            (wordsN 4
                              (valN (wordsN 4 ((valN q.2.1 % PP + PP - valN q.1 % PP) % PP)) *
                                  valN (wordsN 4 ((valN r.2.1 % PP + PP - valN r.1 % PP) % PP)) %
                                PP)) %
                          PP) %
                      PP)) *
                valN
                  (wordsN 4
                    ((valN
                              (wordsN 4
                                ((valN (wordsN 4 (valN q.2.2.1 * valN r.2.2.1 % PP)) +
                                    valN (wordsN 4 (valN q.2.2.1 * valN r.2.2.1 % PP))) %
                                  PP)) %
                            PP +
                          PP -
                        valN
                            (wordsN 4
                              ((valN
                                    (wordsN 4
                                      (valN (wordsN 4 (valN q.2.2.2.1 * valN r.2.2.2.1 % PP)) * valN (wordsN 4 DD) %
                                        PP)) +
                                  valN
                                    (wordsN 4
                                      (valN (wordsN 4 (valN q.2.2.2.1 * valN r.2.2.2.1 % PP)) * valN (wordsN 4 DD) %
                                        PP))) %
                                PP)) %
                          PP) %
                      PP)) %
              PP),
          wordsN 4
            (valN
                  (wordsN 4
                    ((valN
                          (wordsN 4
                            ((valN (wordsN 4 (valN q.2.2.1 * valN r.2.2.1 % PP)) +
                                valN (wordsN 4 (valN q.2.2.1 * valN r.2.2.1 % PP))) %
                              PP)) +
                        valN
                          (wordsN 4
                            ((valN
                                  (wordsN 4
                                    (valN (wordsN 4 (valN q.2.2.2.1 * valN r.2.2.2.1 % PP)) * valN (wordsN 4 DD) % PP)) +
                                valN
                                  (wordsN 4
                                    (valN (wordsN 4 (valN q.2.2.2.1 * valN r.2.2.2.1 % PP)) * valN (wordsN 4 DD) % PP))) %
                              PP))) %
                      PP)) *
                valN
                  (wordsN 4
                    ((valN
                          (wordsN 4
                            (valN (wordsN 4 ((valN q.2.1 + valN q.1) % PP)) *
                                valN (wordsN 4 ((valN r.2.1 + valN r.1) % PP)) %
                              PP)) +
                        valN
                          (wordsN 4
                            (valN (wordsN 4 ((valN q.2.1 % PP + PP - valN q.1 % PP) % PP)) *
                                valN (wordsN 4 ((valN r.2.1 % PP + PP - valN r.1 % PP) % PP)) %
                              PP))) %
                      PP)) %
              PP),
          wordsN 4
            (valN
                  (wordsN 4
                    ((valN
                              (wordsN 4
                                ((valN (wordsN 4 (valN q.2.2.1 * valN r.2.2.1 % PP)) +
                                    valN (wordsN 4 (valN q.2.2.1 * valN r.2.2.1 % PP))) %
                                  PP)) %
                            PP +
                          PP -
                        valN
                            (wordsN 4
                              ((valN
                                    (wordsN 4
                                      (valN (wordsN 4 (valN q.2.2.2.1 * valN r.2.2.2.1 % PP)) * valN (wordsN 4 DD) %
                                        PP)) +
                                  valN
                                    (wordsN 4
                                      (valN (wordsN 4 (valN q.2.2.2.1 * valN r.2.2.2.1 % PP)) * valN (wordsN 4 DD) %
                                        PP))) %
                                PP)) %
                          PP) %
                      PP)) *
                valN
                  (wordsN 4
                    ((valN
                          (wordsN 4
                            ((valN (wordsN 4 (valN q.2.2.1 * valN r.2.2.1 % PP)) +
                                valN (wordsN 4 (valN q.2.2.1 * valN r.2.2.1 % PP))) %
                              PP)) +
                        valN
                          (wordsN 4
                            ((valN
                                  (wordsN 4
                                    (valN (wordsN 4 (valN q.2.2.2.1 * valN r.2.2.2.1 % PP)) * valN (wordsN 4 DD) % PP)) +
                                valN
                                  (wordsN 4
                                    (valN (wordsN 4 (valN q.2.2.2.1 * valN r.2.2.2.1 % PP)) * valN (wordsN 4 DD) % PP))) %
                              PP))) %
                      PP)) %
              PP),
          wordsN 4
            (valN
                  (wordsN 4
                    ((valN
                              (wordsN 4
                                (valN (wordsN 4 ((valN q.2.1 + valN q.1) % PP)) *
                                    valN (wordsN 4 ((valN r.2.1 + valN r.1) % PP)) %
                                  PP)) %
                            PP +
                          PP -
                        valN
                            (wordsN 4
                              (valN (wordsN 4 ((valN q.2.1 % PP + PP - valN q.1 % PP) % PP)) *
                                  valN (wordsN 4 ((valN r.2.1 % PP + PP - valN r.1 % PP) % PP)) %
                                PP)) %
                          PP) %
                      PP)) *
                valN
                  (wordsN 4
                    ((valN
                          (wordsN 4
                            (valN (wordsN 4 ((valN q.2.1 + valN q.1) % PP)) *
                                valN (wordsN 4 ((valN r.2.1 + valN r.1) % PP)) %
                              PP)) +
                        valN
                          (wordsN 4
                            (valN (wordsN 4 ((valN q.2.1 % PP + PP - valN q.1 % PP) % PP)) *
                                valN (wordsN 4 ((valN r.2.1 % PP + PP - valN r.1 % PP) % PP)) %
                              PP))) %
                      PP)) %
              PP),
          PUnit.unit)))) := by kernel_rfl
theorem plus_ok : COK Try.prog noGl 77 (conT [quS, quS] plusF) := by
  refine conT_ok (fun xs hw => ?_) (fun xs => rfl)
  obtain ⟨q, r, ⟨⟩⟩ := xs
  refine PC_of_fw (t := []) shV_ok g5_ok mixed Try.func77 (c := Try.f77.body.getD .skip) rfl (by kernel_rfl) (by kernel_rfl) loopsNil rfl ?_
  rw [show (PUnit.unit : HL []) = () from rfl, fwPlus]
  simp only [vp, DD_val]
  have key : ∀ a b c d : Nat, ∀ Q : Go.Edw.Qd PP, (tf a, tf b, tf c, tf d) = Q → SV.av (.val quS (wordsN 4 (a % PP), wordsN 4 (b % PP), wordsN 4 (c % PP), wordsN 4 (d % PP), ())) = SV.av (.val quS (wf Q.1, wf Q.2.1, wf Q.2.2.1, wf Q.2.2.2, ())) := by
    intro a b c d Q h
    subst h; rfl
  refine key _ _ _ _ _ ?_
  simp only [tf_mul, tf_mod, tf_sub, tf_add]
  rfl
theorem fwPoint (q : Sh.T (quS)) (P : SV → Prop) : FW G5 Try.f78.ntmps (LTab.look []) Try.f78 (argsOf [quS] (q, ())) P =
 (  P
    (SV.av
      (AV.val ((Sh.arr 4 (Sh.int IntKind.u64)).pair ((Sh.arr 4 (Sh.int IntKind.u64)).pair Sh.unit))
        (wordsN 4 (valN q.1 * valN (wordsN 4 (powP (valN q.2.2.1) (PP - 2))) % PP),
          wordsN 4 (valN q.2.1 * valN (wordsN 4 (powP (valN q.2.2.1) (PP - 2))) % PP), PUnit.unit)))) := by kernel_rfl
theorem point_ok : COK Try.prog noGl 78 (conT [quS] pointF) := by
  refine conT_ok (fun xs hw => ?_) (fun xs => rfl)
  obtain ⟨q, ⟨⟩⟩ := xs
  refine PC_of_fw (t := []) shV_ok g5_ok mixed Try.func78 (c := Try.f78.body.getD .skip) rfl (by kernel_rfl) (by kernel_rfl) loopsNil rfl ?_
  rw [show (PUnit.unit : HL []) = () from rfl, fwPoint]
  simp only [vpw]
  have key : ∀ a b : Nat, ∀ Q : FF × FF, (tf a, tf b) = Q → SV.av (.val ptS (wordsN 4 (a % PP), wordsN 4 (b % PP), ())) = SV.av (.val ptS (wf Q.1, wf Q.2, ())) := by
    intro a b Q h
    subst h; rfl
  refine key _ _ _ ?_
  simp only [tf_mul, tf_inv]
  rfl
noncomputable def g6 : CTab := (76, conT [ptS] qofF) :: (77, conT [quS, quS] plusF) :: (78, conT [quS] pointF) :: g5
theorem g6_ok : ∀ p ∈ g6, COK Try.prog noGl p.1 p.2 := CCons qof_ok (CCons plus_ok (CCons point_ok g5_ok))
noncomputable abbrev G6 : Go.Ty.Cx := mkX Try.prog noGl shV g6
/-! ## Points of the curve in words -/
noncomputable def onP (p : Sh.T ptS) : Bool := onN (valN p.1) (valN p.2.1)
noncomputable def wb (b : Bool) (a : FF) : List (BitVec 64) := wordsN 4 (bif b then a.val else 0)
noncomputable def sumP (p q : Sh.T ptS) : FF × FF := Go.Edw.add dF ivF (toP p) (toP q)
noncomputable def tmP (n : List (BitVec 64)) (p : Sh.T ptS) : FF × FF := Go.Edw.mul dF ivF (valN n) (toP p)
noncomputable def cAddF : HL [ptS, ptS] → SV := fun xs => .tup [.val ptS (wb (onP xs.1 && onP xs.2.1) (sumP xs.1 xs.2.1).1, wb (onP xs.1 && onP xs.2.1) (sumP xs.1 xs.2.1).2, ()), .val i64S (errB (onP xs.1 && onP xs.2.1) 1)]
noncomputable def cTimesF : HL [numS, ptS] → SV := fun xs => .tup [.val ptS (wb (onP xs.2.1) (tmP xs.1 xs.2.1).1, wb (onP xs.2.1) (tmP xs.1 xs.2.1).2, ()), .val i64S (errB (onP xs.2.1) 1)]
noncomputable def wP (P : FF × FF) : Sh.T ptS := (wf P.1, wf P.2, ())
theorem wb_true (a : FF) : wb true a = wf a := rfl
theorem wb_false (a : FF) : wb false a = wordsN 4 0 := rfl
theorem onP_iff {p : Sh.T ptS} : onP p = true ↔ valN p.1 < PP ∧ valN p.2.1 < PP ∧ Go.Edw.On dF (toP p) := on_iff
theorem onP_on {p : Sh.T ptS} (h : onP p = true) : Go.Edw.On dF (toP p) := (onP_iff.1 h).2.2
theorem toP_wf (x y : FF) : toP (wf x, wf y, ()) = (x, y) := Prod.ext (tf_wf x) (tf_wf y)
theorem onP_wf {x y : FF} (h : Go.Edw.On dF (x, y)) : onP (wf x, wf y, ()) = true := by
  refine onP_iff.2 ⟨?_, ?_, ?_⟩
  · show valN (wf x) < PP; rw [vwf]; exact x.isLt
  · show valN (wf y) < PP; rw [vwf]; exact y.isLt
  · rw [toP_wf]; exact h
theorem wf_toP {p : Sh.T ptS} (hw : ptS.wfT p) (h : onP p = true) : p = (wf (toP p).1, wf (toP p).2, ()) := by
  obtain ⟨h1, h2, _⟩ := onP_iff.1 h
  obtain ⟨x, y, ⟨⟩⟩ := p
  have e1 : wf (tf (valN x)) = x := wf_tf hw.1 h1
  have e2 : wf (tf (valN y)) = y := wf_tf hw.2.1 h2
  show (x, y, ()) = (wf (tf (valN x)), wf (tf (valN y)), ())
  rw [e1, e2]
theorem toQ_of (p : Sh.T ptS) : Go.Edw.Rep (toQ (p.1, p.2.1, wordsN 4 1, wordsN 4 (valN p.1 * valN p.2.1 % PP), ())) (toP p) := by
  have := crv.rep_of (toP p)
  have e : toQ (p.1, p.2.1, wordsN 4 1, wordsN 4 (valN p.1 * valN p.2.1 % PP), ()) = ((toP p).1, (toP p).2, 1, (toP p).1 * (toP p).2) := by
    show (tf (valN p.1), tf (valN p.2.1), tf (valN (wordsN 4 1)), tf (valN (wordsN 4 (valN p.1 * valN p.2.1 % PP)))) = _
    rw [vp, tf_mod, tf_mul, v4 (by decide), tf_one]; rfl
  rw [e]; exact this
theorem toQ_wf (Q : Go.Edw.Qd PP) : toQ (wf Q.1, wf Q.2.1, wf Q.2.2.1, wf Q.2.2.2, ()) = Q := by
  show (tf (valN (wf Q.1)), tf (valN (wf Q.2.1)), tf (valN (wf Q.2.2.1)), tf (valN (wf Q.2.2.2))) = Q
  rw [tf_wf, tf_wf, tf_wf, tf_wf]
end Go.Proofs.Ytmekcdapbpioaaa
