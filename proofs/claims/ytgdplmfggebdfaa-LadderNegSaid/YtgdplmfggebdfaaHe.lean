import Derived.Test.YtgdplmfggebdfaaHd
namespace Go.Proofs.Ytgdplmfggebdfaa
open Go.Ty

theorem fwClosed (p : Sh.T (ptS)) (q : Sh.T (ptS)) (n : Sh.T (numS)) (P : SV → Prop) : FW G9 Try.f13.ntmps (LTab.look []) Try.f13 (argsOf [ptS, ptS, numS] (p, q, n, ())) P =
 (  ifB (!onN (valN p.1) (valN p.2.1)) (P (SV.av (AV.val Sh.bool true)))
    (ifB (!onN (valN q.1) (valN q.2.1)) (P (SV.av (AV.val Sh.bool true)))
      (ifB (decide (errB (onP p && onP q) 1 = 0))
        (ifB (decide (errB (onP p) 1 = 0))
          (ifB (onN (valN (wb (onP p && onP q) (sumP p q).1)) (valN (wb (onP p && onP q) (sumP p q).2)))
            (P (SV.av (AV.val Sh.bool (onN (valN (wb (onP p) (tmP n p).1)) (valN (wb (onP p) (tmP n p).2))))))
            (P (SV.av (AV.val Sh.bool false))))
          (P (SV.av (AV.val Sh.bool false))))
        (P (SV.av (AV.val Sh.bool false)))))) := by kernel_rfl
theorem walkClosed (xs : HL [ptS, ptS, numS]) (h : okHL [ptS, ptS, numS] xs) : PC (bx Try.prog noGl) 13 (argsOf [ptS, ptS, numS] xs) (.av (.val .bool true)) := by
  obtain ⟨p, q, n, ⟨⟩⟩ := xs
  refine PC_of_fw (t := []) shV_ok g9_ok mixed Try.func13 (c := Try.f13.body.getD .skip) rfl (by kernel_rfl) (by kernel_rfl) loopsNil rfl ?_
  rw [show (PUnit.unit : HL []) = () from rfl, fwClosed]
  rw [show onN (valN p.1) (valN p.2.1) = onP p from rfl, show onN (valN q.1) (valN q.2.1) = onP q from rfl]
  cases h1 : onP p
  · exact ifB_of (fun _ => rfl) (fun h => absurd h (by decide))
  · refine ifB_of (fun h => absurd h (by decide)) (fun _ => ?_)
    cases h2 : onP q
    · exact ifB_of (fun _ => rfl) (fun h => absurd h (by decide))
    · refine ifB_of (fun h => absurd h (by decide)) (fun _ => ?_)
      refine ifB_of (fun _ => ifB_of (fun _ => ifB_of (fun _ => ?_) (fun h => ?_)) (fun h => absurd h (by decide))) (fun h => absurd h (by decide))
      · exact pbool (onP_w (tm_on h1))
      · have := onP_w (sum_on h1 h2)
        exact absurd (this.symm.trans h) (by decide)
theorem fwGroup (p : Sh.T (ptS)) (q : Sh.T (ptS)) (r : Sh.T (ptS)) (P : SV → Prop) : FW G9 Try.f14.ntmps (LTab.look []) Try.f14 (argsOf [ptS, ptS, ptS] (p, q, r, ())) P =
 (  ifB (!onN (valN p.1) (valN p.2.1)) (P (SV.av (AV.val Sh.bool true)))
    (ifB (!onN (valN q.1) (valN q.2.1)) (P (SV.av (AV.val Sh.bool true)))
      (ifB (!onN (valN r.1) (valN r.2.1)) (P (SV.av (AV.val Sh.bool true)))
        (ifB (decide (errB (onN (valN p.1) (valN p.2.1)) 1 = 0))
          (ifB
            (teq ((Sh.arr 4 (Sh.int IntKind.u64)).pair ((Sh.arr 4 (Sh.int IntKind.u64)).pair Sh.unit))
              (wb (onP p && onP q) (sumP p q).1, wb (onP p && onP q) (sumP p q).2, PUnit.unit)
              (wb (onP q && onP p) (sumP q p).1, wb (onP q && onP p) (sumP q p).2, PUnit.unit))
            (ifB
              (teq ((Sh.arr 4 (Sh.int IntKind.u64)).pair ((Sh.arr 4 (Sh.int IntKind.u64)).pair Sh.unit))
                (wb (onP (wb (onP p && onP q) (sumP p q).1, wb (onP p && onP q) (sumP p q).2, PUnit.unit) && onP r)
                    (sumP (wb (onP p && onP q) (sumP p q).1, wb (onP p && onP q) (sumP p q).2, PUnit.unit) r).1,
                  wb (onP (wb (onP p && onP q) (sumP p q).1, wb (onP p && onP q) (sumP p q).2, PUnit.unit) && onP r)
                    (sumP (wb (onP p && onP q) (sumP p q).1, wb (onP p && onP q) (sumP p q).2, PUnit.unit) r).2,
                  PUnit.unit)
                (wb (onP p && onP (wb (onP q && onP r) (sumP q r).1, wb (onP q && onP r) (sumP q r).2, PUnit.unit))
                    (sumP p (wb (onP q && onP r) (sumP q r).1, wb (onP q && onP r) (sumP q r).2, PUnit.unit)).1,
                  wb (onP p && onP (wb (onP q && onP r) (sumP q r).1, wb (onP q && onP r) (sumP q r).2, PUnit.unit))
                    (sumP p (wb (onP q && onP r) (sumP q r).1, wb (onP q && onP r) (sumP q r).2, PUnit.unit)).2,
                  PUnit.unit))
              (ifB
                (teq ((Sh.arr 4 (Sh.int IntKind.u64)).pair ((Sh.arr 4 (Sh.int IntKind.u64)).pair Sh.unit))
                  (wb (onP p && onP (wordsN 4 0, wordsN 4 1, PUnit.unit)) (sumP p (wordsN 4 0, wordsN 4 1, PUnit.unit)).1,
                    wb (onP p && onP (wordsN 4 0, wordsN 4 1, PUnit.unit))
                      (sumP p (wordsN 4 0, wordsN 4 1, PUnit.unit)).2,
                    PUnit.unit)
                  p)
                (P
                  (SV.av
                    (AV.val Sh.bool
                      (teq ((Sh.arr 4 (Sh.int IntKind.u64)).pair ((Sh.arr 4 (Sh.int IntKind.u64)).pair Sh.unit))
                        (wb
                            (onP p &&
                              onP
                                (wordsN 4 (bif onN (valN p.1) (valN p.2.1) then (PP - valN p.1) % PP else 0),
                                  wordsN 4 (bif onN (valN p.1) (valN p.2.1) then valN p.2.1 else 0), PUnit.unit))
                            (sumP p
                                (wordsN 4 (bif onN (valN p.1) (valN p.2.1) then (PP - valN p.1) % PP else 0),
                                  wordsN 4 (bif onN (valN p.1) (valN p.2.1) then valN p.2.1 else 0), PUnit.unit)).1,
                          wb
                            (onP p &&
                              onP
                                (wordsN 4 (bif onN (valN p.1) (valN p.2.1) then (PP - valN p.1) % PP else 0),
                                  wordsN 4 (bif onN (valN p.1) (valN p.2.1) then valN p.2.1 else 0), PUnit.unit))
                            (sumP p
                                (wordsN 4 (bif onN (valN p.1) (valN p.2.1) then (PP - valN p.1) % PP else 0),
                                  wordsN 4 (bif onN (valN p.1) (valN p.2.1) then valN p.2.1 else 0), PUnit.unit)).2,
                          PUnit.unit)
                        (wordsN 4 0, wordsN 4 1, PUnit.unit)))))
                (P (SV.av (AV.val Sh.bool false))))
              (P (SV.av (AV.val Sh.bool false))))
            (P (SV.av (AV.val Sh.bool false))))
          (P (SV.av (AV.val Sh.bool false))))))) := by kernel_rfl
theorem walkGroup (xs : HL [ptS, ptS, ptS]) (h : okHL [ptS, ptS, ptS] xs) : PC (bx Try.prog noGl) 14 (argsOf [ptS, ptS, ptS] xs) (.av (.val .bool true)) := by
  obtain ⟨p, q, r, ⟨⟩⟩ := xs
  have wp : ptS.wfT p := ⟨⟨h.1.1.1, fun _ _ => trivial⟩, ⟨h.1.2.1.1, fun _ _ => trivial⟩, trivial⟩
  refine PC_of_fw (t := []) shV_ok g9_ok mixed Try.func14 (c := Try.f14.body.getD .skip) rfl (by kernel_rfl) (by kernel_rfl) loopsNil rfl ?_
  rw [show (PUnit.unit : HL []) = () from rfl, fwGroup]
  rw [show onN (valN p.1) (valN p.2.1) = onP p from rfl, show onN (valN q.1) (valN q.2.1) = onP q from rfl, show onN (valN r.1) (valN r.2.1) = onP r from rfl]
  cases h1 : onP p
  · exact ifB_of (fun _ => rfl) (fun h => absurd h (by decide))
  · refine ifB_of (fun h => absurd h (by decide)) (fun _ => ?_)
    cases h2 : onP q
    · exact ifB_of (fun _ => rfl) (fun h => absurd h (by decide))
    · refine ifB_of (fun h => absurd h (by decide)) (fun _ => ?_)
      cases h3 : onP r
      · exact ifB_of (fun _ => rfl) (fun h => absurd h (by decide))
      · refine ifB_of (fun h => absurd h (by decide)) (fun _ => ?_)
        have c1 := onP_on h1
        have c2 := onP_on h2
        have c3 := onP_on h3
        simp only [Bool.and_true, cond_true, wb_true, onP_w (sum_on h1 h2), onP_w (sum_on h2 h3), neg_w h1, onP_w (Go.Edw.on_neg c1)]
        rw [sumP_l, sumP_r, zero_w, sumP_r, crv.add_zero]
        have en : sumP p (wf (-(toP p).1), wf (toP p).2, ()) = (0, 1) := by
          rw [sumP_r (-(toP p).1, (toP p).2)]; exact crv.add_neg c1
        rw [en]
        refine ifB_of (fun _ => step_t (s := ptS) ?_ (step_t (s := ptS) ?_ (step_t (s := ptS) ?_ ?_))) (fun h => absurd h (by decide))
        · have : sumP p q = sumP q p := Go.Edw.add_comm _ _
          rw [this]
        · have : Go.Edw.add dF ivF (sumP p q) (toP r) = Go.Edw.add dF ivF (toP p) (sumP q r) := crv.assoc c1 c2 c3
          rw [this]
        · rw [onP_w (X := ((0, 1) : FF × FF)) Go.Edw.on_zero]
          exact (wf_toP wp h1).symm
        · exact pbool (teq_of rfl)
theorem fwLNeg (p : Sh.T (ptS)) (P : SV → Prop) : FW G9 Try.f12.ntmps (LTab.look []) Try.f12 (argsOf [ptS] (p, ())) P =
 (  ifB
    (!teq (Sh.arr 4 (Sh.int IntKind.u64))
        (wordsN 4 (bif onN (valN (wordsN 4 BX)) (valN (wordsN 4 BY)) then uN (valN (wordsN 4 BY)) else 0))
        [9#64, 0#64, 0#64, 0#64])
    (P (SV.av (AV.val Sh.bool false)))
    (ifB
      (!teq (Sh.arr 4 (Sh.int IntKind.u64)) (wordsN 4 (bif onN (valN (wordsN 4 0)) (valN (wordsN 4 1)) then uN (valN (wordsN 4 1)) else 0)) [0#64, 0#64, 0#64, 0#64])
      (P (SV.av (AV.val Sh.bool false)))
      (ifB
        (!teq (Sh.arr 4 (Sh.int IntKind.u64))
            (wordsN 4
              (bif
                  onN (valN [0#64, 0#64, 0#64, 0#64])
                    (valN
                      (wordsN 4
                        ((valN [0#64, 0#64, 0#64, 0#64] % PP + PP - valN [1#64, 0#64, 0#64, 0#64] % PP) % PP))) then
                uN (valN (wordsN 4 ((valN [0#64, 0#64, 0#64, 0#64] % PP + PP - valN [1#64, 0#64, 0#64, 0#64] % PP) % PP)))
              else 0))
            [0#64, 0#64, 0#64, 0#64])
        (P (SV.av (AV.val Sh.bool false)))
        (ifB
          (!teq ((Sh.arr 4 (Sh.int IntKind.u64)).pair ((Sh.arr 4 (Sh.int IntKind.u64)).pair Sh.unit))
              (wb
                  (onP
                      ([0#64, 0#64, 0#64, 0#64],
                        wordsN 4 ((valN [0#64, 0#64, 0#64, 0#64] % PP + PP - valN [1#64, 0#64, 0#64, 0#64] % PP) % PP),
                        PUnit.unit) &&
                    onP
                      ([0#64, 0#64, 0#64, 0#64],
                        wordsN 4 ((valN [0#64, 0#64, 0#64, 0#64] % PP + PP - valN [1#64, 0#64, 0#64, 0#64] % PP) % PP),
                        PUnit.unit))
                  (sumP
                      ([0#64, 0#64, 0#64, 0#64],
                        wordsN 4 ((valN [0#64, 0#64, 0#64, 0#64] % PP + PP - valN [1#64, 0#64, 0#64, 0#64] % PP) % PP),
                        PUnit.unit)
                      ([0#64, 0#64, 0#64, 0#64],
                        wordsN 4 ((valN [0#64, 0#64, 0#64, 0#64] % PP + PP - valN [1#64, 0#64, 0#64, 0#64] % PP) % PP),
                        PUnit.unit)).1,
                wb
                  (onP
                      ([0#64, 0#64, 0#64, 0#64],
                        wordsN 4 ((valN [0#64, 0#64, 0#64, 0#64] % PP + PP - valN [1#64, 0#64, 0#64, 0#64] % PP) % PP),
                        PUnit.unit) &&
                    onP
                      ([0#64, 0#64, 0#64, 0#64],
                        wordsN 4 ((valN [0#64, 0#64, 0#64, 0#64] % PP + PP - valN [1#64, 0#64, 0#64, 0#64] % PP) % PP),
                        PUnit.unit))
                  (sumP
                      ([0#64, 0#64, 0#64, 0#64],
                        wordsN 4 ((valN [0#64, 0#64, 0#64, 0#64] % PP + PP - valN [1#64, 0#64, 0#64, 0#64] % PP) % PP),
                        PUnit.unit)
                      ([0#64, 0#64, 0#64, 0#64],
                        wordsN 4 ((valN [0#64, 0#64, 0#64, 0#64] % PP + PP - valN [1#64, 0#64, 0#64, 0#64] % PP) % PP),
                        PUnit.unit)).2,
                PUnit.unit)
              (wordsN 4 0, wordsN 4 1, PUnit.unit))
          (P (SV.av (AV.val Sh.bool false)))
          (ifB (!decide (errB (onN (valN p.1) (valN p.2.1)) 1 = 0)) (P (SV.av (AV.val Sh.bool true)))
            (P
              (SV.av
                (AV.val Sh.bool
                  (teq (Sh.arr 4 (Sh.int IntKind.u64))
                    (wordsN 4
                      (bif
                          onN (valN (wordsN 4 (bif onN (valN p.1) (valN p.2.1) then (PP - valN p.1) % PP else 0)))
                            (valN (wordsN 4 (bif onN (valN p.1) (valN p.2.1) then valN p.2.1 else 0))) then
                        uN (valN (wordsN 4 (bif onN (valN p.1) (valN p.2.1) then valN p.2.1 else 0)))
                      else 0))
                    (wordsN 4 (bif onN (valN p.1) (valN p.2.1) then uN (valN p.2.1) else 0))))))))))) := by kernel_rfl
theorem walkLNeg (xs : HL [ptS]) (h : okHL [ptS] xs) : PC (bx Try.prog noGl) 12 (argsOf [ptS] xs) (.av (.val .bool true)) := by
  obtain ⟨p, ⟨⟩⟩ := xs
  refine PC_of_fw (t := []) shV_ok g9_ok mixed Try.func12 (c := Try.f12.body.getD .skip) rfl (by kernel_rfl) (by kernel_rfl) loopsNil rfl ?_
  rw [show (PUnit.unit : HL []) = () from rfl, fwLNeg]
  have z0 : valN [0#64, 0#64, 0#64, 0#64] = 0 := rfl
  have z1 : valN [1#64, 0#64, 0#64, 0#64] = 1 := rfl
  have n0 : ([0#64, 0#64, 0#64, 0#64] : List (BitVec 64)) = wordsN 4 0 := w0_eq.symm
  have n9 : ([9#64, 0#64, 0#64, 0#64] : List (BitVec 64)) = wordsN 4 9 := by rw [wordsN_eq]; decide
  -- own
  obtain ⟨own, ho⟩ : ∃ own : Sh.T ptS, own = ([0#64, 0#64, 0#64, 0#64], wordsN 4 ((valN [0#64, 0#64, 0#64, 0#64] % PP + PP - valN [1#64, 0#64, 0#64, 0#64] % PP) % PP), ()) := ⟨_, rfl⟩
  have eo : tf (0 % PP + PP - 1 % PP) = (-1 : FF) := by
    rw [tf_sub, tf_mod, tf_zero, tf_one]; grind
  have ow : own = (wf ((0, -1) : FF × FF).1, wf ((0, -1) : FF × FF).2, ()) := by
    rw [ho, z0, z1, wf_of eo, n0]; rfl
  have oc : Go.Edw.On dF (0, -1) := by unfold Go.Edw.On; dsimp only; grind
  have oo : onP own = true := by rw [ow]; exact onP_w oc
  have b1 : uN BY = 9 := by
    rw [uN_eq (onN_lt base_on).2.1]
    have e : Go.Edw.pl ivF (tf BY) = tf 9 := by
      unfold Go.Edw.pl
      have hd : (1 : FF) - tf BY ≠ 0 := by
        rw [← tf_one, ← tf_sub]
        refine tf_nz ?_
        rw [PP_eq, BY_eq]; decide
      have hi := ivF_mul hd
      refine crv.canc hd ?_
      have e1 : tf 9 * (1 - tf BY) = 1 + tf BY := by
        rw [← tf_one, ← tf_sub, ← tf_mul, ← tf_add]
        refine tf_eq.2 ?_
        rw [PP_eq, BY_eq]
      generalize ivF (1 - tf BY) = v at *
      have : (1 - tf BY) * ((1 + tf BY) * v) = (1 + tf BY) * ((1 - tf BY) * v) := by grind
      rw [this, hi, ← e1]; grind
    rw [e]
    show 9 % PP = 9
    exact Nat.mod_eq_of_lt (by rw [PP_eq]; decide)
  have b2 : uN 1 = 0 := by
    rw [uN_eq PP_1]
    unfold Go.Edw.pl
    rw [tf_one, show (1 : FF) - 1 = 0 by grind, ivF_zero, show ((1 : FF) + 1) * 0 = 0 by grind]; rfl
  have b3 : uN ((0 % PP + PP - 1 % PP) % PP) = 0 := by
    rw [uN_eq (Nat.mod_lt _ PP_pos), tf_mod, eo]
    unfold Go.Edw.pl
    rw [show ((1 : FF) + -1) = 0 by grind, show (0 : FF) * ivF (1 - -1) = 0 by grind]; rfl
  rw [show onN (valN (wordsN 4 BX)) (valN (wordsN 4 BY)) = onP (wordsN 4 BX, wordsN 4 BY, ()) from rfl, base_onP, BY_val, cond_true, b1, ← n9, teq_of rfl]
  rw [show onN (valN (wordsN 4 0)) (valN (wordsN 4 1)) = onP (wordsN 4 0, wordsN 4 1, ()) from rfl, zero_onP, v4 (n := 1) (by decide), cond_true, b2, w0_eq, teq_of rfl]
  refine ifB_of (fun h => absurd h (by decide)) (fun _ => ifB_of (fun h => absurd h (by decide)) (fun _ => ?_))
  have o1 : onN (valN [0#64, 0#64, 0#64, 0#64]) (valN (wordsN 4 ((valN [0#64, 0#64, 0#64, 0#64] % PP + PP - valN [1#64, 0#64, 0#64, 0#64] % PP) % PP))) = true := by rw [ho] at oo; exact oo
  rw [o1, ← ho, oo, z0, z1, vp, cond_true, b3, w0_eq, teq_of rfl]
  refine ifB_of (fun h => absurd h (by decide)) (fun _ => ?_)
  rw [ow, sumP_l, toP_w, Bool.and_self, wb_true, wb_true, show Go.Edw.add dF ivF (0, -1) (0, -1) = (0, 1) from ?_, ← w0_eq, zero_w]
  · refine ifB_of (fun h => ?_) (fun _ => ?_)
    · have : teq ptS (wf ((0, 1) : FF × FF).1, wf ((0, 1) : FF × FF).2, ()) (wf ((0, 1) : FF × FF).1, wf ((0, 1) : FF × FF).2, ()) = true := teq_of rfl
      rw [this] at h; exact absurd h (by decide)
    · rw [show onN (valN p.1) (valN p.2.1) = onP p from rfl]
      cases h1 : onP p
      · exact ifB_of (fun _ => rfl) (fun h => absurd h (by decide))
      · refine ifB_of (fun h => absurd h (by decide)) (fun _ => ?_)
        refine pbool (teq_of ?_)
        have e := neg_w h1
        have on := onP_w (Go.Edw.on_neg (onP_on h1))
        rw [← e] at on
        have on : onN (valN (wordsN 4 ((PP - valN p.1) % PP))) (valN (wordsN 4 (valN p.2.1))) = true := on
        have hv : valN (wordsN 4 (valN p.2.1)) = valN p.2.1 := v4 (by have := (onP_iff.1 h1).2.1; have := PP_lt; omega)
        simp only [cond_true]
        rw [on, hv]; rfl
  · unfold Go.Edw.add
    dsimp only
    rw [show (1 : FF) - dF * (0 * 0 * -1 * -1) = 1 by grind, crv.iv_one]
    refine Prod.ext ?_ ?_ <;> dsimp only <;> grind
end Go.Proofs.Ytgdplmfggebdfaa
