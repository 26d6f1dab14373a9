import Derived.Test.YtmekcdapbpioaaaHh
namespace Go.Proofs.Ytmekcdapbpioaaa
open Go.Ty

/-- no times it is 0, once u -/
theorem ladder_01 (u : FF) : Go.Edw.ladv kF ivF u 0 = 0 ∧ Go.Edw.ladv kF ivF u 1 = u := by
  have h := ivF_mul dF_nz
  have p0 : Go.Edw.pl ivF 1 = 0 := by
    unfold Go.Edw.pl
    rw [show (1 : FF) - 1 = 0 by grind, ivF_zero]; grind
  rcases crv.exists_pt h dich u with ⟨P, hP, hu⟩ | ⟨P, hP, hu⟩
  · constructor
    · rw [← hu, ladder_pt hP (by decide)]; exact p0
    · rw [← hu, ladder_pt hP (by decide), crv.mul_one]
  · have c' := crv.other h
    have hk' : -(1 + kF) + 1 ≠ 0 := fun e => kF_0 (by clear h hu hP c'; grind)
    have hd' : ivF dF * (-(1 + kF) + 1) = - -(1 + kF) := by
      have e1 : ivF dF * (dF * (kF + 1)) = ivF dF * -kF := by rw [kF_d]
      have e : ivF dF * (dF * (kF + 1)) = dF * ivF dF * (kF + 1) := by clear e1 h hu hP c'; grind
      rw [e, h] at e1
      clear e h hu hP c'
      grind
    constructor
    · rw [crv.ladv_neg ivF_zero rfl, ← hu, c'.lad_curve ivF_zero hk' hd' hP (by decide)]
      show -Go.Edw.pl ivF 1 = 0
      rw [p0]; grind
    · rw [crv.ladv_neg ivF_zero rfl, ← hu, c'.lad_curve ivF_zero hk' hd' hP (by decide), c'.mul_one, hu]; grind
theorem nine_w : valN [9#64, 0#64, 0#64, 0#64] = 9 := rfl
theorem one_w' : valN [1#64, 0#64, 0#64, 0#64] = 1 := rfl
theorem nought_w' : valN [0#64, 0#64, 0#64, 0#64] = 0 := rfl
theorem wf_nine : wf (tf 9) = [9#64, 0#64, 0#64, 0#64] := by
  show wordsN 4 (9 % PP) = _
  rw [Nat.mod_eq_of_lt (by rw [PP_eq]; decide), wordsN_eq]; decide
theorem wf_nought : wf 0 = [0#64, 0#64, 0#64, 0#64] := by rw [wf_zero, w0_eq]
theorem fwLadders  (P : SV → Prop) : FW L3 Try.f41.ntmps (LTab.look []) Try.f41 (argsOf [] (())) P =
 (  P
    (SV.av
      (AV.val Sh.bool
        (teq (Sh.arr 4 (Sh.int IntKind.u64))
          (wf (Edw.ladv kF ivF (tf (valN [9#64, 0#64, 0#64, 0#64])) (valN [1#64, 0#64, 0#64, 0#64])))
          [9#64, 0#64, 0#64, 0#64])))) := by kernel_rfl
theorem ladders_ok : COK Try.prog noGl 41 (conT [] fun _ => .av (.val .bool true)) := by
  refine conT_ok (fun xs hw => ?_) (fun xs => rfl)
  obtain ⟨⟩ := xs
  refine PC_of_fw (t := []) shW_ok l3_ok mixed Try.func41 (c := Try.f41.body.getD .skip) rfl (by kernel_rfl) (by kernel_rfl) loopsNil rfl ?_
  rw [show (PUnit.unit : HL []) = () from rfl, fwLadders, nine_w, one_w', (ladder_01 _).2, wf_nine]
  exact pbool (teq_of rfl)
noncomputable def l4 : CTab := (41, conT [] fun _ => .av (.val .bool true)) :: l3
theorem l4_ok : ∀ p ∈ l4, COK Try.prog noGl p.1 p.2 := CCons ladders_ok l3_ok
noncomputable abbrev L4 : Go.Ty.Cx := mkX Try.prog noGl shW l4
theorem nott_t {s : Sh} {x y : s.T} {p f : Prop} (h : x = y) (hp : p) : ifB (!teq s x y) f p := ifB_of (fun h' => absurd (teq_of h) (by intro e; rw [e] at h'; exact absurd h' (by decide))) (fun _ => hp)
theorem fwLCurve (k : Sh.T (numS)) (p : Sh.T (ptS)) (P : SV → Prop) : FW L4 Try.f10.ntmps (LTab.look []) Try.f10 (argsOf [numS, ptS] (k, p, ())) P =
 (  ifB (!onN (valN p.1) (valN p.2.1)) (P (SV.av (AV.val Sh.bool true)))
    (P
      (SV.av
        (AV.val Sh.bool
          (teq (Sh.arr 4 (Sh.int IntKind.u64))
            (wf
              (Edw.ladv kF ivF (tf (valN (wordsN 4 (bif onN (valN p.1) (valN p.2.1) then uN (valN p.2.1) else 0))))
                (valN k)))
            (wordsN 4
              (bif onN (valN (wb (onP p) (tmP k p).1)) (valN (wb (onP p) (tmP k p).2)) then
                uN (valN (wb (onP p) (tmP k p).2))
              else 0))))))) := by kernel_rfl
theorem walkLCurve (xs : HL [numS, ptS]) (h : okHL [numS, ptS] xs) : PC (bx Try.prog noGl) 10 (argsOf [numS, ptS] xs) (.av (.val .bool true)) := by
  obtain ⟨k, p, ⟨⟩⟩ := xs
  have hk : valN k < 2 ^ 256 := lt4 (xs := k) ⟨h.1.1, fun _ _ => trivial⟩
  refine PC_of_fw (t := []) shW_ok l4_ok mixed Try.func10 (c := Try.f10.body.getD .skip) rfl (by kernel_rfl) (by kernel_rfl) loopsNil rfl ?_
  rw [show (PUnit.unit : HL []) = () from rfl, fwLCurve]
  rw [show onN (valN p.1) (valN p.2.1) = onP p from rfl]
  cases h1 : onP p
  · exact ifB_of (fun _ => rfl) (fun h => absurd h (by decide))
  · refine ifB_of (fun h => absurd h (by decide)) (fun _ => pbool (teq_of (s := numS) ?_))
    have c1 := onP_on h1
    have hy : valN p.2.1 < PP := (onP_iff.1 h1).2.1
    have on : onN (valN (wf (tmP k p).1)) (valN (wf (tmP k p).2)) = true := onP_w (tm_on h1)
    have e1 : tf (valN (wordsN 4 (uN (valN p.2.1)))) = Go.Edw.pl ivF (toP p).2 := by
      rw [uN_eq hy]
      exact tf_wf _
    show wf (Go.Edw.ladv kF ivF (tf (valN (wordsN 4 (uN (valN p.2.1))))) (valN k)) = wordsN 4 (bif onN (valN (wf (tmP k p).1)) (valN (wf (tmP k p).2)) then uN (valN (wf (tmP k p).2)) else 0)
    rw [on, cond_true, vwf, uN_eq (tmP k p).2.isLt, tf_self, e1, ladder_pt c1 hk]; rfl
theorem fwLSwaps (j : Sh.T (numS)) (k : Sh.T (numS)) (u : Sh.T (numS)) (P : SV → Prop) : FW L4 Try.f11.ntmps (LTab.look []) Try.f11 (argsOf [numS, numS, numS] (j, k, u, ())) P =
 (  ifB
    (!teq (Sh.arr 4 (Sh.int IntKind.u64))
        (wf (Edw.ladv kF ivF (tf (valN (wf (Edw.ladv kF ivF (tf (valN u)) (valN k))))) (valN j)))
        (wf (Edw.ladv kF ivF (tf (valN (wf (Edw.ladv kF ivF (tf (valN u)) (valN j))))) (valN k))))
    (P (SV.av (AV.val Sh.bool false)))
    (ifB
      (!teq (Sh.arr 4 (Sh.int IntKind.u64)) (wordsN 4 (valN (wordsN 8 (valN j * valN k)) / B256))
          [0#64, 0#64, 0#64, 0#64])
      (P (SV.av (AV.val Sh.bool true)))
      (P
        (SV.av
          (AV.val Sh.bool
            (teq (Sh.arr 4 (Sh.int IntKind.u64))
              (wf (Edw.ladv kF ivF (tf (valN u)) (valN (wordsN 4 (valN (wordsN 8 (valN j * valN k)))))))
              (wf (Edw.ladv kF ivF (tf (valN (wf (Edw.ladv kF ivF (tf (valN u)) (valN k))))) (valN j))))))))) := by kernel_rfl
theorem walkLSwaps (xs : HL [numS, numS, numS]) (h : okHL [numS, numS, numS] xs) : PC (bx Try.prog noGl) 11 (argsOf [numS, numS, numS] xs) (.av (.val .bool true)) := by
  obtain ⟨j, k, u, ⟨⟩⟩ := xs
  have hj : valN j < 2 ^ 256 := lt4 (xs := j) ⟨h.1.1, fun _ _ => trivial⟩
  have hk : valN k < 2 ^ 256 := lt4 (xs := k) ⟨h.2.1.1, fun _ _ => trivial⟩
  refine PC_of_fw (t := []) shW_ok l4_ok mixed Try.func11 (c := Try.f11.body.getD .skip) rfl (by kernel_rfl) (by kernel_rfl) loopsNil rfl ?_
  have hw : valN (wordsN 8 (valN j * valN k)) = valN j * valN k := v8 (Nat.mul_lt_mul'' hj hk)
  rw [show (PUnit.unit : HL []) = () from rfl, fwLSwaps, hw]
  simp only [tf_wf]
  obtain ⟨f, f1, f2⟩ := ladder_f (tf (valN u))
  rw [f1 _ hj, f1 _ hk, f2 _ _ hj, f2 _ _ hk]
  refine nott_t (s := numS) (by rw [Nat.mul_comm]) (ifB_of (fun _ => ?_) (fun hc => ?_))
  · trivial
  · have hlt : valN j * valN k < 2 ^ 256 := by
      have e : teq numS (wordsN 4 (valN j * valN k / B256)) [0#64, 0#64, 0#64, 0#64] = true := by
        have hc : (!teq numS (wordsN 4 (valN j * valN k / B256)) [0#64, 0#64, 0#64, 0#64]) = false := hc
        generalize teq numS (wordsN 4 (valN j * valN k / B256)) [0#64, 0#64, 0#64, 0#64] = b at *
        cases b
        · exact absurd hc (by decide)
        · rfl
      have hq : valN j * valN k / B256 < 2 ^ 256 := by
        rw [B256_eq]
        exact Nat.div_lt_of_lt_mul (Nat.mul_lt_mul'' hj hk)
      have e : wordsN 4 (valN j * valN k / B256) = [0#64, 0#64, 0#64, 0#64] := teq_iff.1 e
      have e := congrArg valN e
      rw [v4 hq, nought_w', B256_eq] at e
      exact (Nat.div_eq_zero_iff.1 e).resolve_left (by decide)
    rw [v4 hlt, f1 _ hlt]
    exact pbool (teq_of rfl)
theorem fwLLow (k : Sh.T (numS)) (u : Sh.T (numS)) (P : SV → Prop) : FW L4 Try.f12.ntmps (LTab.look []) Try.f12 (argsOf [numS, numS] (k, u, ())) P =
 (  ifB
    (teq (Sh.arr 4 (Sh.int IntKind.u64)) (wf (Edw.ladv kF ivF (tf (valN u)) (valN k)))
      (wf (Edw.ladv kF ivF (tf (valN (wordsN 4 (valN u % PP)))) (valN k))))
    (ifB
      (teq (Sh.arr 4 (Sh.int IntKind.u64)) (wf (Edw.ladv kF ivF (tf (valN [0#64, 0#64, 0#64, 0#64])) (valN k)))
        [0#64, 0#64, 0#64, 0#64])
      (ifB
        (teq (Sh.arr 4 (Sh.int IntKind.u64)) (wf (Edw.ladv kF ivF (tf (valN (wordsN 4 PP))) (valN k)))
          [0#64, 0#64, 0#64, 0#64])
        (ifB
          (teq (Sh.arr 4 (Sh.int IntKind.u64)) (wf (Edw.ladv kF ivF (tf (valN u)) (valN [0#64, 0#64, 0#64, 0#64])))
            [0#64, 0#64, 0#64, 0#64])
          (P
            (SV.av
              (AV.val Sh.bool
                (teq (Sh.arr 4 (Sh.int IntKind.u64)) (wf (Edw.ladv kF ivF (tf (valN u)) (valN [1#64, 0#64, 0#64, 0#64])))
                  (wordsN 4 (valN u % PP))))))
          (P (SV.av (AV.val Sh.bool false))))
        (P (SV.av (AV.val Sh.bool false))))
      (P (SV.av (AV.val Sh.bool false))))
    (P (SV.av (AV.val Sh.bool false)))) := by kernel_rfl
theorem walkLLow (xs : HL [numS, numS]) (h : okHL [numS, numS] xs) : PC (bx Try.prog noGl) 12 (argsOf [numS, numS] xs) (.av (.val .bool true)) := by
  obtain ⟨k, u, ⟨⟩⟩ := xs
  refine PC_of_fw (t := []) shW_ok l4_ok mixed Try.func12 (c := Try.f12.body.getD .skip) rfl (by kernel_rfl) (by kernel_rfl) loopsNil rfl ?_
  rw [show (PUnit.unit : HL []) = () from rfl, fwLLow, vp, tf_mod, PP_val, tf_z (Nat.mod_self PP), nought_w', one_w', (ladder_01 _).1, (ladder_01 _).2, tf_zero, ladder_0, wf_nought]
  refine step_t (s := numS) rfl (step_t (s := numS) rfl (step_t (s := numS) rfl (step_t (s := numS) rfl (pbool (teq_of (s := numS) ?_)))))
  rfl
end Go.Proofs.Ytmekcdapbpioaaa
