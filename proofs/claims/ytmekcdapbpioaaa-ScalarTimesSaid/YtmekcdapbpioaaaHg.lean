import Derived.Test.YtmekcdapbpioaaaHf
namespace Go.Proofs.Ytmekcdapbpioaaa
open Go.Ty

theorem no_t {s : Sh} {x y : s.T} {p f : Prop} (h : x = y) (hp : p) : ifB (!teq s x y) f p := ifB_of (fun h' => absurd (teq_of h) (by intro e; rw [e] at h'; exact absurd h' (by decide))) (fun _ => hp)
theorem one_w : valN [1#64, 0#64, 0#64, 0#64] = 1 := rfl
theorem nought_w : valN [0#64, 0#64, 0#64, 0#64] = 0 := rfl
theorem mul_on {X : FF × FF} (h : Go.Edw.On dF X) (n : Nat) : onP (wf (Go.Edw.mul dF ivF n X).1, wf (Go.Edw.mul dF ivF n X).2, ()) = true := onP_w (crv.mul_on h n)
theorem fwSums (m : Sh.T (numS)) (n : Sh.T (numS)) (p : Sh.T (ptS)) (q : Sh.T (ptS)) (P : SV → Prop) : FW S6 Try.f6.ntmps (LTab.look []) Try.f6 (argsOf [numS, numS, ptS, ptS] (m, n, p, q, ())) P =
 (  ifB (!onN (valN p.1) (valN p.2.1)) (P (SV.av (AV.val Sh.bool true)))
    (ifB (!onN (valN q.1) (valN q.2.1)) (P (SV.av (AV.val Sh.bool true)))
      (ifB (decide (BitVec.ofNat 64 ((valN m + valN n) / B256) = 0#64))
        (ifB
          (!teq ((Sh.arr 4 (Sh.int IntKind.u64)).pair ((Sh.arr 4 (Sh.int IntKind.u64)).pair Sh.unit))
              (wb (onP p) (tmP (wordsN 4 (valN m + valN n)) p).1, wb (onP p) (tmP (wordsN 4 (valN m + valN n)) p).2,
                PUnit.unit)
              (wb
                  (onP (wb (onP p) (tmP m p).1, wb (onP p) (tmP m p).2, PUnit.unit) &&
                    onP (wb (onP p) (tmP n p).1, wb (onP p) (tmP n p).2, PUnit.unit))
                  (sumP (wb (onP p) (tmP m p).1, wb (onP p) (tmP m p).2, PUnit.unit)
                      (wb (onP p) (tmP n p).1, wb (onP p) (tmP n p).2, PUnit.unit)).1,
                wb
                  (onP (wb (onP p) (tmP m p).1, wb (onP p) (tmP m p).2, PUnit.unit) &&
                    onP (wb (onP p) (tmP n p).1, wb (onP p) (tmP n p).2, PUnit.unit))
                  (sumP (wb (onP p) (tmP m p).1, wb (onP p) (tmP m p).2, PUnit.unit)
                      (wb (onP p) (tmP n p).1, wb (onP p) (tmP n p).2, PUnit.unit)).2,
                PUnit.unit))
          (P (SV.av (AV.val Sh.bool false)))
          (ifB
            (teq ((Sh.arr 4 (Sh.int IntKind.u64)).pair ((Sh.arr 4 (Sh.int IntKind.u64)).pair Sh.unit))
              (wb (onP (wb (onP p && onP q) (sumP p q).1, wb (onP p && onP q) (sumP p q).2, PUnit.unit))
                  (tmP n (wb (onP p && onP q) (sumP p q).1, wb (onP p && onP q) (sumP p q).2, PUnit.unit)).1,
                wb (onP (wb (onP p && onP q) (sumP p q).1, wb (onP p && onP q) (sumP p q).2, PUnit.unit))
                  (tmP n (wb (onP p && onP q) (sumP p q).1, wb (onP p && onP q) (sumP p q).2, PUnit.unit)).2,
                PUnit.unit)
              (wb
                  (onP (wb (onP p) (tmP n p).1, wb (onP p) (tmP n p).2, PUnit.unit) &&
                    onP (wb (onP q) (tmP n q).1, wb (onP q) (tmP n q).2, PUnit.unit))
                  (sumP (wb (onP p) (tmP n p).1, wb (onP p) (tmP n p).2, PUnit.unit)
                      (wb (onP q) (tmP n q).1, wb (onP q) (tmP n q).2, PUnit.unit)).1,
                wb
                  (onP (wb (onP p) (tmP n p).1, wb (onP p) (tmP n p).2, PUnit.unit) &&
                    onP (wb (onP q) (tmP n q).1, wb (onP q) (tmP n q).2, PUnit.unit))
                  (sumP (wb (onP p) (tmP n p).1, wb (onP p) (tmP n p).2, PUnit.unit)
                      (wb (onP q) (tmP n q).1, wb (onP q) (tmP n q).2, PUnit.unit)).2,
                PUnit.unit))
            (ifB
              (teq ((Sh.arr 4 (Sh.int IntKind.u64)).pair ((Sh.arr 4 (Sh.int IntKind.u64)).pair Sh.unit))
                (wb (onP p) (tmP [1#64, 0#64, 0#64, 0#64] p).1, wb (onP p) (tmP [1#64, 0#64, 0#64, 0#64] p).2, PUnit.unit)
                p)
              (P
                (SV.av
                  (AV.val Sh.bool
                    (teq ((Sh.arr 4 (Sh.int IntKind.u64)).pair ((Sh.arr 4 (Sh.int IntKind.u64)).pair Sh.unit))
                      (wb (onP p) (tmP [0#64, 0#64, 0#64, 0#64] p).1, wb (onP p) (tmP [0#64, 0#64, 0#64, 0#64] p).2,
                        PUnit.unit)
                      (wordsN 4 0, wordsN 4 1, PUnit.unit)))))
              (P (SV.av (AV.val Sh.bool false))))
            (P (SV.av (AV.val Sh.bool false)))))
        (ifB
          (teq ((Sh.arr 4 (Sh.int IntKind.u64)).pair ((Sh.arr 4 (Sh.int IntKind.u64)).pair Sh.unit))
            (wb (onP (wb (onP p && onP q) (sumP p q).1, wb (onP p && onP q) (sumP p q).2, PUnit.unit))
                (tmP n (wb (onP p && onP q) (sumP p q).1, wb (onP p && onP q) (sumP p q).2, PUnit.unit)).1,
              wb (onP (wb (onP p && onP q) (sumP p q).1, wb (onP p && onP q) (sumP p q).2, PUnit.unit))
                (tmP n (wb (onP p && onP q) (sumP p q).1, wb (onP p && onP q) (sumP p q).2, PUnit.unit)).2,
              PUnit.unit)
            (wb
                (onP (wb (onP p) (tmP n p).1, wb (onP p) (tmP n p).2, PUnit.unit) &&
                  onP (wb (onP q) (tmP n q).1, wb (onP q) (tmP n q).2, PUnit.unit))
                (sumP (wb (onP p) (tmP n p).1, wb (onP p) (tmP n p).2, PUnit.unit)
                    (wb (onP q) (tmP n q).1, wb (onP q) (tmP n q).2, PUnit.unit)).1,
              wb
                (onP (wb (onP p) (tmP n p).1, wb (onP p) (tmP n p).2, PUnit.unit) &&
                  onP (wb (onP q) (tmP n q).1, wb (onP q) (tmP n q).2, PUnit.unit))
                (sumP (wb (onP p) (tmP n p).1, wb (onP p) (tmP n p).2, PUnit.unit)
                    (wb (onP q) (tmP n q).1, wb (onP q) (tmP n q).2, PUnit.unit)).2,
              PUnit.unit))
          (ifB
            (teq ((Sh.arr 4 (Sh.int IntKind.u64)).pair ((Sh.arr 4 (Sh.int IntKind.u64)).pair Sh.unit))
              (wb (onP p) (tmP [1#64, 0#64, 0#64, 0#64] p).1, wb (onP p) (tmP [1#64, 0#64, 0#64, 0#64] p).2, PUnit.unit)
              p)
            (P
              (SV.av
                (AV.val Sh.bool
                  (teq ((Sh.arr 4 (Sh.int IntKind.u64)).pair ((Sh.arr 4 (Sh.int IntKind.u64)).pair Sh.unit))
                    (wb (onP p) (tmP [0#64, 0#64, 0#64, 0#64] p).1, wb (onP p) (tmP [0#64, 0#64, 0#64, 0#64] p).2,
                      PUnit.unit)
                    (wordsN 4 0, wordsN 4 1, PUnit.unit)))))
            (P (SV.av (AV.val Sh.bool false))))
          (P (SV.av (AV.val Sh.bool false))))))) := by kernel_rfl
theorem walkSums (xs : HL [numS, numS, ptS, ptS]) (h : okHL [numS, numS, ptS, ptS] xs) : PC (bx Try.prog noGl) 6 (argsOf [numS, numS, ptS, ptS] xs) (.av (.val .bool true)) := by
  obtain ⟨m, n, p, q, ⟨⟩⟩ := xs
  have hm : valN m < 2 ^ 256 := lt4 (xs := m) ⟨h.1.1, fun _ _ => trivial⟩
  have hn : valN n < 2 ^ 256 := lt4 (xs := n) ⟨h.2.1.1, fun _ _ => trivial⟩
  have wp : ptS.wfT p := ⟨⟨h.2.2.1.1.1, fun _ _ => trivial⟩, ⟨h.2.2.1.2.1.1, fun _ _ => trivial⟩, trivial⟩
  refine PC_of_fw (t := []) shV_ok s6_ok mixed Try.func6 (c := Try.f6.body.getD .skip) rfl (by kernel_rfl) (by kernel_rfl) loopsNil rfl ?_
  rw [show (PUnit.unit : HL []) = () from rfl, fwSums]
  rw [show onN (valN p.1) (valN p.2.1) = onP p from rfl, show onN (valN q.1) (valN q.2.1) = onP q from rfl]
  cases h1 : onP p
  · exact ifB_of (fun _ => rfl) (fun h => absurd h (by decide))
  · refine ifB_of (fun h => absurd h (by decide)) (fun _ => ?_)
    cases h2 : onP q
    · exact ifB_of (fun _ => rfl) (fun h => absurd h (by decide))
    · refine ifB_of (fun h => absurd h (by decide)) (fun _ => ?_)
      have c1 := onP_on h1
      have c2 := onP_on h2
      have t1 : ∀ k : List (BitVec 64), onP (wf (tmP k p).1, wf (tmP k p).2, ()) = true := fun k => onP_w (tm_on h1)
      have t2 : ∀ k : List (BitVec 64), onP (wf (tmP k q).1, wf (tmP k q).2, ()) = true := fun k => onP_w (tm_on h2)
      have k1 : sumP (wf (tmP m p).1, wf (tmP m p).2, ()) (wf (tmP n p).1, wf (tmP n p).2, ()) = Go.Edw.add dF ivF (tmP m p) (tmP n p) := by rw [sumP_l, toP_w]
      have k2 : sumP (wf (tmP n p).1, wf (tmP n p).2, ()) (wf (tmP n q).1, wf (tmP n q).2, ()) = Go.Edw.add dF ivF (tmP n p) (tmP n q) := by rw [sumP_l, toP_w]
      have k3 : tmP n (wf (sumP p q).1, wf (sumP p q).2, ()) = Go.Edw.mul dF ivF (valN n) (sumP p q) := tmP_w _ _
      simp only [Bool.and_true, wb_true, onP_w (sum_on h1 h2), t1, t2, k1, k2, k3]
      have e2 : Go.Edw.mul dF ivF (valN n) (sumP p q) = Go.Edw.add dF ivF (tmP n p) (tmP n q) := crv.mul_sum c1 c2 (valN n)
      have e3 : tmP [1#64, 0#64, 0#64, 0#64] p = toP p := by unfold tmP; rw [one_w, crv.mul_one]
      have e4 : tmP [0#64, 0#64, 0#64, 0#64] p = (0, 1) := rfl
      have tail : ∀ P : Prop, P → ifB (teq ptS (wf (Go.Edw.mul dF ivF (valN n) (sumP p q)).1, wf (Go.Edw.mul dF ivF (valN n) (sumP p q)).2, ()) (wf (Go.Edw.add dF ivF (tmP n p) (tmP n q)).1, wf (Go.Edw.add dF ivF (tmP n p) (tmP n q)).2, ())) P (SV.av (AV.val Sh.bool false) = SV.av (AV.val Sh.bool true)) := fun P hP => by rw [e2]; exact step_t (s := ptS) rfl hP
      have fin : ifB (teq ptS (wf (tmP [1#64, 0#64, 0#64, 0#64] p).1, wf (tmP [1#64, 0#64, 0#64, 0#64] p).2, ()) p) (SV.av (AV.val Sh.bool (teq ptS (wf (tmP [0#64, 0#64, 0#64, 0#64] p).1, wf (tmP [0#64, 0#64, 0#64, 0#64] p).2, ()) (wordsN 4 0, wordsN 4 1, ()))) = SV.av (AV.val Sh.bool true)) (SV.av (AV.val Sh.bool false) = SV.av (AV.val Sh.bool true)) := by
        rw [e3, e4, zero_w]
        exact step_t (s := ptS) (wf_toP wp h1).symm (pbool (teq_of rfl))
      refine ifB_of (fun hc => ?_) (fun _ => tail _ fin)
      have hlt : valN m + valN n < 2 ^ 256 := by
        have := congrArg BitVec.toNat (of_decide_eq_true hc)
        rw [BitVec.toNat_ofNat, show (0#64).toNat = 0 from rfl, B256_eq] at this
        omega
      refine no_t (s := ptS) ?_ (tail _ fin)
      have e1 : tmP (wordsN 4 (valN m + valN n)) p = Go.Edw.add dF ivF (tmP m p) (tmP n p) := by
        unfold tmP
        rw [v4 hlt, crv.mul_add c1]
      rw [e1]
theorem fwProds (m : Sh.T (numS)) (n : Sh.T (numS)) (p : Sh.T (ptS)) (P : SV → Prop) : FW S6 Try.f7.ntmps (LTab.look []) Try.f7 (argsOf [numS, numS, ptS] (m, n, p, ())) P =
 (  ifB (!onN (valN p.1) (valN p.2.1)) (P (SV.av (AV.val Sh.bool true)))
    (ifB
      (!teq (Sh.arr 4 (Sh.int IntKind.u64)) (wordsN 4 (valN (wordsN 8 (valN m * valN n)) / B256))
          [0#64, 0#64, 0#64, 0#64])
      (P (SV.av (AV.val Sh.bool true)))
      (P
        (SV.av
          (AV.val Sh.bool
            (teq ((Sh.arr 4 (Sh.int IntKind.u64)).pair ((Sh.arr 4 (Sh.int IntKind.u64)).pair Sh.unit))
              (wb (onP (wb (onP p) (tmP n p).1, wb (onP p) (tmP n p).2, PUnit.unit))
                  (tmP m (wb (onP p) (tmP n p).1, wb (onP p) (tmP n p).2, PUnit.unit)).1,
                wb (onP (wb (onP p) (tmP n p).1, wb (onP p) (tmP n p).2, PUnit.unit))
                  (tmP m (wb (onP p) (tmP n p).1, wb (onP p) (tmP n p).2, PUnit.unit)).2,
                PUnit.unit)
              (wb (onP p) (tmP (wordsN 4 (valN (wordsN 8 (valN m * valN n)))) p).1,
                wb (onP p) (tmP (wordsN 4 (valN (wordsN 8 (valN m * valN n)))) p).2, PUnit.unit))))))) := by kernel_rfl
theorem walkProds (xs : HL [numS, numS, ptS]) (h : okHL [numS, numS, ptS] xs) : PC (bx Try.prog noGl) 7 (argsOf [numS, numS, ptS] xs) (.av (.val .bool true)) := by
  obtain ⟨m, n, p, ⟨⟩⟩ := xs
  have hm : valN m < 2 ^ 256 := lt4 (xs := m) ⟨h.1.1, fun _ _ => trivial⟩
  have hn : valN n < 2 ^ 256 := lt4 (xs := n) ⟨h.2.1.1, fun _ _ => trivial⟩
  refine PC_of_fw (t := []) shV_ok s6_ok mixed Try.func7 (c := Try.f7.body.getD .skip) rfl (by kernel_rfl) (by kernel_rfl) loopsNil rfl ?_
  rw [show (PUnit.unit : HL []) = () from rfl, fwProds]
  rw [show onN (valN p.1) (valN p.2.1) = onP p from rfl]
  cases h1 : onP p
  · exact ifB_of (fun _ => rfl) (fun h => absurd h (by decide))
  · refine ifB_of (fun h => absurd h (by decide)) (fun _ => ?_)
    have c1 := onP_on h1
    have hw : valN (wordsN 8 (valN m * valN n)) = valN m * valN n := v8 (Nat.mul_lt_mul'' hm hn)
    rw [hw]
    refine ifB_of (fun _ => rfl) (fun hc => ?_)
    have hlt : valN m * valN n < 2 ^ 256 := by
      have e : teq numS (wordsN 4 (valN m * valN n / B256)) [0#64, 0#64, 0#64, 0#64] = true := by
        have hc : (!teq numS (wordsN 4 (valN m * valN n / B256)) [0#64, 0#64, 0#64, 0#64]) = false := hc
        generalize teq numS (wordsN 4 (valN m * valN n / B256)) [0#64, 0#64, 0#64, 0#64] = b at *
        cases b
        · exact absurd hc (by decide)
        · rfl
      have hq : valN m * valN n / B256 < 2 ^ 256 := by
        rw [B256_eq]
        exact Nat.div_lt_of_lt_mul (Nat.mul_lt_mul'' hm hn)
      have e : wordsN 4 (valN m * valN n / B256) = [0#64, 0#64, 0#64, 0#64] := teq_iff.1 e
      have e := congrArg valN e
      rw [v4 hq, nought_w, B256_eq] at e
      exact (Nat.div_eq_zero_iff.1 e).resolve_left (by decide)
    have e1 : tmP m (wf (tmP n p).1, wf (tmP n p).2, ()) = tmP (wordsN 4 (valN m * valN n)) p := by
      rw [tmP_w]; unfold tmP; rw [v4 hlt, crv.mul_mul c1]
    refine pbool (teq_of (s := ptS) ?_)
    show (wb (onP (wf (tmP n p).1, wf (tmP n p).2, ())) (tmP m (wf (tmP n p).1, wf (tmP n p).2, ())).1, wb (onP (wf (tmP n p).1, wf (tmP n p).2, ())) (tmP m (wf (tmP n p).1, wf (tmP n p).2, ())).2, ()) = (wf (tmP (wordsN 4 (valN m * valN n)) p).1, wf (tmP (wordsN 4 (valN m * valN n)) p).2, ())
    rw [onP_w (tm_on h1), e1]; rfl
theorem fwOrder (n : Sh.T (numS)) (p : Sh.T (ptS)) (P : SV → Prop) : FW S6 Try.f8.ntmps (LTab.look []) Try.f8 (argsOf [numS, ptS] (n, p, ())) P =
 (  ifB
    (!teq ((Sh.arr 4 (Sh.int IntKind.u64)).pair ((Sh.arr 4 (Sh.int IntKind.u64)).pair Sh.unit))
        (wb (onP (wordsN 4 BX, wordsN 4 BY, PUnit.unit)) (tmP (wordsN 4 LL) (wordsN 4 BX, wordsN 4 BY, PUnit.unit)).1,
          wb (onP (wordsN 4 BX, wordsN 4 BY, PUnit.unit)) (tmP (wordsN 4 LL) (wordsN 4 BX, wordsN 4 BY, PUnit.unit)).2,
          PUnit.unit)
        (wordsN 4 0, wordsN 4 1, PUnit.unit))
    (P (SV.av (AV.val Sh.bool false)))
    (ifB
      (!teq ((Sh.arr 4 (Sh.int IntKind.u64)).pair ((Sh.arr 4 (Sh.int IntKind.u64)).pair Sh.unit))
          (wb (onP (wordsN 4 BX, wordsN 4 BY, PUnit.unit)) (tmP n (wordsN 4 BX, wordsN 4 BY, PUnit.unit)).1,
            wb (onP (wordsN 4 BX, wordsN 4 BY, PUnit.unit)) (tmP n (wordsN 4 BX, wordsN 4 BY, PUnit.unit)).2, PUnit.unit)
          (wb (onP (wordsN 4 BX, wordsN 4 BY, PUnit.unit))
              (tmP (wordsN 4 (valN n % LL)) (wordsN 4 BX, wordsN 4 BY, PUnit.unit)).1,
            wb (onP (wordsN 4 BX, wordsN 4 BY, PUnit.unit))
              (tmP (wordsN 4 (valN n % LL)) (wordsN 4 BX, wordsN 4 BY, PUnit.unit)).2,
            PUnit.unit))
      (P (SV.av (AV.val Sh.bool false)))
      (ifB
        (!teq Sh.bool
            (teq ((Sh.arr 4 (Sh.int IntKind.u64)).pair ((Sh.arr 4 (Sh.int IntKind.u64)).pair Sh.unit))
              (wb (onP (wordsN 4 BX, wordsN 4 BY, PUnit.unit)) (tmP n (wordsN 4 BX, wordsN 4 BY, PUnit.unit)).1,
                wb (onP (wordsN 4 BX, wordsN 4 BY, PUnit.unit)) (tmP n (wordsN 4 BX, wordsN 4 BY, PUnit.unit)).2,
                PUnit.unit)
              (wordsN 4 0, wordsN 4 1, PUnit.unit))
            (teq (Sh.arr 4 (Sh.int IntKind.u64)) (wordsN 4 (valN n % LL)) [0#64, 0#64, 0#64, 0#64]))
        (P (SV.av (AV.val Sh.bool false)))
        (ifB (!onN (valN p.1) (valN p.2.1)) (P (SV.av (AV.val Sh.bool true)))
          (P
            (SV.av
              (AV.val Sh.bool
                (teq ((Sh.arr 4 (Sh.int IntKind.u64)).pair ((Sh.arr 4 (Sh.int IntKind.u64)).pair Sh.unit))
                  (wb
                      (onP
                        (wb (onP p) (tmP [8#64, 0#64, 0#64, 0#64] p).1, wb (onP p) (tmP [8#64, 0#64, 0#64, 0#64] p).2,
                          PUnit.unit))
                      (tmP (wordsN 4 LL)
                          (wb (onP p) (tmP [8#64, 0#64, 0#64, 0#64] p).1, wb (onP p) (tmP [8#64, 0#64, 0#64, 0#64] p).2,
                            PUnit.unit)).1,
                    wb
                      (onP
                        (wb (onP p) (tmP [8#64, 0#64, 0#64, 0#64] p).1, wb (onP p) (tmP [8#64, 0#64, 0#64, 0#64] p).2,
                          PUnit.unit))
                      (tmP (wordsN 4 LL)
                          (wb (onP p) (tmP [8#64, 0#64, 0#64, 0#64] p).1, wb (onP p) (tmP [8#64, 0#64, 0#64, 0#64] p).2,
                            PUnit.unit)).2,
                    PUnit.unit)
                  (wordsN 4 0, wordsN 4 1, PUnit.unit))))))))) := by kernel_rfl
theorem walkOrder (xs : HL [numS, ptS]) (h : okHL [numS, ptS] xs) : PC (bx Try.prog noGl) 8 (argsOf [numS, ptS] xs) (.av (.val .bool true)) := by
  obtain ⟨n, p, ⟨⟩⟩ := xs
  refine PC_of_fw (t := []) shV_ok s6_ok mixed Try.func8 (c := Try.f8.body.getD .skip) rfl (by kernel_rfl) (by kernel_rfl) loopsNil rfl ?_
  rw [show (PUnit.unit : HL []) = () from rfl, fwOrder, base_onP, base_w, zero_w]
  have k : ∀ n : List (BitVec 64), tmP n (wf bF.1, wf bF.2, ()) = Go.Edw.mul dF ivF (valN n) bF := fun n => tmP_w _ _
  simp only [wb_true, k, LL_val, vl']
  have e2 : Go.Edw.mul dF ivF (valN n % LL) bF = Go.Edw.mul dF ivF (valN n) bF := crv.mul_mod bF_on (valN n) base_ord
  rw [base_ord, e2]
  refine no_t (s := ptS) rfl (no_t (s := ptS) rfl ?_)
  refine no_t (s := .bool) ?_ ?_
  · have := teq_pt (Go.Edw.mul dF ivF (valN n) bF) (0, 1)
    refine this.trans ?_
    rw [teq_z (vll _)]
    exact decide_eq_decide.2 (base_iff (valN n))
  · rw [show onN (valN p.1) (valN p.2.1) = onP p from rfl]
    cases h1 : onP p
    · exact ifB_of (fun _ => trivial) (fun h => absurd h (by decide))
    · refine ifB_of (fun h => absurd h (by decide)) (fun _ => ?_)
      refine pbool (teq_of (s := ptS) ?_)
      show (wb (onP (wf (tmP [8#64, 0#64, 0#64, 0#64] p).1, wf (tmP [8#64, 0#64, 0#64, 0#64] p).2, ())) (tmP (wordsN 4 LL) (wf (tmP [8#64, 0#64, 0#64, 0#64] p).1, wf (tmP [8#64, 0#64, 0#64, 0#64] p).2, ())).1, wb (onP (wf (tmP [8#64, 0#64, 0#64, 0#64] p).1, wf (tmP [8#64, 0#64, 0#64, 0#64] p).2, ())) (tmP (wordsN 4 LL) (wf (tmP [8#64, 0#64, 0#64, 0#64] p).1, wf (tmP [8#64, 0#64, 0#64, 0#64] p).2, ())).2, ()) = _
      have e : tmP (wordsN 4 LL) (wf (tmP [8#64, 0#64, 0#64, 0#64] p).1, wf (tmP [8#64, 0#64, 0#64, 0#64] p).2, ()) = (0, 1) := by
        rw [tmP_w, LL_val]; unfold tmP
        rw [eight_w, crv.mul_mul (onP_on h1), Nat.mul_comm]
        exact order8 (onP_on h1)
      rw [onP_w (tm_on h1), e]; rfl
theorem fwSTimes (m : Sh.T (numS)) (n : Sh.T (numS)) (P : SV → Prop) : FW S6 Try.f9.ntmps (LTab.look []) Try.f9 (argsOf [numS, numS] (m, n, ())) P =
 (  ifB
    (teq ((Sh.arr 4 (Sh.int IntKind.u64)).pair ((Sh.arr 4 (Sh.int IntKind.u64)).pair Sh.unit))
      (wb (onP (wordsN 4 BX, wordsN 4 BY, PUnit.unit))
          (tmP (wordsN 4 (valN m * valN n % LL)) (wordsN 4 BX, wordsN 4 BY, PUnit.unit)).1,
        wb (onP (wordsN 4 BX, wordsN 4 BY, PUnit.unit))
          (tmP (wordsN 4 (valN m * valN n % LL)) (wordsN 4 BX, wordsN 4 BY, PUnit.unit)).2,
        PUnit.unit)
      (wb
          (onP
            (wb (onP (wordsN 4 BX, wordsN 4 BY, PUnit.unit)) (tmP n (wordsN 4 BX, wordsN 4 BY, PUnit.unit)).1,
              wb (onP (wordsN 4 BX, wordsN 4 BY, PUnit.unit)) (tmP n (wordsN 4 BX, wordsN 4 BY, PUnit.unit)).2,
              PUnit.unit))
          (tmP m
              (wb (onP (wordsN 4 BX, wordsN 4 BY, PUnit.unit)) (tmP n (wordsN 4 BX, wordsN 4 BY, PUnit.unit)).1,
                wb (onP (wordsN 4 BX, wordsN 4 BY, PUnit.unit)) (tmP n (wordsN 4 BX, wordsN 4 BY, PUnit.unit)).2,
                PUnit.unit)).1,
        wb
          (onP
            (wb (onP (wordsN 4 BX, wordsN 4 BY, PUnit.unit)) (tmP n (wordsN 4 BX, wordsN 4 BY, PUnit.unit)).1,
              wb (onP (wordsN 4 BX, wordsN 4 BY, PUnit.unit)) (tmP n (wordsN 4 BX, wordsN 4 BY, PUnit.unit)).2,
              PUnit.unit))
          (tmP m
              (wb (onP (wordsN 4 BX, wordsN 4 BY, PUnit.unit)) (tmP n (wordsN 4 BX, wordsN 4 BY, PUnit.unit)).1,
                wb (onP (wordsN 4 BX, wordsN 4 BY, PUnit.unit)) (tmP n (wordsN 4 BX, wordsN 4 BY, PUnit.unit)).2,
                PUnit.unit)).2,
        PUnit.unit))
    (ifB
      (teq ((Sh.arr 4 (Sh.int IntKind.u64)).pair ((Sh.arr 4 (Sh.int IntKind.u64)).pair Sh.unit))
        (wb (onP (wordsN 4 BX, wordsN 4 BY, PUnit.unit))
            (tmP (wordsN 4 ((valN m + valN n) % LL)) (wordsN 4 BX, wordsN 4 BY, PUnit.unit)).1,
          wb (onP (wordsN 4 BX, wordsN 4 BY, PUnit.unit))
            (tmP (wordsN 4 ((valN m + valN n) % LL)) (wordsN 4 BX, wordsN 4 BY, PUnit.unit)).2,
          PUnit.unit)
        (wb
            (onP
                (wb (onP (wordsN 4 BX, wordsN 4 BY, PUnit.unit)) (tmP m (wordsN 4 BX, wordsN 4 BY, PUnit.unit)).1,
                  wb (onP (wordsN 4 BX, wordsN 4 BY, PUnit.unit)) (tmP m (wordsN 4 BX, wordsN 4 BY, PUnit.unit)).2,
                  PUnit.unit) &&
              onP
                (wb (onP (wordsN 4 BX, wordsN 4 BY, PUnit.unit)) (tmP n (wordsN 4 BX, wordsN 4 BY, PUnit.unit)).1,
                  wb (onP (wordsN 4 BX, wordsN 4 BY, PUnit.unit)) (tmP n (wordsN 4 BX, wordsN 4 BY, PUnit.unit)).2,
                  PUnit.unit))
            (sumP
                (wb (onP (wordsN 4 BX, wordsN 4 BY, PUnit.unit)) (tmP m (wordsN 4 BX, wordsN 4 BY, PUnit.unit)).1,
                  wb (onP (wordsN 4 BX, wordsN 4 BY, PUnit.unit)) (tmP m (wordsN 4 BX, wordsN 4 BY, PUnit.unit)).2,
                  PUnit.unit)
                (wb (onP (wordsN 4 BX, wordsN 4 BY, PUnit.unit)) (tmP n (wordsN 4 BX, wordsN 4 BY, PUnit.unit)).1,
                  wb (onP (wordsN 4 BX, wordsN 4 BY, PUnit.unit)) (tmP n (wordsN 4 BX, wordsN 4 BY, PUnit.unit)).2,
                  PUnit.unit)).1,
          wb
            (onP
                (wb (onP (wordsN 4 BX, wordsN 4 BY, PUnit.unit)) (tmP m (wordsN 4 BX, wordsN 4 BY, PUnit.unit)).1,
                  wb (onP (wordsN 4 BX, wordsN 4 BY, PUnit.unit)) (tmP m (wordsN 4 BX, wordsN 4 BY, PUnit.unit)).2,
                  PUnit.unit) &&
              onP
                (wb (onP (wordsN 4 BX, wordsN 4 BY, PUnit.unit)) (tmP n (wordsN 4 BX, wordsN 4 BY, PUnit.unit)).1,
                  wb (onP (wordsN 4 BX, wordsN 4 BY, PUnit.unit)) (tmP n (wordsN 4 BX, wordsN 4 BY, PUnit.unit)).2,
                  PUnit.unit))
            (sumP
                (wb (onP (wordsN 4 BX, wordsN 4 BY, PUnit.unit)) (tmP m (wordsN 4 BX, wordsN 4 BY, PUnit.unit)).1,
                  wb (onP (wordsN 4 BX, wordsN 4 BY, PUnit.unit)) (tmP m (wordsN 4 BX, wordsN 4 BY, PUnit.unit)).2,
                  PUnit.unit)
                (wb (onP (wordsN 4 BX, wordsN 4 BY, PUnit.unit)) (tmP n (wordsN 4 BX, wordsN 4 BY, PUnit.unit)).1,
                  wb (onP (wordsN 4 BX, wordsN 4 BY, PUnit.unit)) (tmP n (wordsN 4 BX, wordsN 4 BY, PUnit.unit)).2,
                  PUnit.unit)).2,
          PUnit.unit))
      (P
        (SV.av
          (AV.val Sh.bool
            (teq ((Sh.arr 4 (Sh.int IntKind.u64)).pair ((Sh.arr 4 (Sh.int IntKind.u64)).pair Sh.unit))
              (wb
                  (onP
                      (wb (onP (wordsN 4 BX, wordsN 4 BY, PUnit.unit))
                          (tmP (wordsN 4 ((LL - valN m % LL) % LL)) (wordsN 4 BX, wordsN 4 BY, PUnit.unit)).1,
                        wb (onP (wordsN 4 BX, wordsN 4 BY, PUnit.unit))
                          (tmP (wordsN 4 ((LL - valN m % LL) % LL)) (wordsN 4 BX, wordsN 4 BY, PUnit.unit)).2,
                        PUnit.unit) &&
                    onP
                      (wb (onP (wordsN 4 BX, wordsN 4 BY, PUnit.unit)) (tmP m (wordsN 4 BX, wordsN 4 BY, PUnit.unit)).1,
                        wb (onP (wordsN 4 BX, wordsN 4 BY, PUnit.unit)) (tmP m (wordsN 4 BX, wordsN 4 BY, PUnit.unit)).2,
                        PUnit.unit))
                  (sumP
                      (wb (onP (wordsN 4 BX, wordsN 4 BY, PUnit.unit))
                          (tmP (wordsN 4 ((LL - valN m % LL) % LL)) (wordsN 4 BX, wordsN 4 BY, PUnit.unit)).1,
                        wb (onP (wordsN 4 BX, wordsN 4 BY, PUnit.unit))
                          (tmP (wordsN 4 ((LL - valN m % LL) % LL)) (wordsN 4 BX, wordsN 4 BY, PUnit.unit)).2,
                        PUnit.unit)
                      (wb (onP (wordsN 4 BX, wordsN 4 BY, PUnit.unit)) (tmP m (wordsN 4 BX, wordsN 4 BY, PUnit.unit)).1,
                        wb (onP (wordsN 4 BX, wordsN 4 BY, PUnit.unit)) (tmP m (wordsN 4 BX, wordsN 4 BY, PUnit.unit)).2,
                        PUnit.unit)).1,
                wb
                  (onP
                      (wb (onP (wordsN 4 BX, wordsN 4 BY, PUnit.unit))
                          (tmP (wordsN 4 ((LL - valN m % LL) % LL)) (wordsN 4 BX, wordsN 4 BY, PUnit.unit)).1,
                        wb (onP (wordsN 4 BX, wordsN 4 BY, PUnit.unit))
                          (tmP (wordsN 4 ((LL - valN m % LL) % LL)) (wordsN 4 BX, wordsN 4 BY, PUnit.unit)).2,
                        PUnit.unit) &&
                    onP
                      (wb (onP (wordsN 4 BX, wordsN 4 BY, PUnit.unit)) (tmP m (wordsN 4 BX, wordsN 4 BY, PUnit.unit)).1,
                        wb (onP (wordsN 4 BX, wordsN 4 BY, PUnit.unit)) (tmP m (wordsN 4 BX, wordsN 4 BY, PUnit.unit)).2,
                        PUnit.unit))
                  (sumP
                      (wb (onP (wordsN 4 BX, wordsN 4 BY, PUnit.unit))
                          (tmP (wordsN 4 ((LL - valN m % LL) % LL)) (wordsN 4 BX, wordsN 4 BY, PUnit.unit)).1,
                        wb (onP (wordsN 4 BX, wordsN 4 BY, PUnit.unit))
                          (tmP (wordsN 4 ((LL - valN m % LL) % LL)) (wordsN 4 BX, wordsN 4 BY, PUnit.unit)).2,
                        PUnit.unit)
                      (wb (onP (wordsN 4 BX, wordsN 4 BY, PUnit.unit)) (tmP m (wordsN 4 BX, wordsN 4 BY, PUnit.unit)).1,
                        wb (onP (wordsN 4 BX, wordsN 4 BY, PUnit.unit)) (tmP m (wordsN 4 BX, wordsN 4 BY, PUnit.unit)).2,
                        PUnit.unit)).2,
                PUnit.unit)
              (wordsN 4 0, wordsN 4 1, PUnit.unit)))))
      (P (SV.av (AV.val Sh.bool false))))
    (P (SV.av (AV.val Sh.bool false)))) := by kernel_rfl
theorem walkSTimes (xs : HL [numS, numS]) (h : okHL [numS, numS] xs) : PC (bx Try.prog noGl) 9 (argsOf [numS, numS] xs) (.av (.val .bool true)) := by
  obtain ⟨m, n, ⟨⟩⟩ := xs
  refine PC_of_fw (t := []) shV_ok s6_ok mixed Try.func9 (c := Try.f9.body.getD .skip) rfl (by kernel_rfl) (by kernel_rfl) loopsNil rfl ?_
  rw [show (PUnit.unit : HL []) = () from rfl, fwSTimes, base_onP, base_w, zero_w]
  have o : ∀ k, Go.Edw.mul dF ivF (k % LL) bF = Go.Edw.mul dF ivF k bF := fun k => crv.mul_mod bF_on k base_ord
  have k : ∀ n : List (BitVec 64), tmP n (wf bF.1, wf bF.2, ()) = Go.Edw.mul dF ivF (valN n) bF := fun n => tmP_w _ _
  have k2 : ∀ m n : List (BitVec 64), tmP m (wf (tmP n (wf bF.1, wf bF.2, ())).1, wf (tmP n (wf bF.1, wf bF.2, ())).2, ()) = Go.Edw.mul dF ivF (valN m) (Go.Edw.mul dF ivF (valN n) bF) := fun m n => by rw [tmP_w, k]
  have k3 : ∀ m n : List (BitVec 64), sumP (wf (tmP m (wf bF.1, wf bF.2, ())).1, wf (tmP m (wf bF.1, wf bF.2, ())).2, ()) (wf (tmP n (wf bF.1, wf bF.2, ())).1, wf (tmP n (wf bF.1, wf bF.2, ())).2, ()) = Go.Edw.add dF ivF (Go.Edw.mul dF ivF (valN m) bF) (Go.Edw.mul dF ivF (valN n) bF) := fun m n => by rw [sumP_l, toP_w, k, k]
  simp only [wb_true]
  rw [k2, k3, k3]
  simp only [k, vl', o]
  refine step_t (s := ptS) ?_ (step_t (s := ptS) ?_ (pbool (teq_of (s := ptS) ?_)))
  · rw [crv.mul_mul bF_on, mul_on bF_on]; rfl
  · rw [crv.mul_add bF_on, mul_on bF_on, mul_on bF_on]; rfl
  · have e : Go.Edw.add dF ivF (Go.Edw.mul dF ivF (LL - valN m % LL) bF) (Go.Edw.mul dF ivF (valN m) bF) = (0, 1) := by
      rw [← o (valN m), ← crv.mul_add bF_on, Nat.sub_add_cancel (Nat.le_of_lt (Nat.mod_lt _ LL_pos)), base_ord]
    rw [mul_on bF_on, mul_on bF_on, e]; rfl
end Go.Proofs.Ytmekcdapbpioaaa
