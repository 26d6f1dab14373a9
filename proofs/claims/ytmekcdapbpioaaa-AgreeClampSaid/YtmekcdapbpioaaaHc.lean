import Derived.Test.YtmekcdapbpioaaaHb
namespace Go.Proofs.Ytmekcdapbpioaaa
open Go.Ty

/-! ## Add -/
theorem fwAdd (p : Sh.T (ptS)) (q : Sh.T (ptS)) (P : SV → Prop) : FW G6 Try.f64.ntmps (LTab.look []) Try.f64 (argsOf [ptS, ptS] (p, q, ())) P =
 (  ifB (!onN (valN p.1) (valN p.2.1))
    (P
      (SV.tup
        [AV.val ((Sh.arr 4 (Sh.int IntKind.u64)).pair ((Sh.arr 4 (Sh.int IntKind.u64)).pair Sh.unit))
            ([0#64, 0#64, 0#64, 0#64], [0#64, 0#64, 0#64, 0#64], PUnit.unit),
          AV.val (Sh.int IntKind.i64) 1]))
    (ifB (!onN (valN q.1) (valN q.2.1))
      (P
        (SV.tup
          [AV.val ((Sh.arr 4 (Sh.int IntKind.u64)).pair ((Sh.arr 4 (Sh.int IntKind.u64)).pair Sh.unit))
              ([0#64, 0#64, 0#64, 0#64], [0#64, 0#64, 0#64, 0#64], PUnit.unit),
            AV.val (Sh.int IntKind.i64) 1]))
      (P
        (SV.tup
          [AV.val ((Sh.arr 4 (Sh.int IntKind.u64)).pair ((Sh.arr 4 (Sh.int IntKind.u64)).pair Sh.unit))
              (wf
                  (Edw.qpoint ivF
                      (toQ
                        (wf
                            (Edw.qplus dF
                                (toQ (p.1, p.2.1, wordsN 4 1, wordsN 4 (valN p.1 * valN p.2.1 % PP), PUnit.unit))
                                (toQ (q.1, q.2.1, wordsN 4 1, wordsN 4 (valN q.1 * valN q.2.1 % PP), PUnit.unit))).1,
                          wf
                            (Edw.qplus dF
                                  (toQ (p.1, p.2.1, wordsN 4 1, wordsN 4 (valN p.1 * valN p.2.1 % PP), PUnit.unit))
                                  (toQ (q.1, q.2.1, wordsN 4 1, wordsN 4 (valN q.1 * valN q.2.1 % PP), PUnit.unit))).2.1,
                          wf
                            (Edw.qplus dF
                                    (toQ (p.1, p.2.1, wordsN 4 1, wordsN 4 (valN p.1 * valN p.2.1 % PP), PUnit.unit))
                                    (toQ
                                      (q.1, q.2.1, wordsN 4 1, wordsN 4 (valN q.1 * valN q.2.1 % PP), PUnit.unit))).2.2.1,
                          wf
                            (Edw.qplus dF
                                    (toQ (p.1, p.2.1, wordsN 4 1, wordsN 4 (valN p.1 * valN p.2.1 % PP), PUnit.unit))
                                    (toQ
                                      (q.1, q.2.1, wordsN 4 1, wordsN 4 (valN q.1 * valN q.2.1 % PP), PUnit.unit))).2.2.2,
                          PUnit.unit))).1,
                wf
                  (Edw.qpoint ivF
                      (toQ
                        (wf
                            (Edw.qplus dF
                                (toQ (p.1, p.2.1, wordsN 4 1, wordsN 4 (valN p.1 * valN p.2.1 % PP), PUnit.unit))
                                (toQ (q.1, q.2.1, wordsN 4 1, wordsN 4 (valN q.1 * valN q.2.1 % PP), PUnit.unit))).1,
                          wf
                            (Edw.qplus dF
                                  (toQ (p.1, p.2.1, wordsN 4 1, wordsN 4 (valN p.1 * valN p.2.1 % PP), PUnit.unit))
                                  (toQ (q.1, q.2.1, wordsN 4 1, wordsN 4 (valN q.1 * valN q.2.1 % PP), PUnit.unit))).2.1,
                          wf
                            (Edw.qplus dF
                                    (toQ (p.1, p.2.1, wordsN 4 1, wordsN 4 (valN p.1 * valN p.2.1 % PP), PUnit.unit))
                                    (toQ
                                      (q.1, q.2.1, wordsN 4 1, wordsN 4 (valN q.1 * valN q.2.1 % PP), PUnit.unit))).2.2.1,
                          wf
                            (Edw.qplus dF
                                    (toQ (p.1, p.2.1, wordsN 4 1, wordsN 4 (valN p.1 * valN p.2.1 % PP), PUnit.unit))
                                    (toQ
                                      (q.1, q.2.1, wordsN 4 1, wordsN 4 (valN q.1 * valN q.2.1 % PP), PUnit.unit))).2.2.2,
                          PUnit.unit))).2,
                PUnit.unit),
            AV.val (Sh.int IntKind.i64) 0])))) := by kernel_rfl
theorem cAdd_ok : COK Try.prog noGl 64 (conT [ptS, ptS] cAddF) := by
  refine conT_ok (fun xs hw => ?_) (fun xs => rfl)
  obtain ⟨p, q, ⟨⟩⟩ := xs
  refine PC_of_fw (t := []) shV_ok g6_ok mixed Try.func64 (c := Try.f64.body.getD .skip) rfl (by kernel_rfl) (by kernel_rfl) loopsNil rfl ?_
  have eF : cAddF (p, q, PUnit.unit) = .tup [.val ptS (wb (onP p && onP q) (sumP p q).1, wb (onP p && onP q) (sumP p q).2, ()), .val i64S (errB (onP p && onP q) 1)] := rfl
  rw [show (PUnit.unit : HL []) = () from rfl, fwAdd, eF]
  rw [show onN (valN p.1) (valN p.2.1) = onP p from rfl, show onN (valN q.1) (valN q.2.1) = onP q from rfl]
  cases h1 : onP p
  · refine ifB_of (fun _ => ?_) (fun h => absurd h (by decide))
    show _ = SV.tup [.val ptS (wordsN 4 0, wordsN 4 0, ()), .val i64S 1]
    rw [w0_eq]
  · refine ifB_of (fun h => absurd h (by decide)) (fun _ => ?_)
    cases h2 : onP q
    · refine ifB_of (fun _ => ?_) (fun h => absurd h (by decide))
      show _ = SV.tup [.val ptS (wordsN 4 0, wordsN 4 0, ()), .val i64S 1]
      rw [w0_eq]
    · refine ifB_of (fun h => absurd h (by decide)) (fun _ => ?_)
      have e := crv.rep_point (crv.rep_plus (toQ_of p) (toQ_of q) (onP_on h1) (onP_on h2))
      have e2 := toQ_wf (Go.Edw.qplus dF (toQ (p.1, p.2.1, wordsN 4 1, wordsN 4 (valN p.1 * valN p.2.1 % PP), ())) (toQ (q.1, q.2.1, wordsN 4 1, wordsN 4 (valN q.1 * valN q.2.1 % PP), ())))
      rw [e2, e]; rfl

/-! ## Times -/
abbrev Itt : List It := [.p 2 2000 numS, .p 4 2001 ptS, .p 6 2002 quS, .p 7 2003 quS, .v 8 i64S]
abbrev out_ : List (Nat × List It) := [(0, [.p 4 2001 ptS, .p 6 2002 quS])]
noncomputable def bt : Code := Try.f63.body.getD .skip
/-- what the loop does: from Zero, and the point, the quad of so many of it -/
noncomputable def Qt : LQ Itt [] out_ := fun x _ Kx => (numS.wfT x.1 ∧ Go.Edw.Rep (toQ x.2.2.1) (0, 1) ∧ x.2.2.2.2.1 = IntKind.i64.wrap (((blen (valN x.1) : Nat) : Int) - 1)) ∧
  ∃ P, (Go.Edw.On dF P ∧ Go.Edw.Rep (toQ x.2.2.2.1) P) ∧ ∀ y, Go.Edw.Rep (toQ y) (Go.Edw.mul dF ivF (valN x.1) P) → Kx.1 (x.2.1, y, ())
noncomputable abbrev Lt : LTab := [(5, ptL Itt [] out_ Qt)]
theorem roundt (n : List (BitVec 64)) (o : Sh.T ptS) (a q : Sh.T quS) (i : Int) (Kn : HI Itt → Prop) (Kr : HI [] → Prop) (Kx : HP out_) : roundT (W G6 Try.f63.ntmps (LTab.look Lt) (bodyAt bt 5)) Itt [] out_ (n, o, a, q, i, ()) Kn Kr Kx =
 (  ifB (decide (0 ≤ i))
    (ifB (decide (bitB (valN n) i = 1#64))
      (Kn
        (n, o,
          (wf
              (Edw.qplus dF
                  (toQ
                    (wf (Edw.qplus dF (toQ a) (toQ a)).1, wf (Edw.qplus dF (toQ a) (toQ a)).2.1,
                      wf (Edw.qplus dF (toQ a) (toQ a)).2.2.1, wf (Edw.qplus dF (toQ a) (toQ a)).2.2.2, PUnit.unit))
                  (toQ q)).1,
            wf
              (Edw.qplus dF
                    (toQ
                      (wf (Edw.qplus dF (toQ a) (toQ a)).1, wf (Edw.qplus dF (toQ a) (toQ a)).2.1,
                        wf (Edw.qplus dF (toQ a) (toQ a)).2.2.1, wf (Edw.qplus dF (toQ a) (toQ a)).2.2.2, PUnit.unit))
                    (toQ q)).2.1,
            wf
              (Edw.qplus dF
                      (toQ
                        (wf (Edw.qplus dF (toQ a) (toQ a)).1, wf (Edw.qplus dF (toQ a) (toQ a)).2.1,
                          wf (Edw.qplus dF (toQ a) (toQ a)).2.2.1, wf (Edw.qplus dF (toQ a) (toQ a)).2.2.2, PUnit.unit))
                      (toQ q)).2.2.1,
            wf
              (Edw.qplus dF
                      (toQ
                        (wf (Edw.qplus dF (toQ a) (toQ a)).1, wf (Edw.qplus dF (toQ a) (toQ a)).2.1,
                          wf (Edw.qplus dF (toQ a) (toQ a)).2.2.1, wf (Edw.qplus dF (toQ a) (toQ a)).2.2.2, PUnit.unit))
                      (toQ q)).2.2.2,
            PUnit.unit),
          q, IntKind.i64.wrap (i - 1), PUnit.unit))
      (Kn
        (n, o,
          (wf (Edw.qplus dF (toQ a) (toQ a)).1, wf (Edw.qplus dF (toQ a) (toQ a)).2.1,
            wf (Edw.qplus dF (toQ a) (toQ a)).2.2.1, wf (Edw.qplus dF (toQ a) (toQ a)).2.2.2, PUnit.unit),
          q, IntKind.i64.wrap (i - 1), PUnit.unit)))
    (Kx.1 (o, a, PUnit.unit))) := by kernel_rfl
theorem fwTimes (n : Sh.T (numS)) (p : Sh.T (ptS)) (P : SV → Prop) : FW G6 Try.f63.ntmps (LTab.look Lt) Try.f63 (argsOf [numS, ptS] (n, p, ())) P =
 (  ifB (!onN (valN p.1) (valN p.2.1))
    (P
      (SV.tup
        [AV.val ((Sh.arr 4 (Sh.int IntKind.u64)).pair ((Sh.arr 4 (Sh.int IntKind.u64)).pair Sh.unit))
            ([0#64, 0#64, 0#64, 0#64], [0#64, 0#64, 0#64, 0#64], PUnit.unit),
          AV.val (Sh.int IntKind.i64) 1]))
    (Qt
      (n, ([0#64, 0#64, 0#64, 0#64], [0#64, 0#64, 0#64, 0#64], PUnit.unit),
        (wordsN 4 0, wordsN 4 1, wordsN 4 1, wordsN 4 (valN (wordsN 4 0) * valN (wordsN 4 1) % PP), PUnit.unit),
        (p.1, p.2.1, wordsN 4 1, wordsN 4 (valN p.1 * valN p.2.1 % PP), PUnit.unit),
        IntKind.i64.wrap (↑(blen (valN n)) - 1), PUnit.unit)
      (fun _ => False)
      (fun y =>
        P
          (SV.tup
            [AV.val ((Sh.arr 4 (Sh.int IntKind.u64)).pair ((Sh.arr 4 (Sh.int IntKind.u64)).pair Sh.unit))
                (wf (Edw.qpoint ivF (toQ y.2.1)).1, wf (Edw.qpoint ivF (toQ y.2.1)).2, PUnit.unit),
              AV.val (Sh.int IntKind.i64) 0]),
        PUnit.unit))) := by kernel_rfl
set_option maxRecDepth 100000 in
theorem loopt : ∀ x Kr Kx, Qt x Kr Kx → ∃ n, untl (W G6 Try.f63.ntmps (LTab.look Lt) (bodyAt bt 5)) Itt [] out_ n x Kr Kx := by
  rintro ⟨n, o, a0, q, i0, u⟩ Kr Kx ⟨⟨h1, h2, h3⟩, P, ⟨hP, hq⟩, hK⟩
  have h1 : numS.wfT n := h1
  have h2 : Go.Edw.Rep (toQ a0) (0, 1) := h2
  have h3 : i0 = IntKind.i64.wrap (((blen (valN n) : Nat) : Int) - 1) := h3
  have hq : Go.Edw.Rep (toQ q) P := hq
  have hK : ∀ y, Go.Edw.Rep (toQ y) (Go.Edw.mul dF ivF (valN n) P) → Kx.1 (o, y, ()) := hK
  have N2 : valN n < 2 ^ 256 := lt4 h1
  have hb : blen (valN n) ≤ 256 := blen_le.2 N2
  have key : ∀ (k : Nat), k ≤ 256 → ∀ a : Sh.T quS, Go.Edw.Rep (toQ a) (Go.Edw.mul dF ivF (valN n / 2 ^ k) P) → untl (W G6 Try.f63.ntmps (LTab.look Lt) (bodyAt bt 5)) Itt [] out_ (k + 1) (n, o, a, q, (k : Int) - 1, ()) Kr Kx := by
    intro k
    induction k with
    | zero =>
      intro _ a ha
      rw [untl_succ, roundt]
      refine ifB_of (fun h => absurd (of_decide_eq_true h) (by omega)) (fun _ => ?_)
      rw [Nat.pow_zero, Nat.div_one] at ha
      exact hK a ha
    | succ k ih =>
      intro hk a ha
      rw [untl_succ, roundt]
      have ih := ih (by omega)
      have e1 : ((k + 1 : Nat) : Int) - 1 = (k : Int) := by omega
      have e2 : IntKind.i64.wrap ((k : Int) - 1) = (k : Int) - 1 := IntWalk.i64_in _ (by omega)
      rw [e1, e2]
      have hdiv : valN n / 2 ^ k = 2 * (valN n / 2 ^ (k + 1)) + valN n / 2 ^ k % 2 := by
        rw [Nat.pow_succ, ← Nat.div_div_eq_div_mul]; omega
      have om := crv.mul_on hP (valN n / 2 ^ (k + 1))
      have hd := crv.rep_plus ha ha om om
      rw [← crv.mul_add hP, ← Nat.two_mul] at hd
      have od := crv.mul_on hP (2 * (valN n / 2 ^ (k + 1)))
      rw [bit_in (by omega)]
      refine ifB_of (fun _ => ifB_of (fun h => ?_) (fun h => ?_)) (fun h => absurd (of_decide_eq_false h) (by omega))
      · have hb1 : valN n / 2 ^ k % 2 = 1 := by
          have h := congrArg BitVec.toNat (of_decide_eq_true h)
          rw [BitVec.toNat_ofNat, show (1#64).toNat = 1 from rfl] at h
          omega
        rw [hb1] at hdiv
        refine ih _ ?_
        rw [toQ_wf, toQ_wf, hdiv]
        exact crv.rep_plus hd hq od hP
      · have hb1 : valN n / 2 ^ k % 2 = 0 := by
          have : valN n / 2 ^ k % 2 < 2 := Nat.mod_lt _ (by omega)
          by_cases c : valN n / 2 ^ k % 2 = 1
          · rw [c] at h; exact absurd h (by decide)
          · omega
        rw [hb1, Nat.add_zero] at hdiv
        refine ih _ ?_
        rw [toQ_wf, hdiv]
        exact hd
  have e0 : valN n / 2 ^ blen (valN n) = 0 := Nat.div_eq_of_lt (blen_le.1 (Nat.le_refl _))
  have e1 : IntKind.i64.wrap (((blen (valN n) : Nat) : Int) - 1) = ((blen (valN n) : Nat) : Int) - 1 := IntWalk.i64_in _ (by omega)
  have h := key (blen (valN n)) hb a0 (by rw [e0]; exact h2)
  rw [← e1, ← h3] at h
  exact ⟨_, h⟩
theorem times_ok : COK Try.prog noGl 63 (conT [numS, ptS] cTimesF) := by
  refine conT_ok (fun xs hw => ?_) (fun xs => rfl)
  obtain ⟨n, p, ⟨⟩⟩ := xs
  have wn : numS.wfT n := hw.1
  have eF : cTimesF (n, p, PUnit.unit) = .tup [.val ptS (wb (onP p) (tmP n p).1, wb (onP p) (tmP n p).2, ()), .val i64S (errB (onP p) 1)] := rfl
  refine PC_of_fw (t := Lt) shV_ok g6_ok mixed Try.func63 (c := bt) rfl (by kernel_rfl) (by kernel_rfl) (loopsOK (by kernel_rfl) (LTCons (loop_of shV_ok g6_ok mixed (loopsOK (by kernel_rfl) (LTCons (noLoop (by kernel_rfl)) LTNil)) (by kernel_rfl) loopt) LTNil)) rfl ?_
  rw [show (PUnit.unit : HL []) = () from rfl, fwTimes, eF]
  rw [show onN (valN p.1) (valN p.2.1) = onP p from rfl]
  cases h1 : onP p
  · refine ifB_of (fun _ => ?_) (fun h => absurd h (by decide))
    show _ = SV.tup [.val ptS (wordsN 4 0, wordsN 4 0, ()), .val i64S 1]
    rw [w0_eq]
  · refine ifB_of (fun h => absurd h (by decide)) (fun _ => ?_)
    refine ⟨⟨wn, ?_, rfl⟩, toP p, ⟨onP_on h1, toQ_of p⟩, fun y hy => ?_⟩
    · have := toQ_of (wordsN 4 0, wordsN 4 1, ())
      have e : toP (wordsN 4 0, wordsN 4 1, ()) = (0, 1) := by
        show (tf (valN (wordsN 4 0)), tf (valN (wordsN 4 1))) = _
        rw [v4 (by decide), v4 (by decide)]; rfl
      rw [e] at this
      exact this
    · show SV.tup [.val ptS (wf (Go.Edw.qpoint ivF (toQ y)).1, wf (Go.Edw.qpoint ivF (toQ y)).2, ()), .val i64S 0] = _
      rw [crv.rep_point hy]; rfl
noncomputable def g7 : CTab := (64, conT [ptS, ptS] cAddF) :: (63, conT [numS, ptS] cTimesF) :: g6
theorem g7_ok : ∀ p ∈ g7, COK Try.prog noGl p.1 p.2 := CCons cAdd_ok (CCons times_ok g6_ok)
noncomputable abbrev G7 : Go.Ty.Cx := mkX Try.prog noGl shV g7
/-! ## The statements' own sum and times -/
noncomputable def sumF : HL [ptS, ptS] → SV := fun xs => .av (.val ptS (wb (onP xs.1 && onP xs.2.1) (sumP xs.1 xs.2.1).1, wb (onP xs.1 && onP xs.2.1) (sumP xs.1 xs.2.1).2, ()))
noncomputable def timF : HL [numS, ptS] → SV := fun xs => .av (.val ptS (wb (onP xs.2.1) (tmP xs.1 xs.2.1).1, wb (onP xs.2.1) (tmP xs.1 xs.2.1).2, ()))
end Go.Proofs.Ytmekcdapbpioaaa
