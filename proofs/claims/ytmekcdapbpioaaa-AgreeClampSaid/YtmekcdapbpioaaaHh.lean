import Derived.Test.YtmekcdapbpioaaaHd
namespace Go.Proofs.Ytmekcdapbpioaaa
open Go.Ty

/-! ## The ladder -/
def shW : STab := (74, ptS) :: (75, ptS) :: shV
theorem shW_ok : shW.all (fun (t, s) => shChk Try.prog s (.inl t)) = true := by kernel_rfl
noncomputable def pkW (c : BitVec 64) (a b : List (BitVec 64)) : List (BitVec 64) := bif decide (c.toNat % 2 = 1) then b else a
noncomputable def pkF : HL [u64S, numS, numS] → SV := fun xs => .av (.val numS (pkW xs.1 xs.2.1 xs.2.2.1))
noncomputable def sqrF : HL [numS] → SV := fun xs => .av (.val numS (wordsN 4 (valN xs.1 * valN xs.1 % PP)))
noncomputable def swF : HL [u64S, ptS, ptS] → SV := fun xs => .tup [.val ptS (pkW xs.1 xs.2.1.1 xs.2.2.1.1, pkW xs.1 xs.2.1.2.1 xs.2.2.1.2.1, ()), .val ptS (pkW xs.1 xs.2.2.1.1 xs.2.1.1, pkW xs.1 xs.2.2.1.2.1 xs.2.1.2.1, ())]
noncomputable def kF : FF := tf 121665
noncomputable def twF : HL [ptS] → SV := fun xs => .av (.val ptS (wf (Go.Edw.tw kF (toP xs.1)).1, wf (Go.Edw.tw kF (toP xs.1)).2, ()))
noncomputable def joF : HL [ptS, ptS, numS] → SV := fun xs => .av (.val ptS (wf (Go.Edw.jo (tf (valN xs.2.2.1)) (toP xs.1) (toP xs.2.1)).1, wf (Go.Edw.jo (tf (valN xs.2.2.1)) (toP xs.1) (toP xs.2.1)).2, ()))
noncomputable def ladF : HL [numS, numS] → SV := fun xs => .av (.val numS (wf (Go.Edw.ladv kF ivF (tf (valN xs.2.1)) (valN xs.1))))
theorem pick_ok : COK Try.prog noGl 79 (conT [u64S, numS, numS] pkF) := by
  refine conT_ok (fun xs hw => ?_) (fun _ => rfl)
  obtain ⟨c, x, y, ⟨⟩⟩ := xs
  obtain ⟨x0, x1, x2, x3, hx⟩ := of4 hw.2.1
  obtain ⟨y0, y1, y2, y3, hy⟩ := of4 hw.2.2.1
  have hx : x = [x0, x1, x2, x3] := hx
  have hy : y = [y0, y1, y2, y3] := hy
  subst hx hy
  have hc : ((c.toNat : Nat) : Int).toNat = c.toNat := Int.toNat_natCast _
  have key : pkW c [x0, x1, x2, x3] [y0, y1, y2, y3] = [x0, x1, x2, x3] ∧ c.toNat % 2 = 0 ∨ pkW c [x0, x1, x2, x3] [y0, y1, y2, y3] = [y0, y1, y2, y3] ∧ c.toNat % 2 = 1 := by
    unfold pkW
    by_cases h : c.toNat % 2 = 1
    · right; rw [decide_eq_true h]; exact ⟨rfl, h⟩
    · left; rw [decide_eq_false h]; exact ⟨rfl, by omega⟩
  rcases key with ⟨e, h⟩ | ⟨e, h⟩
  · have eF : pkF (c, [x0, x1, x2, x3], [y0, y1, y2, y3], PUnit.unit) = .av (.val numS [x0, x1, x2, x3]) := by
      show SV.av (.val numS (pkW c _ _)) = _
      rw [e]
    rw [eF]
    refine PC_of_wcon pick_con rfl ⟨rfl, rfl, fun _ _ => trivial⟩ rfl ?_
    show some (Value.agg ⟨[.int .u64 (pk (c.toNat : Int) x0.toNat y0.toNat), .int .u64 (pk (c.toNat : Int) x1.toNat y1.toNat), .int .u64 (pk (c.toNat : Int) x2.toNat y2.toNat), .int .u64 (pk (c.toNat : Int) x3.toNat y3.toNat)]⟩) = _
    rw [pk0 (by rw [hc]; exact h), pk0 (by rw [hc]; exact h), pk0 (by rw [hc]; exact h), pk0 (by rw [hc]; exact h)]
    rfl
  · have eF : pkF (c, [x0, x1, x2, x3], [y0, y1, y2, y3], PUnit.unit) = .av (.val numS [y0, y1, y2, y3]) := by
      show SV.av (.val numS (pkW c _ _)) = _
      rw [e]
    rw [eF]
    refine PC_of_wcon pick_con rfl ⟨rfl, rfl, fun _ _ => trivial⟩ rfl ?_
    show some (Value.agg ⟨[.int .u64 (pk (c.toNat : Int) x0.toNat y0.toNat), .int .u64 (pk (c.toNat : Int) x1.toNat y1.toNat), .int .u64 (pk (c.toNat : Int) x2.toNat y2.toNat), .int .u64 (pk (c.toNat : Int) x3.toNat y3.toNat)]⟩) = _
    rw [pk1 (by rw [hc]; exact h), pk1 (by rw [hc]; exact h), pk1 (by rw [hc]; exact h), pk1 (by rw [hc]; exact h)]
    rfl
noncomputable abbrev L0 : Go.Ty.Cx := mkX Try.prog noGl shW g9
theorem fwSqr (a : Sh.T (numS)) (P : SV → Prop) : FW L0 Try.f80.ntmps (LTab.look []) Try.f80 (argsOf [numS] (a, ())) P =
 (  P (SV.av (AV.val (Sh.arr 4 (Sh.int IntKind.u64)) (wordsN 4 (valN a * valN a % PP))))) := by kernel_rfl
theorem sqr_ok : COK Try.prog noGl 80 (conT [numS] sqrF) := by
  refine conT_ok (fun xs hw => ?_) (fun xs => rfl)
  obtain ⟨a, ⟨⟩⟩ := xs
  refine PC_of_fw (t := []) shW_ok g9_ok mixed Try.func80 (c := Try.f80.body.getD .skip) rfl (by kernel_rfl) (by kernel_rfl) loopsNil rfl ?_
  rw [show (PUnit.unit : HL []) = () from rfl, fwSqr]; rfl
noncomputable def l1 : CTab := (79, conT [u64S, numS, numS] pkF) :: (80, conT [numS] sqrF) :: g9
theorem l1_ok : ∀ p ∈ l1, COK Try.prog noGl p.1 p.2 := CCons pick_ok (CCons sqr_ok g9_ok)
noncomputable abbrev L1 : Go.Ty.Cx := mkX Try.prog noGl shW l1
theorem fwSw (c : Sh.T (u64S)) (p : Sh.T (ptS)) (q : Sh.T (ptS)) (P : SV → Prop) : FW L1 Try.f67.ntmps (LTab.look []) Try.f67 (argsOf [u64S, ptS, ptS] (c, p, q, ())) P =
 (  P
    (SV.tup
      [AV.val ((Sh.arr 4 (Sh.int IntKind.u64)).pair ((Sh.arr 4 (Sh.int IntKind.u64)).pair Sh.unit))
          (pkW c p.1 q.1, pkW c p.2.1 q.2.1, PUnit.unit),
        AV.val ((Sh.arr 4 (Sh.int IntKind.u64)).pair ((Sh.arr 4 (Sh.int IntKind.u64)).pair Sh.unit))
          (pkW c q.1 p.1, pkW c q.2.1 p.2.1, PUnit.unit)])) := by kernel_rfl
theorem sw_ok : COK Try.prog noGl 67 (conT [u64S, ptS, ptS] swF) := by
  refine conT_ok (fun xs hw => ?_) (fun xs => rfl)
  obtain ⟨c, p, q, ⟨⟩⟩ := xs
  refine PC_of_fw (t := []) shW_ok l1_ok mixed Try.func67 (c := Try.f67.body.getD .skip) rfl (by kernel_rfl) (by kernel_rfl) loopsNil rfl ?_
  rw [show (PUnit.unit : HL []) = () from rfl, fwSw]; rfl
theorem two_key : ∀ a b : Nat, ∀ Q : FF × FF, (tf a, tf b) = Q → SV.av (.val ptS (wordsN 4 (a % PP), wordsN 4 (b % PP), ())) = SV.av (.val ptS (wf Q.1, wf Q.2, ())) := by
  intro a b Q h
  subst h; rfl
theorem fwTw (p : Sh.T (ptS)) (P : SV → Prop) : FW L1 Try.f68.ntmps (LTab.look []) Try.f68 (argsOf [ptS] (p, ())) P =
 (  P
    (SV.av
      (AV.val ((Sh.arr 4 (Sh.int IntKind.u64)).pair ((Sh.arr 4 (Sh.int IntKind.u64)).pair Sh.unit))
        (wordsN 4
            (valN
                  (wordsN 4
                    (valN (wordsN 4 ((valN p.1 + valN p.2.1) % PP)) * valN (wordsN 4 ((valN p.1 + valN p.2.1) % PP)) %
                      PP)) *
                valN
                  (wordsN 4
                    (valN (wordsN 4 ((valN p.1 % PP + PP - valN p.2.1 % PP) % PP)) *
                        valN (wordsN 4 ((valN p.1 % PP + PP - valN p.2.1 % PP) % PP)) %
                      PP)) %
              PP),
          wordsN 4
            (valN
                  (wordsN 4
                    ((valN
                              (wordsN 4
                                (valN (wordsN 4 ((valN p.1 + valN p.2.1) % PP)) *
                                    valN (wordsN 4 ((valN p.1 + valN p.2.1) % PP)) %
                                  PP)) %
                            PP +
                          PP -
                        valN
                            (wordsN 4
                              (valN (wordsN 4 ((valN p.1 % PP + PP - valN p.2.1 % PP) % PP)) *
                                  valN (wordsN 4 ((valN p.1 % PP + PP - valN p.2.1 % PP) % PP)) %
                                PP)) %
                          PP) %
                      PP)) *
                valN
                  (wordsN 4
                    ((valN
                          (wordsN 4
                            (valN (wordsN 4 ((valN p.1 + valN p.2.1) % PP)) *
                                valN (wordsN 4 ((valN p.1 + valN p.2.1) % PP)) %
                              PP)) +
                        valN
                          (wordsN 4
                            (valN [121665#64, 0#64, 0#64, 0#64] *
                                valN
                                  (wordsN 4
                                    ((valN
                                              (wordsN 4
                                                (valN (wordsN 4 ((valN p.1 + valN p.2.1) % PP)) *
                                                    valN (wordsN 4 ((valN p.1 + valN p.2.1) % PP)) %
                                                  PP)) %
                                            PP +
                                          PP -
                                        valN
                                            (wordsN 4
                                              (valN (wordsN 4 ((valN p.1 % PP + PP - valN p.2.1 % PP) % PP)) *
                                                  valN (wordsN 4 ((valN p.1 % PP + PP - valN p.2.1 % PP) % PP)) %
                                                PP)) %
                                          PP) %
                                      PP)) %
                              PP))) %
                      PP)) %
              PP),
          PUnit.unit)))) := by kernel_rfl
theorem tw_ok : COK Try.prog noGl 68 (conT [ptS] twF) := by
  refine conT_ok (fun xs hw => ?_) (fun xs => rfl)
  obtain ⟨p, ⟨⟩⟩ := xs
  refine PC_of_fw (t := []) shW_ok l1_ok mixed Try.func68 (c := Try.f68.body.getD .skip) rfl (by kernel_rfl) (by kernel_rfl) loopsNil rfl ?_
  have z : valN [121665#64, 0#64, 0#64, 0#64] = 121665 := rfl
  rw [show (PUnit.unit : HL []) = () from rfl, fwTw]
  simp only [vp, z]
  refine two_key _ _ _ ?_
  simp only [tf_mul, tf_mod, tf_sub, tf_add]
  rfl
theorem fwJo (p : Sh.T (ptS)) (q : Sh.T (ptS)) (u : Sh.T (numS)) (P : SV → Prop) : FW L1 Try.f69.ntmps (LTab.look []) Try.f69 (argsOf [ptS, ptS, numS] (p, q, u, ())) P =
 (  P
    (SV.av
      (AV.val ((Sh.arr 4 (Sh.int IntKind.u64)).pair ((Sh.arr 4 (Sh.int IntKind.u64)).pair Sh.unit))
        (wordsN 4
            (valN
                  (wordsN 4
                    ((valN
                          (wordsN 4
                            (valN (wordsN 4 ((valN q.1 + valN q.2.1) % PP)) *
                                valN (wordsN 4 ((valN p.1 % PP + PP - valN p.2.1 % PP) % PP)) %
                              PP)) +
                        valN
                          (wordsN 4
                            (valN (wordsN 4 ((valN q.1 % PP + PP - valN q.2.1 % PP) % PP)) *
                                valN (wordsN 4 ((valN p.1 + valN p.2.1) % PP)) %
                              PP))) %
                      PP)) *
                valN
                  (wordsN 4
                    ((valN
                          (wordsN 4
                            (valN (wordsN 4 ((valN q.1 + valN q.2.1) % PP)) *
                                valN (wordsN 4 ((valN p.1 % PP + PP - valN p.2.1 % PP) % PP)) %
                              PP)) +
                        valN
                          (wordsN 4
                            (valN (wordsN 4 ((valN q.1 % PP + PP - valN q.2.1 % PP) % PP)) *
                                valN (wordsN 4 ((valN p.1 + valN p.2.1) % PP)) %
                              PP))) %
                      PP)) %
              PP),
          wordsN 4
            (valN u *
                valN
                  (wordsN 4
                    (valN
                          (wordsN 4
                            ((valN
                                      (wordsN 4
                                        (valN (wordsN 4 ((valN q.1 + valN q.2.1) % PP)) *
                                            valN (wordsN 4 ((valN p.1 % PP + PP - valN p.2.1 % PP) % PP)) %
                                          PP)) %
                                    PP +
                                  PP -
                                valN
                                    (wordsN 4
                                      (valN (wordsN 4 ((valN q.1 % PP + PP - valN q.2.1 % PP) % PP)) *
                                          valN (wordsN 4 ((valN p.1 + valN p.2.1) % PP)) %
                                        PP)) %
                                  PP) %
                              PP)) *
                        valN
                          (wordsN 4
                            ((valN
                                      (wordsN 4
                                        (valN (wordsN 4 ((valN q.1 + valN q.2.1) % PP)) *
                                            valN (wordsN 4 ((valN p.1 % PP + PP - valN p.2.1 % PP) % PP)) %
                                          PP)) %
                                    PP +
                                  PP -
                                valN
                                    (wordsN 4
                                      (valN (wordsN 4 ((valN q.1 % PP + PP - valN q.2.1 % PP) % PP)) *
                                          valN (wordsN 4 ((valN p.1 + valN p.2.1) % PP)) %
                                        PP)) %
                                  PP) %
                              PP)) %
                      PP)) %
              PP),
          PUnit.unit)))) := by kernel_rfl
theorem jo_ok : COK Try.prog noGl 69 (conT [ptS, ptS, numS] joF) := by
  refine conT_ok (fun xs hw => ?_) (fun xs => rfl)
  obtain ⟨p, q, u, ⟨⟩⟩ := xs
  refine PC_of_fw (t := []) shW_ok l1_ok mixed Try.func69 (c := Try.f69.body.getD .skip) rfl (by kernel_rfl) (by kernel_rfl) loopsNil rfl ?_
  rw [show (PUnit.unit : HL []) = () from rfl, fwJo]
  simp only [vp]
  refine two_key _ _ _ ?_
  simp only [tf_mul, tf_mod, tf_sub, tf_add]
  rfl
noncomputable def l2 : CTab := (67, conT [u64S, ptS, ptS] swF) :: (68, conT [ptS] twF) :: (69, conT [ptS, ptS, numS] joF) :: l1
theorem l2_ok : ∀ p ∈ l2, COK Try.prog noGl p.1 p.2 := CCons sw_ok (CCons tw_ok (CCons jo_ok l1_ok))
noncomputable abbrev L2 : Go.Ty.Cx := mkX Try.prog noGl shW l2
abbrev Itl : List It := [.p 2 2000 numS, .p 3 2001 numS, .p 4 2002 numS, .p 5 2003 ptS, .p 6 2004 ptS, .v 7 i64S]
abbrev outl : List (Nat × List It) := [(0, [.p 4 2002 numS, .p 5 2003 ptS])]
noncomputable def bl : Code := Try.f42.body.getD .skip
/-- what the loop over the bits does -/
noncomputable def Ql : LQ Itl [] outl := fun x _ Kx => (toP x.2.2.2.1 = (1, 0) ∧ toP x.2.2.2.2.1 = (tf (valN x.2.1), 1) ∧ x.2.2.2.2.2.1 = 255) ∧
  ∀ y, toP y = (Go.Edw.lad kF (tf (valN x.2.1)) (valN x.1) 256).1 → Kx.1 (x.2.2.1, y, ())
noncomputable abbrev Ll : LTab := [(3, ptL Itl [] outl Ql)]
theorem roundl (k u o : List (BitVec 64)) (q r : Sh.T ptS) (i : Int) (Kn : HI Itl → Prop) (Kr : HI [] → Prop) (Kx : HP outl) : roundT (W L2 Try.f42.ntmps (LTab.look Ll) (bodyAt bl 3)) Itl [] outl (k, u, o, q, r, i, ()) Kn Kr Kx =
 (  ifB (decide (0 ≤ i))
    (Kn
      (k, u, o,
        (pkW (bitB (valN k) i)
            (wf (Edw.tw kF (toP (pkW (bitB (valN k) i) q.1 r.1, pkW (bitB (valN k) i) q.2.1 r.2.1, PUnit.unit))).1)
            (wf
              (Edw.jo (tf (valN u)) (toP (pkW (bitB (valN k) i) q.1 r.1, pkW (bitB (valN k) i) q.2.1 r.2.1, PUnit.unit))
                  (toP (pkW (bitB (valN k) i) r.1 q.1, pkW (bitB (valN k) i) r.2.1 q.2.1, PUnit.unit))).1),
          pkW (bitB (valN k) i)
            (wf (Edw.tw kF (toP (pkW (bitB (valN k) i) q.1 r.1, pkW (bitB (valN k) i) q.2.1 r.2.1, PUnit.unit))).2)
            (wf
              (Edw.jo (tf (valN u)) (toP (pkW (bitB (valN k) i) q.1 r.1, pkW (bitB (valN k) i) q.2.1 r.2.1, PUnit.unit))
                  (toP (pkW (bitB (valN k) i) r.1 q.1, pkW (bitB (valN k) i) r.2.1 q.2.1, PUnit.unit))).2),
          PUnit.unit),
        (pkW (bitB (valN k) i)
            (wf
              (Edw.jo (tf (valN u)) (toP (pkW (bitB (valN k) i) q.1 r.1, pkW (bitB (valN k) i) q.2.1 r.2.1, PUnit.unit))
                  (toP (pkW (bitB (valN k) i) r.1 q.1, pkW (bitB (valN k) i) r.2.1 q.2.1, PUnit.unit))).1)
            (wf (Edw.tw kF (toP (pkW (bitB (valN k) i) q.1 r.1, pkW (bitB (valN k) i) q.2.1 r.2.1, PUnit.unit))).1),
          pkW (bitB (valN k) i)
            (wf
              (Edw.jo (tf (valN u)) (toP (pkW (bitB (valN k) i) q.1 r.1, pkW (bitB (valN k) i) q.2.1 r.2.1, PUnit.unit))
                  (toP (pkW (bitB (valN k) i) r.1 q.1, pkW (bitB (valN k) i) r.2.1 q.2.1, PUnit.unit))).2)
            (wf (Edw.tw kF (toP (pkW (bitB (valN k) i) q.1 r.1, pkW (bitB (valN k) i) q.2.1 r.2.1, PUnit.unit))).2),
          PUnit.unit),
        IntKind.i64.wrap (i - 1), PUnit.unit))
    (Kx.1 (o, q, PUnit.unit))) := by kernel_rfl
theorem fwLad (k : Sh.T (numS)) (u : Sh.T (numS)) (P : SV → Prop) : FW L2 Try.f42.ntmps (LTab.look Ll) Try.f42 (argsOf [numS, numS] (k, u, ())) P =
 (  Ql
    (k, u, [0#64, 0#64, 0#64, 0#64], ([1#64, 0#64, 0#64, 0#64], [0#64, 0#64, 0#64, 0#64], PUnit.unit),
      (u, [1#64, 0#64, 0#64, 0#64], PUnit.unit), 255, PUnit.unit)
    (fun _ => False)
    (fun y =>
      P
        (SV.av
          (AV.val (Sh.arr 4 (Sh.int IntKind.u64))
            (wordsN 4 (valN y.2.1.1 * valN (wordsN 4 (powP (valN y.2.1.2.1) (PP - 2))) % PP)))),
      PUnit.unit)) := by kernel_rfl
theorem pkW_bit {k : Nat} (n : Nat) (h : k < 256) (a b : List (BitVec 64)) : pkW (bitB n (k : Int)) a b = bif n.testBit k then b else a := by
  unfold pkW
  rw [bit_in h, Nat.testBit_eq_decide_div_mod_eq, BitVec.toNat_ofNat]
  have : n / 2 ^ k % 2 % 2 ^ 64 % 2 = n / 2 ^ k % 2 := by omega
  rw [this]
set_option maxRecDepth 100000 in
theorem loopl : ∀ x Kr Kx, Ql x Kr Kx → ∃ n, untl (W L2 Try.f42.ntmps (LTab.look Ll) (bodyAt bl 3)) Itl [] outl n x Kr Kx := by
  rintro ⟨k, u, o, q0, r0, i0, v⟩ Kr Kx ⟨⟨h1, h2, h3⟩, hK⟩
  have h1 : toP q0 = (1, 0) := h1
  have h2 : toP r0 = (tf (valN u), 1) := h2
  have h3 : i0 = 255 := h3
  have hK : ∀ y, toP y = (Go.Edw.lad kF (tf (valN u)) (valN k) 256).1 → Kx.1 (o, y, ()) := hK
  have key : ∀ (m j : Nat), j + m = 256 → ∀ q r : Sh.T ptS, toP q = (Go.Edw.lad kF (tf (valN u)) (valN k) j).1 → toP r = (Go.Edw.lad kF (tf (valN u)) (valN k) j).2 →
      ∀ i : Int, i = (m : Int) - 1 → untl (W L2 Try.f42.ntmps (LTab.look Ll) (bodyAt bl 3)) Itl [] outl (m + 1) (k, u, o, q, r, i, ()) Kr Kx := by
    intro m
    induction m with
    | zero =>
      intro j hj q r hq hr i hi
      rw [untl_succ, roundl]
      refine ifB_of (fun h => absurd (of_decide_eq_true h) (by omega)) (fun _ => ?_)
      have hj : j = 256 := hj
      subst hj
      exact hK q hq
    | succ m ih =>
      intro j hj q r hq hr i hi
      have hi : i = (m : Int) := by omega
      rw [untl_succ, roundl, hi]
      have e2 : IntKind.i64.wrap ((m : Int) - 1) = (m : Int) - 1 := IntWalk.i64_in _ (by omega)
      rw [e2]
      simp only [pkW_bit _ (show m < 256 by omega)]
      refine ifB_of (fun _ => ?_) (fun h => absurd (of_decide_eq_false h) (by omega))
      have hm : m = 255 - j := by omega
      have nx : Go.Edw.lad kF (tf (valN u)) (valN k) (j + 1) = Go.Edw.rnd kF (tf (valN u)) ((valN k).testBit m) (Go.Edw.lad kF (tf (valN u)) (valN k) j) := by rw [hm]; rfl
      refine ih (j + 1) (by omega) _ _ ?_ ?_ _ rfl
      · rw [nx]
        unfold Go.Edw.rnd
        rw [← hq, ← hr]
        cases (valN k).testBit m
        · exact toP_w _
        · exact toP_w _
      · rw [nx]
        unfold Go.Edw.rnd
        rw [← hq, ← hr]
        cases (valN k).testBit m
        · exact toP_w _
        · exact toP_w _
  exact ⟨257, key 256 0 rfl q0 r0 h1 h2 i0 (by rw [h3]; rfl)⟩
theorem lad_ok : COK Try.prog noGl 42 (conT [numS, numS] ladF) := by
  refine conT_ok (fun xs hw => ?_) (fun xs => rfl)
  obtain ⟨k, u, ⟨⟩⟩ := xs
  refine PC_of_fw (t := Ll) shW_ok l2_ok mixed Try.func42 (c := bl) rfl (by kernel_rfl) (by kernel_rfl) (loopsOK (by kernel_rfl) (LTCons (loop_of shW_ok l2_ok mixed (loopsOK (by kernel_rfl) (LTCons (noLoop (by kernel_rfl)) LTNil)) (by kernel_rfl) loopl) LTNil)) rfl ?_
  rw [show (PUnit.unit : HL []) = () from rfl, fwLad]
  refine ⟨⟨rfl, rfl, rfl⟩, fun y hy => ?_⟩
  show SV.av (.val numS (wordsN 4 (valN y.1 * valN (wordsN 4 (powP (valN y.2.1) (PP - 2))) % PP))) = SV.av (.val numS (wf (Go.Edw.ladv kF ivF (tf (valN u)) (valN k))))
  rw [vpw]
  have e : tf (valN y.1 * powP (valN y.2.1) (PP - 2)) = Go.Edw.ladv kF ivF (tf (valN u)) (valN k) := by
    unfold Go.Edw.ladv
    rw [tf_mul, tf_inv, ← hy]; rfl
  rw [wf_of e]
noncomputable def l3 : CTab := (42, conT [numS, numS] ladF) :: l2
theorem l3_ok : ∀ p ∈ l3, COK Try.prog noGl p.1 p.2 := CCons lad_ok l2_ok
noncomputable abbrev L3 : Go.Ty.Cx := mkX Try.prog noGl shW l3
/-! ## What the ladder makes -/
theorem kF_1 : kF + 1 ≠ 0 := by
  unfold kF
  rw [← tf_one, ← tf_add]
  refine tf_nz ?_
  rw [PP_eq]; decide
theorem kF_0 : kF ≠ 0 := tf_nz (by rw [PP_eq]; decide)
theorem kF_d : dF * (kF + 1) = -kF := by
  have e : dF * (kF + 1) + kF = 0 := by
    unfold dF kF
    rw [← tf_one, ← tf_add, ← tf_mul, ← tf_add]
    refine tf_z ?_
    rw [DD_eq, PP_eq]
  grind
/-- for each u there is an f: what the ladder makes of u n times is f n, and of that m times f (m n) -/
theorem ladder_f (u : FF) : ∃ f : Nat → FF, (∀ n, n < 2 ^ 256 → Go.Edw.ladv kF ivF u n = f n) ∧ ∀ m n, m < 2 ^ 256 → Go.Edw.ladv kF ivF (f n) m = f (m * n) :=
  crv.ladder ivF_zero kF_1 kF_0 kF_d (ivF_mul dF_nz) dich u
theorem ladder_pt {P : FF × FF} (h : Go.Edw.On dF P) {n : Nat} (hn : n < 2 ^ 256) : Go.Edw.ladv kF ivF (Go.Edw.pl ivF P.2) n = Go.Edw.pl ivF (Go.Edw.mul dF ivF n P).2 :=
  crv.lad_curve ivF_zero kF_1 kF_d h hn
theorem ladder_0 (n : Nat) : Go.Edw.ladv kF ivF 0 n = 0 := Go.Edw.ladv_zero kF ivF_zero n
end Go.Proofs.Ytmekcdapbpioaaa
