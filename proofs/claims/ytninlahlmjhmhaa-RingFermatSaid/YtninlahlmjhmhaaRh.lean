import Derived.Test.YtninlahlmjhmhaaRg
namespace Go.Proofs.Ytninlahlmjhmhaa
open Go.Ty

abbrev r16 : List It := [.v 8 .bool]
noncomputable def b16 : Code := Try.f16.body.getD .skip
abbrev I16_4 : List It := [.p 4 2000 numS, .p 5 2001 numS, .p 6 2002 numS, .p 7 2003 wideS, .f 9 ringS]
abbrev I16_5 : List It := [.p 4 2000 numS, .p 5 2001 numS, .p 6 2002 numS, .p 7 2003 wideS, .f 9 ringS, .p 11 2005 numS, .p 12 2006 numS]
abbrev I16_6 : List It := [.p 4 2000 numS, .p 5 2001 numS, .p 6 2002 numS, .p 7 2003 wideS, .f 9 ringS, .p 11 2005 numS, .p 12 2006 numS, .p 13 2007 numS]
abbrev I16_7 : List It := [.p 5 2000 numS, .p 6 2001 numS, .f 9 ringS, .p 11 2003 numS, .p 12 2004 numS, .p 13 2005 numS, .p 15 2006 numS]
noncomputable def Q16_7 : CQ I16_7 [] r16 [] := fun (a, b, r, x, y, bk, w, _) _ Kr _ =>
  ifB (teq (Sh.arr 4 (Sh.int IntKind.u64)) bk w)
    (okR r ∧
      okR r ∧
        ifB
          (teq (Sh.arr 4 (Sh.int IntKind.u64)) (wordsN 4 (outN (valN (wordsN 8 (valN x))) (valN r.1)))
            (wordsN 4 ((valN a + valN [0#64, 0#64, 0#64, 0#64]) % valN r.1)))
          (okR r ∧
            okR r ∧
              okR r ∧
                ifB
                  (teq (Sh.arr 4 (Sh.int IntKind.u64)) (wordsN 4 (outN (valN (wordsN 8 (valN x * valN y))) (valN r.1)))
                    (wordsN 4
                      (valN (wordsN 4 (valN a * valN b % valN r.1)) *
                          (2 ^ 256) %
                        valN r.1)))
                  (okR r ∧
                    okR r ∧
                      Kr
                        (teq (Sh.arr 4 (Sh.int IntKind.u64))
                            (wordsN 4
                              (outN
                                (valN
                                  (wordsN 8
                                    (valN [0#64, 0#64, 0#64, 0#64] +
                                      (2 ^ 256) *
                                        valN a)))
                                (valN r.1)))
                            (wordsN 4 ((valN a + valN [0#64, 0#64, 0#64, 0#64]) % valN r.1)),
                          PUnit.unit))
                  (Kr (false, PUnit.unit)))
          (Kr (false, PUnit.unit)))
    (Kr (false, PUnit.unit))
noncomputable def Q16_6 : CQ I16_6 [] r16 [] := fun (m, a, b, t, r, x, y, bk, _) Kn Kr _ =>
  Q16_7 (a, b, r, x, y, bk, wordsN 4 (remN (valN t) (valN m)), PUnit.unit) (fun _ => Kn PUnit.unit)
    (fun y => Kr (y.1, PUnit.unit)) PUnit.unit
noncomputable def Q16_5 : CQ I16_5 [] r16 [] := fun (m, a, b, t, r, x, y, _) Kn Kr _ =>
  okR r ∧
    Q16_6
      (m, a, b, t, r, x, y,
        wordsN 4
          (remN
            (valN
              (wordsN 8
                (valN [0#64, 0#64, 0#64, 0#64] +
                  (2 ^ 256) *
                    valN (wordsN 4 (outN (valN t) (valN r.1))))))
            (valN m)),
        PUnit.unit)
      (fun _ => Kn PUnit.unit) (fun y => Kr (y.1, PUnit.unit)) PUnit.unit
noncomputable def Q16_4 : CQ I16_4 [] r16 [] := fun (m, a, b, t, r, _) Kn Kr _ =>
  okR r ∧
    okR r ∧
      Q16_5
        (m, a, b, t, r,
          wordsN 4 (valN a * (2 ^ 256) % valN r.1),
          wordsN 4 (valN b * (2 ^ 256) % valN r.1),
          PUnit.unit)
        (fun _ => Kn PUnit.unit) (fun y => Kr (y.1, PUnit.unit)) PUnit.unit
noncomputable abbrev L16 : LTab := [(1000004, ptC I16_4 [] r16 [] Q16_4), (1000005, ptC I16_5 [] r16 [] Q16_5), (1000006, ptC I16_6 [] r16 [] Q16_6), (1000007, ptC I16_7 [] r16 [] Q16_7)]
theorem piece16_4 (m : Sh.T (numS)) (a : Sh.T (numS)) (b : Sh.T (numS)) (t : Sh.T (wideS)) (r : Sh.T (ringS)) (Kn : HI [] → Prop) (Kr : HI r16 → Prop) (Kx : HP []) : pieceT (W Y10 Try.f16.ntmps (LTab.look L16) (tailAt b16 1000004)) I16_4 [] r16 [] (m, a, b, t, r, ()) Kn Kr Kx = Q16_4 (m, a, b, t, r, ()) Kn Kr Kx := by kernel_rfl
theorem piece16_5 (m : Sh.T (numS)) (a : Sh.T (numS)) (b : Sh.T (numS)) (t : Sh.T (wideS)) (r : Sh.T (ringS)) (x : Sh.T (numS)) (y : Sh.T (numS)) (Kn : HI [] → Prop) (Kr : HI r16 → Prop) (Kx : HP []) : pieceT (W Y10 Try.f16.ntmps (LTab.look L16) (tailAt b16 1000005)) I16_5 [] r16 [] (m, a, b, t, r, x, y, ()) Kn Kr Kx = Q16_5 (m, a, b, t, r, x, y, ()) Kn Kr Kx := by kernel_rfl
theorem piece16_6 (m : Sh.T (numS)) (a : Sh.T (numS)) (b : Sh.T (numS)) (t : Sh.T (wideS)) (r : Sh.T (ringS)) (x : Sh.T (numS)) (y : Sh.T (numS)) (bk : Sh.T (numS)) (Kn : HI [] → Prop) (Kr : HI r16 → Prop) (Kx : HP []) : pieceT (W Y10 Try.f16.ntmps (LTab.look L16) (tailAt b16 1000006)) I16_6 [] r16 [] (m, a, b, t, r, x, y, bk, ()) Kn Kr Kx = Q16_6 (m, a, b, t, r, x, y, bk, ()) Kn Kr Kx := by kernel_rfl
theorem piece16_7 (a : Sh.T (numS)) (b : Sh.T (numS)) (r : Sh.T (ringS)) (x : Sh.T (numS)) (y : Sh.T (numS)) (bk : Sh.T (numS)) (w : Sh.T (numS)) (Kn : HI [] → Prop) (Kr : HI r16 → Prop) (Kx : HP []) : pieceT (W Y10 Try.f16.ntmps (LTab.look L16) (tailAt b16 1000007)) I16_7 [] r16 [] (a, b, r, x, y, bk, w, ()) Kn Kr Kx = Q16_7 (a, b, r, x, y, bk, w, ()) Kn Kr Kx := by kernel_rfl
theorem fw16 (m : Sh.T (numS)) (a : Sh.T (numS)) (b : Sh.T (numS)) (t : Sh.T (wideS)) (P : SV → Prop) : FW Y10 Try.f16.ntmps (LTab.look L16) Try.f16 (argsOf [numS, numS, numS, wideS] (m, a, b, t, ())) P =
 (  ifB (noRing (valN m))
    (ifB (decide (rd (Sh.int IntKind.u64) m 0 % 2#64 = 0#64)) (P (SV.av (AV.val Sh.bool true)))
      (P (SV.av (AV.val Sh.bool (teq (Sh.arr 4 (Sh.int IntKind.u64)) m [1#64, 0#64, 0#64, 0#64])))))
    (Q16_4 (m, a, b, t, ringOf m, PUnit.unit) (fun _ => False) (fun y => P (SV.av (AV.val Sh.bool y.1))) PUnit.unit)) := by kernel_rfl
theorem S16_7 : ∀ s K, ptC I16_7 [] r16 [] Q16_7 s K → SemC Y10 Try.f16.ntmps (tailAt b16 1000007) s K :=
  cut_sem shR_ok ct10_ok mixed (loopsOK (by kernel_rfl) (LTCons (noLoop (by kernel_rfl)) (LTCons (noLoop (by kernel_rfl)) (LTCons (noLoop (by kernel_rfl)) (LTCons (noLoop (by kernel_rfl)) LTNil))))) (by kernel_rfl) (fun ⟨a, b, r, x, y, bk, w, _⟩ Kn Kr Kx h => (piece16_7 a b r x y bk w Kn Kr Kx).mpr h)
theorem S16_6 : ∀ s K, ptC I16_6 [] r16 [] Q16_6 s K → SemC Y10 Try.f16.ntmps (tailAt b16 1000006) s K :=
  cut_sem shR_ok ct10_ok mixed (loopsOK (by kernel_rfl) (LTCons (noLoop (by kernel_rfl)) (LTCons (noLoop (by kernel_rfl)) (LTCons (noLoop (by kernel_rfl)) (LTCons (fun _ => by rw [show tailAt (tailAt b16 1000006) 1000007 = tailAt b16 1000007 from by kernel_rfl]; exact S16_7) LTNil))))) (by kernel_rfl) (fun ⟨m, a, b, t, r, x, y, bk, _⟩ Kn Kr Kx h => (piece16_6 m a b t r x y bk Kn Kr Kx).mpr h)
theorem S16_5 : ∀ s K, ptC I16_5 [] r16 [] Q16_5 s K → SemC Y10 Try.f16.ntmps (tailAt b16 1000005) s K :=
  cut_sem shR_ok ct10_ok mixed (loopsOK (by kernel_rfl) (LTCons (noLoop (by kernel_rfl)) (LTCons (noLoop (by kernel_rfl)) (LTCons (fun _ => by rw [show tailAt (tailAt b16 1000005) 1000006 = tailAt b16 1000006 from by kernel_rfl]; exact S16_6) (LTCons (fun _ => by rw [show tailAt (tailAt b16 1000005) 1000007 = tailAt b16 1000007 from by kernel_rfl]; exact S16_7) LTNil))))) (by kernel_rfl) (fun ⟨m, a, b, t, r, x, y, _⟩ Kn Kr Kx h => (piece16_5 m a b t r x y Kn Kr Kx).mpr h)
theorem S16_4 : ∀ s K, ptC I16_4 [] r16 [] Q16_4 s K → SemC Y10 Try.f16.ntmps (tailAt b16 1000004) s K :=
  cut_sem shR_ok ct10_ok mixed (loopsOK (by kernel_rfl) (LTCons (noLoop (by kernel_rfl)) (LTCons (fun _ => by rw [show tailAt (tailAt b16 1000004) 1000005 = tailAt b16 1000005 from by kernel_rfl]; exact S16_5) (LTCons (fun _ => by rw [show tailAt (tailAt b16 1000004) 1000006 = tailAt b16 1000006 from by kernel_rfl]; exact S16_6) (LTCons (fun _ => by rw [show tailAt (tailAt b16 1000004) 1000007 = tailAt b16 1000007 from by kernel_rfl]; exact S16_7) LTNil))))) (by kernel_rfl) (fun ⟨m, a, b, t, r, _⟩ Kn Kr Kx h => (piece16_4 m a b t r Kn Kr Kx).mpr h)
theorem loops16 : LoopsOK Y10 Try.f16.ntmps (LTab.look L16) b16 := loopsOK (by kernel_rfl) (LTCons (fun _ => S16_4) (LTCons (fun _ => S16_5) (LTCons (fun _ => S16_6) (LTCons (fun _ => S16_7) LTNil))))

theorem out_back {T M : Nat} (h1 : M % 2 = 1) (h2 : 1 < M) : 2 ^ 256 * outN T M % M = T % M := by
  obtain ⟨x, hx, ex, ei⟩ := inv256 h1 h2
  unfold outN
  rw [ei, Nat.mul_mod_mod, Nat.mul_left_comm, Nat.mul_mod, ex, Nat.mul_one, Nat.mod_mod]
theorem outN_lt {T M : Nat} (h : 0 < M) : outN T M < M := Nat.mod_lt _ h
theorem noRing_law {m : List (BitVec 64)} {P : SV → Prop} (wm : numS.wfT m) (h : noRing (valN m) = true) (hP : P (.av (.val .bool true))) : ifB (decide (rd (Sh.int IntKind.u64) m 0 % 2#64 = 0#64)) (P (SV.av (AV.val Sh.bool true))) (P (SV.av (AV.val Sh.bool (teq (Sh.arr 4 (Sh.int IntKind.u64)) m [1#64, 0#64, 0#64, 0#64])))) := by
  refine ifB_of (fun _ => hP) (fun h' => ?_)
  have h' := of_decide_eq_false h'
  unfold noRing at h
  rw [Bool.or_eq_true, decide_eq_true_iff, decide_eq_true_iff] at h
  rcases h with h | h
  · refine absurd (BitVec.eq_of_toNat_eq ?_) h'
    have e := rd0 m
    rw [BitVec.toNat_umod]
    show (rd u64S m 0).toNat % 2 = 0
    rw [e]; omega
  · rw [teq_eq ((one4 wm).1 h)]; exact hP
theorem walk16 (xs : HL [numS, numS, numS, wideS]) (h : okHL [numS, numS, numS, wideS] xs) : PC (bx Try.prog noGl) 16 (argsOf [numS, numS, numS, wideS] xs) (.av (.val .bool true)) := by
  obtain ⟨m, a, b, t, ⟨⟩⟩ := xs
  refine PC_of_fw (t := L16) shR_ok ct10_ok mixed Try.func16 (c := b16) rfl (by kernel_rfl) (by kernel_rfl) loops16 rfl ?_
  rw [show (PUnit.unit : HL []) = () from rfl, fw16]
  have wm : numS.wfT m := okwf4 h.1
  have M2 : valN m < 2 ^ 256 := lt4 wm
  have A2 : valN a < 2 ^ 256 := lt4 (okwf4 h.2.1)
  have B2 : valN b < 2 ^ 256 := lt4 (okwf4 h.2.2.1)
  have T2 : valN t < 2 ^ 256 * 2 ^ 256 := lt8 (okwf8 h.2.2.2.1)
  refine ifB_of (fun hr => noRing_law (P := fun r => r = SV.av (.val .bool true)) wm hr rfl) (fun hr => ?_)
  have hok := ringOf_ok wm hr
  obtain ⟨hodd, hm1⟩ := noRing_no hr
  have M0 : 0 < valN m := by omega
  have hm : (ringOf m).1 = m := rfl
  have l1 := Nat.mod_lt (valN a * 2 ^ 256) M0
  have l2 := Nat.mod_lt (valN b * 2 ^ 256) M0
  have l3 := outN_lt (T := valN t) M0
  have z0 : valN [0#64, 0#64, 0#64, 0#64] = 0 := rfl
  unfold Q16_4 Q16_5 Q16_6 Q16_7
  refine ⟨hok, hok, hok, ?_⟩
  simp only [hm, z0, Nat.zero_add, Nat.add_zero]
  have p1 : 2 ^ 256 * outN (valN t) (valN m) < 2 ^ 256 * 2 ^ 256 := Nat.mul_lt_mul_of_pos_left (Nat.lt_trans l3 M2) (by omega)
  have p2 : valN a * 2 ^ 256 % valN m * (valN b * 2 ^ 256 % valN m) < 2 ^ 256 * 2 ^ 256 := Nat.mul_lt_mul'' (Nat.lt_trans l1 M2) (Nat.lt_trans l2 M2)
  have p3 : 2 ^ 256 * valN a < 2 ^ 256 * 2 ^ 256 := Nat.mul_lt_mul_of_pos_left A2 (by omega)
  have l4 := Nat.mod_lt (valN a * valN b) M0
  rw [v4 (Nat.lt_trans l3 M2), v8 p1, remN_pos M0, remN_pos M0, out_back hodd hm1, v4 (Nat.lt_trans l1 M2), v4 (Nat.lt_trans l2 M2), v8 (lt5 (Nat.lt_trans l1 M2)), out_mul hodd hm1 (Nat.mod_mod _ _), v8 p2,
    out_mul hodd hm1 mul_mont, v8 p3, out_mul hodd hm1 (Y := valN a) (by rw [Nat.mul_comm]), v4 (Nat.lt_trans l4 M2), Nat.mod_mul_mod]
  exact ifB_of (fun _ => ⟨hok, hok, ifB_of (fun _ => ⟨hok, hok, hok, ifB_of (fun _ => ⟨hok, hok, pbool (teq_of rfl)⟩) (fun h => teq_no rfl h)⟩) (fun h => teq_no rfl h)⟩) (fun h => teq_no rfl h)
end Go.Proofs.Ytninlahlmjhmhaa
