import Derived.Test.YtninlahlmjhmhaaRh
namespace Go.Proofs.Ytninlahlmjhmhaa
open Go.Ty

abbrev r20 : List It := [.v 10 .bool]
noncomputable def b20 : Code := Try.f20.body.getD .skip
abbrev I20_4 : List It := [.p 6 2000 numS, .p 7 2001 numS, .p 8 2002 numS, .p 9 2003 numS, .f 11 ringS]
abbrev I20_5 : List It := [.p 6 2000 numS, .p 7 2001 numS, .p 8 2002 numS, .p 9 2003 numS, .f 11 ringS, .p 13 2005 numS, .v 14 u64S]
abbrev I20_6 : List It := [.p 6 2000 numS, .p 7 2001 numS, .p 8 2002 numS, .p 9 2003 numS, .f 11 ringS, .p 13 2005 numS, .v 14 u64S, .p 15 2007 numS]
abbrev I20_8 : List It := [.p 6 2000 numS, .p 8 2001 numS, .p 9 2002 numS, .f 11 ringS, .p 13 2004 numS, .v 14 u64S]
noncomputable def Q20_8 : CQ I20_8 [] r20 [] := fun (a, i, j, r, s, k, _) _ Kr _ =>
  ifB (decide (k = 1#64)) (Kr (true, PUnit.unit))
    (okR r ∧
      okR r ∧
        okR r ∧
          okR r ∧
            Kr
              (teq (Sh.arr 4 (Sh.int IntKind.u64)) (wordsN 4 (powN (valN a) (valN s) (valN r.1)))
                  (wordsN 4
                    (valN (wordsN 4 (powN (valN a) (valN i) (valN r.1))) *
                        valN (wordsN 4 (powN (valN a) (valN j) (valN r.1))) %
                      valN r.1)),
                PUnit.unit))
noncomputable def Q20_6 : CQ I20_6 [] r20 [] := fun (a, b, i, j, r, s, k, o, _) Kn Kr _ =>
  okR r ∧
    ifB (!teq (Sh.arr 4 (Sh.int IntKind.u64)) (wordsN 4 (powN (valN a) (valN [0#64, 0#64, 0#64, 0#64]) (valN r.1))) o)
      (Kr (false, PUnit.unit))
      (okR r ∧
        okR r ∧
          ifB
            (!teq (Sh.arr 4 (Sh.int IntKind.u64)) (wordsN 4 (powN (valN a) (valN o) (valN r.1)))
                (wordsN 4 ((valN a + valN [0#64, 0#64, 0#64, 0#64]) % valN r.1)))
            (Kr (false, PUnit.unit))
            (okR r ∧
              okR r ∧
                okR r ∧
                  okR r ∧
                    okR r ∧
                      ifB
                        (!teq (Sh.arr 4 (Sh.int IntKind.u64))
                            (wordsN 4 (powN (valN (wordsN 4 (valN a * valN b % valN r.1))) (valN i) (valN r.1)))
                            (wordsN 4
                              (valN (wordsN 4 (powN (valN a) (valN i) (valN r.1))) *
                                  valN (wordsN 4 (powN (valN b) (valN i) (valN r.1))) %
                                valN r.1)))
                        (Kr (false, PUnit.unit))
                        (Q20_8 (a, i, j, r, s, k, PUnit.unit) (fun _ => Kn PUnit.unit) (fun y => Kr (y.1, PUnit.unit))
                          PUnit.unit)))
noncomputable def Q20_5 : CQ I20_5 [] r20 [] := fun (a, b, i, j, r, s, k, _) Kn Kr _ =>
  Q20_6 (a, b, i, j, r, s, k, [1#64, 0#64, 0#64, 0#64], PUnit.unit) (fun _ => Kn PUnit.unit)
    (fun y => Kr (y.1, PUnit.unit)) PUnit.unit
noncomputable def Q20_4 : CQ I20_4 [] r20 [] := fun (a, b, i, j, r, _) Kn Kr _ =>
  Q20_5
    (a, b, i, j, r, wordsN 4 (valN i + valN j),
      BitVec.ofNat 64
        ((valN i + valN j) / (2 ^ 256)),
      PUnit.unit)
    (fun _ => Kn PUnit.unit) (fun y => Kr (y.1, PUnit.unit)) PUnit.unit
noncomputable abbrev L20 : LTab := [(1000004, ptC I20_4 [] r20 [] Q20_4), (1000005, ptC I20_5 [] r20 [] Q20_5), (1000006, ptC I20_6 [] r20 [] Q20_6), (1000008, ptC I20_8 [] r20 [] Q20_8)]
theorem piece20_4 (a : Sh.T (numS)) (b : Sh.T (numS)) (i : Sh.T (numS)) (j : Sh.T (numS)) (r : Sh.T (ringS)) (Kn : HI [] → Prop) (Kr : HI r20 → Prop) (Kx : HP []) : pieceT (W Y10 Try.f20.ntmps (LTab.look L20) (tailAt b20 1000004)) I20_4 [] r20 [] (a, b, i, j, r, ()) Kn Kr Kx = Q20_4 (a, b, i, j, r, ()) Kn Kr Kx := by kernel_rfl
theorem piece20_5 (a : Sh.T (numS)) (b : Sh.T (numS)) (i : Sh.T (numS)) (j : Sh.T (numS)) (r : Sh.T (ringS)) (s : Sh.T (numS)) (k : Sh.T (u64S)) (Kn : HI [] → Prop) (Kr : HI r20 → Prop) (Kx : HP []) : pieceT (W Y10 Try.f20.ntmps (LTab.look L20) (tailAt b20 1000005)) I20_5 [] r20 [] (a, b, i, j, r, s, k, ()) Kn Kr Kx = Q20_5 (a, b, i, j, r, s, k, ()) Kn Kr Kx := by kernel_rfl
theorem piece20_6 (a : Sh.T (numS)) (b : Sh.T (numS)) (i : Sh.T (numS)) (j : Sh.T (numS)) (r : Sh.T (ringS)) (s : Sh.T (numS)) (k : Sh.T (u64S)) (o : Sh.T (numS)) (Kn : HI [] → Prop) (Kr : HI r20 → Prop) (Kx : HP []) : pieceT (W Y10 Try.f20.ntmps (LTab.look L20) (tailAt b20 1000006)) I20_6 [] r20 [] (a, b, i, j, r, s, k, o, ()) Kn Kr Kx = Q20_6 (a, b, i, j, r, s, k, o, ()) Kn Kr Kx := by kernel_rfl
theorem piece20_8 (a : Sh.T (numS)) (i : Sh.T (numS)) (j : Sh.T (numS)) (r : Sh.T (ringS)) (s : Sh.T (numS)) (k : Sh.T (u64S)) (Kn : HI [] → Prop) (Kr : HI r20 → Prop) (Kx : HP []) : pieceT (W Y10 Try.f20.ntmps (LTab.look L20) (tailAt b20 1000008)) I20_8 [] r20 [] (a, i, j, r, s, k, ()) Kn Kr Kx = Q20_8 (a, i, j, r, s, k, ()) Kn Kr Kx := by kernel_rfl
theorem fw20 (m : Sh.T (numS)) (a : Sh.T (numS)) (b : Sh.T (numS)) (i : Sh.T (numS)) (j : Sh.T (numS)) (P : SV → Prop) : FW Y10 Try.f20.ntmps (LTab.look L20) Try.f20 (argsOf [numS, numS, numS, numS, numS] (m, a, b, i, j, ())) P =
 (  ifB (noRing (valN m))
    (ifB (decide (rd (Sh.int IntKind.u64) m 0 % 2#64 = 0#64)) (P (SV.av (AV.val Sh.bool true)))
      (P (SV.av (AV.val Sh.bool (teq (Sh.arr 4 (Sh.int IntKind.u64)) m [1#64, 0#64, 0#64, 0#64])))))
    (Q20_4 (a, b, i, j, ringOf m, PUnit.unit) (fun _ => False) (fun y => P (SV.av (AV.val Sh.bool y.1))) PUnit.unit)) := by kernel_rfl
theorem S20_8 : ∀ s K, ptC I20_8 [] r20 [] Q20_8 s K → SemC Y10 Try.f20.ntmps (tailAt b20 1000008) s K :=
  cut_sem shR_ok ct10_ok mixed (loopsOK (by kernel_rfl) (LTCons (noLoop (by kernel_rfl)) (LTCons (noLoop (by kernel_rfl)) (LTCons (noLoop (by kernel_rfl)) (LTCons (noLoop (by kernel_rfl)) LTNil))))) (by kernel_rfl) (fun ⟨a, i, j, r, s, k, _⟩ Kn Kr Kx h => (piece20_8 a i j r s k Kn Kr Kx).mpr h)
theorem S20_6 : ∀ s K, ptC I20_6 [] r20 [] Q20_6 s K → SemC Y10 Try.f20.ntmps (tailAt b20 1000006) s K :=
  cut_sem shR_ok ct10_ok mixed (loopsOK (by kernel_rfl) (LTCons (noLoop (by kernel_rfl)) (LTCons (noLoop (by kernel_rfl)) (LTCons (noLoop (by kernel_rfl)) (LTCons (fun _ => by rw [show tailAt (tailAt b20 1000006) 1000008 = tailAt b20 1000008 from by kernel_rfl]; exact S20_8) LTNil))))) (by kernel_rfl) (fun ⟨a, b, i, j, r, s, k, o, _⟩ Kn Kr Kx h => (piece20_6 a b i j r s k o Kn Kr Kx).mpr h)
theorem S20_5 : ∀ s K, ptC I20_5 [] r20 [] Q20_5 s K → SemC Y10 Try.f20.ntmps (tailAt b20 1000005) s K :=
  cut_sem shR_ok ct10_ok mixed (loopsOK (by kernel_rfl) (LTCons (noLoop (by kernel_rfl)) (LTCons (noLoop (by kernel_rfl)) (LTCons (fun _ => by rw [show tailAt (tailAt b20 1000005) 1000006 = tailAt b20 1000006 from by kernel_rfl]; exact S20_6) (LTCons (fun _ => by rw [show tailAt (tailAt b20 1000005) 1000008 = tailAt b20 1000008 from by kernel_rfl]; exact S20_8) LTNil))))) (by kernel_rfl) (fun ⟨a, b, i, j, r, s, k, _⟩ Kn Kr Kx h => (piece20_5 a b i j r s k Kn Kr Kx).mpr h)
theorem S20_4 : ∀ s K, ptC I20_4 [] r20 [] Q20_4 s K → SemC Y10 Try.f20.ntmps (tailAt b20 1000004) s K :=
  cut_sem shR_ok ct10_ok mixed (loopsOK (by kernel_rfl) (LTCons (noLoop (by kernel_rfl)) (LTCons (fun _ => by rw [show tailAt (tailAt b20 1000004) 1000005 = tailAt b20 1000005 from by kernel_rfl]; exact S20_5) (LTCons (fun _ => by rw [show tailAt (tailAt b20 1000004) 1000006 = tailAt b20 1000006 from by kernel_rfl]; exact S20_6) (LTCons (fun _ => by rw [show tailAt (tailAt b20 1000004) 1000008 = tailAt b20 1000008 from by kernel_rfl]; exact S20_8) LTNil))))) (by kernel_rfl) (fun ⟨a, b, i, j, r, _⟩ Kn Kr Kx h => (piece20_4 a b i j r Kn Kr Kx).mpr h)
theorem loops20 : LoopsOK Y10 Try.f20.ntmps (LTab.look L20) b20 := loopsOK (by kernel_rfl) (LTCons (fun _ => S20_4) (LTCons (fun _ => S20_5) (LTCons (fun _ => S20_6) (LTCons (fun _ => S20_8) LTNil))))

theorem teq_nn {s : Sh} {x : s.T} {p : Prop} (h : (!teq s x x) = true) : p := by rw [teq_of (s := s) (x := x) rfl] at h; cases h
theorem walk20 (xs : HL [numS, numS, numS, numS, numS]) (h : okHL [numS, numS, numS, numS, numS] xs) : PC (bx Try.prog noGl) 20 (argsOf [numS, numS, numS, numS, numS] xs) (.av (.val .bool true)) := by
  obtain ⟨m, a, b, i, j, ⟨⟩⟩ := xs
  refine PC_of_fw (t := L20) shR_ok ct10_ok mixed Try.func20 (c := b20) rfl (by kernel_rfl) (by kernel_rfl) loops20 rfl ?_
  rw [show (PUnit.unit : HL []) = () from rfl, fw20]
  have wm : numS.wfT m := okwf4 h.1
  have M2 : valN m < 2 ^ 256 := lt4 wm
  have I2 : valN i < 2 ^ 256 := lt4 (okwf4 h.2.2.2.1)
  have J2 : valN j < 2 ^ 256 := lt4 (okwf4 h.2.2.2.2.1)
  refine ifB_of (fun hr => noRing_law (P := fun r => r = SV.av (.val .bool true)) wm hr rfl) (fun hr => ?_)
  have hok := ringOf_ok wm hr
  obtain ⟨hodd, hm1⟩ := noRing_no hr
  have M0 : 0 < valN m := by omega
  have hm : (ringOf m).1 = m := rfl
  have z0 : valN [0#64, 0#64, 0#64, 0#64] = 0 := rfl
  have z1 : valN [1#64, 0#64, 0#64, 0#64] = 1 := rfl
  have l0 : ∀ A K : Nat, powN A K (valN m) < 2 ^ 256 := fun A K => Nat.lt_trans (powN_lt M0) M2
  have q0 : powN (valN a) 0 (valN m) = 1 := by unfold powN; rw [Nat.pow_zero, Nat.mod_eq_of_lt hm1]
  have q1 : powN (valN a) 1 (valN m) = valN a % valN m := by unfold powN; rw [Nat.pow_one]
  have q2 : wordsN 4 1 = [1#64, 0#64, 0#64, 0#64] := by decide
  have l4 := Nat.mod_lt (valN a * valN b) M0
  unfold Q20_4 Q20_5 Q20_6 Q20_8
  simp only [hm, z0, z1, Nat.zero_add, Nat.add_zero, q0, q1, q2]
  rw [v4 (Nat.lt_trans l4 M2), v4 (l0 _ _), v4 (l0 _ _), powN_mul]
  refine ⟨hok, ifB_of (fun h => absurd h (by decide)) (fun _ => ⟨hok, hok, ifB_of (fun h => teq_nn h) (fun _ => ⟨hok, hok, hok, hok, hok, ifB_of (fun h => teq_nn h) (fun _ => ifB_of (fun _ => trivial) (fun h => ⟨hok, hok, hok, hok, ?_⟩))⟩)⟩)⟩
  have h := of_decide_eq_false h
  have hlt : valN i + valN j < 2 ^ 256 := by
    rcases Nat.lt_or_ge (valN i + valN j) (2 ^ 256) with c | c
    · exact c
    · exact absurd (by rw [show (valN i + valN j) / 2 ^ 256 = 1 by omega]) h
  rw [v4 hlt, v4 (l0 _ _), powN_add]
  exact pbool (teq_of rfl)
end Go.Proofs.Ytninlahlmjhmhaa
