import Derived.Test.YtninlahlmjhmhaaRh
namespace Go.Proofs.Ytninlahlmjhmhaa
open Go.Ty

abbrev r17 : List It := [.v 8 .bool]
noncomputable def b17 : Code := Try.f17.body.getD .skip
abbrev I17_4 : List It := [.p 4 2000 numS, .p 5 2001 numS, .p 6 2002 numS, .p 7 2003 numS, .f 9 ringS]
abbrev I17_5 : List It := [.p 4 2000 numS, .p 5 2001 numS, .p 6 2002 numS, .p 7 2003 numS, .f 9 ringS, .p 11 2005 numS]
noncomputable def Q17_5 : CQ I17_5 [] r17 [] := fun (m, a, b, c, r, low, _) _ Kr _ =>
  ifB (teq (Sh.arr 4 (Sh.int IntKind.u64)) r.1 m)
    (okR r ∧
      ifB (decide (cmpI (valN (wordsN 4 (valN a * valN b % valN r.1))) (valN m) < 0))
        (okR r ∧
          okR r ∧
            ifB
              (teq (Sh.arr 4 (Sh.int IntKind.u64)) (wordsN 4 ((valN a + valN b) % valN r.1))
                (wordsN 4 ((valN b + valN a) % valN r.1)))
              (okR r ∧
                okR r ∧
                  okR r ∧
                    okR r ∧
                      ifB
                        (teq (Sh.arr 4 (Sh.int IntKind.u64))
                          (wordsN 4 ((valN (wordsN 4 ((valN a + valN b) % valN r.1)) + valN c) % valN r.1))
                          (wordsN 4 ((valN a + valN (wordsN 4 ((valN b + valN c) % valN r.1))) % valN r.1)))
                        (okR r ∧
                          okR r ∧
                            ifB
                              (teq (Sh.arr 4 (Sh.int IntKind.u64)) (wordsN 4 (valN a * valN b % valN r.1))
                                (wordsN 4 (valN b * valN a % valN r.1)))
                              (okR r ∧
                                okR r ∧
                                  okR r ∧
                                    okR r ∧
                                      ifB
                                        (teq (Sh.arr 4 (Sh.int IntKind.u64))
                                          (wordsN 4 (valN (wordsN 4 (valN a * valN b % valN r.1)) * valN c % valN r.1))
                                          (wordsN 4 (valN a * valN (wordsN 4 (valN b * valN c % valN r.1)) % valN r.1)))
                                        (okR r ∧
                                          okR r ∧
                                            okR r ∧
                                              okR r ∧
                                                okR r ∧
                                                  ifB
                                                    (teq (Sh.arr 4 (Sh.int IntKind.u64))
                                                      (wordsN 4
                                                        (valN a * valN (wordsN 4 ((valN b + valN c) % valN r.1)) %
                                                          valN r.1))
                                                      (wordsN 4
                                                        ((valN (wordsN 4 (valN a * valN b % valN r.1)) +
                                                            valN (wordsN 4 (valN a * valN c % valN r.1))) %
                                                          valN r.1)))
                                                    (okR r ∧
                                                      ifB
                                                        (teq (Sh.arr 4 (Sh.int IntKind.u64))
                                                          (wordsN 4 (valN a * valN [1#64, 0#64, 0#64, 0#64] % valN r.1))
                                                          low)
                                                        (okR r ∧
                                                          okR r ∧
                                                            ifB
                                                              (teq (Sh.arr 4 (Sh.int IntKind.u64))
                                                                (wordsN 4
                                                                  ((valN
                                                                        (wordsN 4
                                                                          ((valN a % valN r.1 + valN r.1 -
                                                                              valN b % valN r.1) %
                                                                            valN r.1)) +
                                                                      valN b) %
                                                                    valN r.1))
                                                                low)
                                                              (okR r ∧
                                                                okR r ∧
                                                                  okR r ∧
                                                                    okR r ∧
                                                                      Kr
                                                                        (teq (Sh.arr 4 (Sh.int IntKind.u64))
                                                                            (wordsN 4
                                                                              (valN
                                                                                    (wordsN 4
                                                                                      ((valN [0#64, 0#64, 0#64, 0#64] %
                                                                                              valN r.1 +
                                                                                            valN r.1 -
                                                                                          valN a % valN r.1) %
                                                                                        valN r.1)) *
                                                                                  valN
                                                                                    (wordsN 4
                                                                                      ((valN [0#64, 0#64, 0#64, 0#64] %
                                                                                              valN r.1 +
                                                                                            valN r.1 -
                                                                                          valN b % valN r.1) %
                                                                                        valN r.1)) %
                                                                                valN r.1))
                                                                            (wordsN 4 (valN a * valN b % valN r.1)),
                                                                          PUnit.unit))
                                                              (Kr (false, PUnit.unit)))
                                                        (Kr (false, PUnit.unit)))
                                                    (Kr (false, PUnit.unit)))
                                        (Kr (false, PUnit.unit)))
                              (Kr (false, PUnit.unit)))
                        (Kr (false, PUnit.unit)))
              (Kr (false, PUnit.unit)))
        (Kr (false, PUnit.unit)))
    (Kr (false, PUnit.unit))
noncomputable def Q17_4 : CQ I17_4 [] r17 [] := fun (m, a, b, c, r, _) Kn Kr _ =>
  okR r ∧
    Q17_5 (m, a, b, c, r, wordsN 4 ((valN a + valN [0#64, 0#64, 0#64, 0#64]) % valN r.1), PUnit.unit)
      (fun _ => Kn PUnit.unit) (fun y => Kr (y.1, PUnit.unit)) PUnit.unit
noncomputable abbrev L17 : LTab := [(1000004, ptC I17_4 [] r17 [] Q17_4), (1000005, ptC I17_5 [] r17 [] Q17_5)]
set_option maxRecDepth 100000 in
theorem piece17_4 (m : Sh.T (numS)) (a : Sh.T (numS)) (b : Sh.T (numS)) (c : Sh.T (numS)) (r : Sh.T (ringS)) (Kn : HI [] → Prop) (Kr : HI r17 → Prop) (Kx : HP []) : pieceT (W Y10 Try.f17.ntmps (LTab.look L17) (tailAt b17 1000004)) I17_4 [] r17 [] (m, a, b, c, r, ()) Kn Kr Kx = Q17_4 (m, a, b, c, r, ()) Kn Kr Kx := by kernel_rfl
set_option maxRecDepth 100000 in
theorem piece17_5 (m : Sh.T (numS)) (a : Sh.T (numS)) (b : Sh.T (numS)) (c : Sh.T (numS)) (r : Sh.T (ringS)) (low : Sh.T (numS)) (Kn : HI [] → Prop) (Kr : HI r17 → Prop) (Kx : HP []) : pieceT (W Y10 Try.f17.ntmps (LTab.look L17) (tailAt b17 1000005)) I17_5 [] r17 [] (m, a, b, c, r, low, ()) Kn Kr Kx = Q17_5 (m, a, b, c, r, low, ()) Kn Kr Kx := by kernel_rfl
theorem fw17 (m : Sh.T (numS)) (a : Sh.T (numS)) (b : Sh.T (numS)) (c : Sh.T (numS)) (P : SV → Prop) : FW Y10 Try.f17.ntmps (LTab.look L17) Try.f17 (argsOf [numS, numS, numS, numS] (m, a, b, c, ())) P =
 (  ifB (noRing (valN m))
    (ifB (decide (rd (Sh.int IntKind.u64) m 0 % 2#64 = 0#64)) (P (SV.av (AV.val Sh.bool true)))
      (P (SV.av (AV.val Sh.bool (teq (Sh.arr 4 (Sh.int IntKind.u64)) m [1#64, 0#64, 0#64, 0#64])))))
    (Q17_4 (m, a, b, c, ringOf m, PUnit.unit) (fun _ => False) (fun y => P (SV.av (AV.val Sh.bool y.1))) PUnit.unit)) := by kernel_rfl
set_option maxRecDepth 100000 in
theorem S17_5 : ∀ s K, ptC I17_5 [] r17 [] Q17_5 s K → SemC Y10 Try.f17.ntmps (tailAt b17 1000005) s K :=
  cut_sem shR_ok ct10_ok mixed (loopsOK (by kernel_rfl) (LTCons (noLoop (by kernel_rfl)) (LTCons (noLoop (by kernel_rfl)) LTNil))) (by kernel_rfl) (fun ⟨m, a, b, c, r, low, _⟩ Kn Kr Kx h => (piece17_5 m a b c r low Kn Kr Kx).mpr h)
set_option maxRecDepth 100000 in
theorem S17_4 : ∀ s K, ptC I17_4 [] r17 [] Q17_4 s K → SemC Y10 Try.f17.ntmps (tailAt b17 1000004) s K :=
  cut_sem shR_ok ct10_ok mixed (loopsOK (by kernel_rfl) (LTCons (noLoop (by kernel_rfl)) (LTCons (fun _ => by rw [show tailAt (tailAt b17 1000004) 1000005 = tailAt b17 1000005 from by kernel_rfl]; exact S17_5) LTNil))) (by kernel_rfl) (fun ⟨m, a, b, c, r, _⟩ Kn Kr Kx h => (piece17_4 m a b c r Kn Kr Kx).mpr h)
set_option maxRecDepth 100000 in
theorem loops17 : LoopsOK Y10 Try.f17.ntmps (LTab.look L17) b17 := loopsOK (by kernel_rfl) (LTCons (fun _ => S17_4) (LTCons (fun _ => S17_5) LTNil))

theorem step_t {s : Sh} {x y : s.T} {p f : Prop} (h : x = y) (hp : p) : ifB (teq s x y) p f := ifB_of (fun _ => hp) (fun h' => teq_no h h')
theorem neg_mul {a b M : Nat} (ha : a < M) (hb : b < M) : (M - a) % M * ((M - b) % M) % M = a * b % M := by
  rw [← Nat.mul_mod]
  have e : (M - a) * (M - b) + M * (a + b) = M * M + a * b := by
    obtain ⟨x, hx⟩ : ∃ x, M = a + x := ⟨M - a, by omega⟩
    obtain ⟨y, hy⟩ : ∃ y, M = b + y := ⟨M - b, by omega⟩
    rw [show M - a = x by omega, show M - b = y by omega]
    have e1 : M * M = (a + x) * (b + y) := by rw [← hx, ← hy]
    rw [e1, Nat.mul_add M]
    have e2 : M * a = (b + y) * a := by rw [← hy]
    have e3 : M * b = (a + x) * b := by rw [← hx]
    rw [e2, e3]; grind
  have e2 := congrArg (· % M) e
  simp only [Nat.add_mul_mod_self_left] at e2
  rw [e2, Nat.mul_add_mod]
theorem sub_add_mod {A B M : Nat} (h : 0 < M) : ((A % M + M - B % M) % M + B) % M = A % M := by
  have h2 := Nat.mod_lt B h
  have e := Nat.div_add_mod B M
  have e2 : A % M + M - B % M + B = A % M + M * (B / M + 1) := by
    rw [Nat.mul_add, Nat.mul_one]
    generalize M * (B / M) = z at *
    omega
  rw [Nat.mod_add_mod, e2, Nat.add_mul_mod_self_left, Nat.mod_mod]
set_option maxHeartbeats 1000000 in
theorem walk17 (xs : HL [numS, numS, numS, numS]) (h : okHL [numS, numS, numS, numS] xs) : PC (bx Try.prog noGl) 17 (argsOf [numS, numS, numS, numS] xs) (.av (.val .bool true)) := by
  obtain ⟨m, a, b, c, ⟨⟩⟩ := xs
  refine PC_of_fw (t := L17) shR_ok ct10_ok mixed Try.func17 (c := b17) rfl (by kernel_rfl) (by kernel_rfl) loops17 rfl ?_
  rw [show (PUnit.unit : HL []) = () from rfl, fw17]
  have wm : numS.wfT m := okwf4 h.1
  have M2 : valN m < 2 ^ 256 := lt4 wm
  refine ifB_of (fun hr => noRing_law (P := fun r => r = SV.av (.val .bool true)) wm hr rfl) (fun hr => ?_)
  have hok := ringOf_ok wm hr
  obtain ⟨hodd, hm1⟩ := noRing_no hr
  have M0 : 0 < valN m := by omega
  have hm : (ringOf m).1 = m := rfl
  have z0 : valN [0#64, 0#64, 0#64, 0#64] = 0 := rfl
  have z1 : valN [1#64, 0#64, 0#64, 0#64] = 1 := rfl
  have w : ∀ X : Nat, valN (wordsN 4 (X % valN m)) = X % valN m := fun X => v4 (Nat.lt_trans (Nat.mod_lt X M0) M2)
  unfold Q17_4 Q17_5
  simp only [hm, z0, z1, w, Nat.add_zero, Nat.mul_one]
  refine ⟨hok, step_t rfl ⟨hok, ifB_of (fun _ => ⟨hok, hok, step_t (by rw [Nat.add_comm]) ⟨hok, hok, hok, hok, step_t ?_ ⟨hok, hok, step_t (by rw [Nat.mul_comm]) ⟨hok, hok, hok, hok, step_t ?_ ⟨hok, hok, hok, hok, hok, step_t ?_ ⟨hok, step_t rfl ⟨hok, hok, step_t ?_ ⟨hok, hok, hok, hok, pbool (teq_of ?_)⟩⟩⟩⟩⟩⟩⟩⟩) (fun h => ?_)⟩⟩
  · rw [Nat.mod_add_mod, Nat.add_mod_mod, Nat.add_assoc]
  · rw [Nat.mod_mul_mod, Nat.mul_mod_mod, Nat.mul_assoc]
  · rw [Nat.mul_mod_mod, Nat.mul_add, ← Nat.add_mod]
  · rw [sub_add_mod M0]
  · rw [Nat.zero_mod, Nat.zero_add, neg_mul (Nat.mod_lt _ M0) (Nat.mod_lt _ M0), ← Nat.mul_mod]
  · rw [cmpI_lt (Nat.mod_lt _ M0)] at h; exact absurd h (by decide)
end Go.Proofs.Ytninlahlmjhmhaa
