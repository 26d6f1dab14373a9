import Derived.Test.YtghmfiandllpfaaDoorB0
import Derived.Test.YtghmfiandllpfaaDoorFd
namespace Go.Proofs.YtghmfiandllpfaaDoor.Lb
open Go.Ty

abbrev r36 : List It := [.p 2 2000 numS, .v 3 .bool]
noncomputable def b36 : Code := Tryd.f95.body.getD .skip
abbrev I36_3 : List It := [.p 1 2000 numS, .p 2 2001 numS, .p 4 2002 numS]
abbrev I36_4 : List It := [.p 1 2000 numS, .p 2 2001 numS, .p 4 2002 numS, .p 5 2003 numS]
abbrev I36_7 : List It := [.p 1 2000 numS, .p 2 2001 numS, .p 5 2002 numS]
abbrev I36_9 : List It := [.p 2 2000 numS, .p 5 2001 numS]
abbrev I36_11 : List It := [.p 2 2000 numS, .p 5 2001 numS]
noncomputable def Q36_11 : CQ I36_11 [] r36 [] := fun (_, x, _) _ Kr _ =>
  Kr (x, true, PUnit.unit)
noncomputable def Q36_9 : CQ I36_9 [] r36 [] := fun (o, x, _) Kn Kr _ =>
  ifB (decide (rd (Sh.int IntKind.u64) x 0 &&& 1#64 = 1#64))
    (Q36_11 (o, wordsN 4 ((valN [0#64, 0#64, 0#64, 0#64] % PP + PP - valN x % PP) % PP), PUnit.unit)
      (fun _ => Kn PUnit.unit) (fun y => Kr (y.1, y.2.1, PUnit.unit)) PUnit.unit)
    (Q36_11 (o, x, PUnit.unit) (fun _ => Kn PUnit.unit) (fun y => Kr (y.1, y.2.1, PUnit.unit)) PUnit.unit)
noncomputable def Q36_7 : CQ I36_7 [] r36 [] := fun (a, o, x, _) Kn Kr _ =>
  ifB (!teq (Sh.arr 4 (Sh.int IntKind.u64)) (wordsN 4 (valN x * valN x % PP)) (wordsN 4 (valN a % PP)))
    (Kr ([0#64, 0#64, 0#64, 0#64], false, PUnit.unit))
    (Q36_9 (o, x, PUnit.unit) (fun _ => Kn PUnit.unit) (fun y => Kr (y.1, y.2.1, PUnit.unit)) PUnit.unit)
noncomputable def Q36_4 : CQ I36_4 [] r36 [] := fun (a, o, _, x, _) Kn Kr _ =>
  ifB (!teq (Sh.arr 4 (Sh.int IntKind.u64)) (wordsN 4 (valN x * valN x % PP)) (wordsN 4 (valN a % PP)))
    (Q36_7
      (a, o,
        wordsN 4
          (valN x *
              valN
                (wordsN 4
                  (powP (valN [2#64, 0#64, 0#64, 0#64])
                    (valN
                      (wordsN 4
                        (valN (wordsN 4 (shiftN (valN [1#64, 0#64, 0#64, 0#64]) 253)) + B256 -
                          valN [5#64, 0#64, 0#64, 0#64]))))) %
            PP),
        PUnit.unit)
      (fun _ => Kn PUnit.unit) (fun y => Kr (y.1, y.2.1, PUnit.unit)) PUnit.unit)
    (Q36_7 (a, o, x, PUnit.unit) (fun _ => Kn PUnit.unit) (fun y => Kr (y.1, y.2.1, PUnit.unit)) PUnit.unit)
noncomputable def Q36_3 : CQ I36_3 [] r36 [] := fun (a, o, n, _) Kn Kr _ =>
  Q36_4 (a, o, n, wordsN 4 (powP (valN a) (valN n)), PUnit.unit) (fun _ => Kn PUnit.unit)
    (fun y => Kr (y.1, y.2.1, PUnit.unit)) PUnit.unit
noncomputable abbrev L36 : LTab := [(1000003, ptC I36_3 [] r36 [] Q36_3), (1000004, ptC I36_4 [] r36 [] Q36_4), (1000007, ptC I36_7 [] r36 [] Q36_7), (1000009, ptC I36_9 [] r36 [] Q36_9), (1000011, ptC I36_11 [] r36 [] Q36_11)]
set_option maxRecDepth 100000 in
theorem piece36_3 (a : Sh.T (numS)) (o : Sh.T (numS)) (n : Sh.T (numS)) (Kn : HI [] → Prop) (Kr : HI r36 → Prop) (Kx : HP []) : pieceT (W F5 Tryd.f95.ntmps (LTab.look L36) (tailAt b36 1000003)) I36_3 [] r36 [] (a, o, n, ()) Kn Kr Kx = Q36_3 (a, o, n, ()) Kn Kr Kx := by kernel_rfl
set_option maxRecDepth 100000 in
theorem piece36_4 (a : Sh.T (numS)) (o : Sh.T (numS)) (n : Sh.T (numS)) (x : Sh.T (numS)) (Kn : HI [] → Prop) (Kr : HI r36 → Prop) (Kx : HP []) : pieceT (W F5 Tryd.f95.ntmps (LTab.look L36) (tailAt b36 1000004)) I36_4 [] r36 [] (a, o, n, x, ()) Kn Kr Kx = Q36_4 (a, o, n, x, ()) Kn Kr Kx := by kernel_rfl
set_option maxRecDepth 100000 in
theorem piece36_7 (a : Sh.T (numS)) (o : Sh.T (numS)) (x : Sh.T (numS)) (Kn : HI [] → Prop) (Kr : HI r36 → Prop) (Kx : HP []) : pieceT (W F5 Tryd.f95.ntmps (LTab.look L36) (tailAt b36 1000007)) I36_7 [] r36 [] (a, o, x, ()) Kn Kr Kx = Q36_7 (a, o, x, ()) Kn Kr Kx := by kernel_rfl
set_option maxRecDepth 100000 in
theorem piece36_9 (o : Sh.T (numS)) (x : Sh.T (numS)) (Kn : HI [] → Prop) (Kr : HI r36 → Prop) (Kx : HP []) : pieceT (W F5 Tryd.f95.ntmps (LTab.look L36) (tailAt b36 1000009)) I36_9 [] r36 [] (o, x, ()) Kn Kr Kx = Q36_9 (o, x, ()) Kn Kr Kx := by kernel_rfl
set_option maxRecDepth 100000 in
theorem piece36_11 (o : Sh.T (numS)) (x : Sh.T (numS)) (Kn : HI [] → Prop) (Kr : HI r36 → Prop) (Kx : HP []) : pieceT (W F5 Tryd.f95.ntmps (LTab.look L36) (tailAt b36 1000011)) I36_11 [] r36 [] (o, x, ()) Kn Kr Kx = Q36_11 (o, x, ()) Kn Kr Kx := by kernel_rfl
theorem fw36 (a : Sh.T (numS)) (P : SV → Prop) : FW F5 Tryd.f95.ntmps (LTab.look L36) Tryd.f95 (argsOf [numS] (a, ())) P =
 (  Q36_3
    (a, [0#64, 0#64, 0#64, 0#64],
      wordsN 4 (valN (wordsN 4 (shiftN (valN [1#64, 0#64, 0#64, 0#64]) 252)) + B256 - valN [2#64, 0#64, 0#64, 0#64]),
      PUnit.unit)
    (fun _ => False) (fun y => P (SV.tup [AV.val (Sh.arr 4 (Sh.int IntKind.u64)) y.1, AV.val Sh.bool y.2.1])) PUnit.unit) := by kernel_rfl
set_option maxRecDepth 100000 in
theorem S36_11 : ∀ s K, ptC I36_11 [] r36 [] Q36_11 s K → SemC F5 Tryd.f95.ntmps (tailAt b36 1000011) s K :=
  cut_sem shU_ok f5_ok mixed (loopsOK (by kernel_rfl) (LTCons (noLoop (by kernel_rfl)) (LTCons (noLoop (by kernel_rfl)) (LTCons (noLoop (by kernel_rfl)) (LTCons (noLoop (by kernel_rfl)) (LTCons (noLoop (by kernel_rfl)) LTNil)))))) (by kernel_rfl) (fun ⟨o, x, _⟩ Kn Kr Kx h => (piece36_11 o x Kn Kr Kx).mpr h)
set_option maxRecDepth 100000 in
theorem S36_9 : ∀ s K, ptC I36_9 [] r36 [] Q36_9 s K → SemC F5 Tryd.f95.ntmps (tailAt b36 1000009) s K :=
  cut_sem shU_ok f5_ok mixed (loopsOK (by kernel_rfl) (LTCons (noLoop (by kernel_rfl)) (LTCons (noLoop (by kernel_rfl)) (LTCons (noLoop (by kernel_rfl)) (LTCons (noLoop (by kernel_rfl)) (LTCons (fun _ => by rw [show tailAt (tailAt b36 1000009) 1000011 = tailAt b36 1000011 from by kernel_rfl]; exact S36_11) LTNil)))))) (by kernel_rfl) (fun ⟨o, x, _⟩ Kn Kr Kx h => (piece36_9 o x Kn Kr Kx).mpr h)
set_option maxRecDepth 100000 in
theorem S36_7 : ∀ s K, ptC I36_7 [] r36 [] Q36_7 s K → SemC F5 Tryd.f95.ntmps (tailAt b36 1000007) s K :=
  cut_sem shU_ok f5_ok mixed (loopsOK (by kernel_rfl) (LTCons (noLoop (by kernel_rfl)) (LTCons (noLoop (by kernel_rfl)) (LTCons (noLoop (by kernel_rfl)) (LTCons (fun _ => by rw [show tailAt (tailAt b36 1000007) 1000009 = tailAt b36 1000009 from by kernel_rfl]; exact S36_9) (LTCons (fun _ => by rw [show tailAt (tailAt b36 1000007) 1000011 = tailAt b36 1000011 from by kernel_rfl]; exact S36_11) LTNil)))))) (by kernel_rfl) (fun ⟨a, o, x, _⟩ Kn Kr Kx h => (piece36_7 a o x Kn Kr Kx).mpr h)
set_option maxRecDepth 100000 in
theorem S36_4 : ∀ s K, ptC I36_4 [] r36 [] Q36_4 s K → SemC F5 Tryd.f95.ntmps (tailAt b36 1000004) s K :=
  cut_sem shU_ok f5_ok mixed (loopsOK (by kernel_rfl) (LTCons (noLoop (by kernel_rfl)) (LTCons (noLoop (by kernel_rfl)) (LTCons (fun _ => by rw [show tailAt (tailAt b36 1000004) 1000007 = tailAt b36 1000007 from by kernel_rfl]; exact S36_7) (LTCons (fun _ => by rw [show tailAt (tailAt b36 1000004) 1000009 = tailAt b36 1000009 from by kernel_rfl]; exact S36_9) (LTCons (fun _ => by rw [show tailAt (tailAt b36 1000004) 1000011 = tailAt b36 1000011 from by kernel_rfl]; exact S36_11) LTNil)))))) (by kernel_rfl) (fun ⟨a, o, n, x, _⟩ Kn Kr Kx h => (piece36_4 a o n x Kn Kr Kx).mpr h)
set_option maxRecDepth 100000 in
theorem S36_3 : ∀ s K, ptC I36_3 [] r36 [] Q36_3 s K → SemC F5 Tryd.f95.ntmps (tailAt b36 1000003) s K :=
  cut_sem shU_ok f5_ok mixed (loopsOK (by kernel_rfl) (LTCons (noLoop (by kernel_rfl)) (LTCons (fun _ => by rw [show tailAt (tailAt b36 1000003) 1000004 = tailAt b36 1000004 from by kernel_rfl]; exact S36_4) (LTCons (fun _ => by rw [show tailAt (tailAt b36 1000003) 1000007 = tailAt b36 1000007 from by kernel_rfl]; exact S36_7) (LTCons (fun _ => by rw [show tailAt (tailAt b36 1000003) 1000009 = tailAt b36 1000009 from by kernel_rfl]; exact S36_9) (LTCons (fun _ => by rw [show tailAt (tailAt b36 1000003) 1000011 = tailAt b36 1000011 from by kernel_rfl]; exact S36_11) LTNil)))))) (by kernel_rfl) (fun ⟨a, o, n, _⟩ Kn Kr Kx h => (piece36_3 a o n Kn Kr Kx).mpr h)
set_option maxRecDepth 100000 in
theorem loops36 : LoopsOK F5 Tryd.f95.ntmps (LTab.look L36) b36 := loopsOK (by kernel_rfl) (LTCons (fun _ => S36_3) (LTCons (fun _ => S36_4) (LTCons (fun _ => S36_7) (LTCons (fun _ => S36_9) (LTCons (fun _ => S36_11) LTNil)))))

/-! ## Sqrt -/
noncomputable def E1 : Nat := Classical.choose (⟨2 ^ 252 - 2, rfl⟩ : ∃ n : Nat, n = 2 ^ 252 - 2)
theorem E1_eq : E1 = 2 ^ 252 - 2 := Classical.choose_spec (⟨2 ^ 252 - 2, rfl⟩ : ∃ n : Nat, n = 2 ^ 252 - 2)
noncomputable def E2 : Nat := Classical.choose (⟨2 ^ 253 - 5, rfl⟩ : ∃ n : Nat, n = 2 ^ 253 - 5)
theorem E2_eq : E2 = 2 ^ 253 - 5 := Classical.choose_spec (⟨2 ^ 253 - 5, rfl⟩ : ∃ n : Nat, n = 2 ^ 253 - 5)
noncomputable def sqx (A : Nat) : Nat := bif decide (powP A E1 * powP A E1 % PP = A % PP) then powP A E1 else powP A E1 * powP 2 E2 % PP
noncomputable def sqrtB (A : Nat) : Bool := decide (sqx A * sqx A % PP = A % PP)
noncomputable def evenP (x : Nat) : Nat := bif decide (x % 2 = 1) then (PP - x % PP) % PP else x
noncomputable def sqrtN (A : Nat) : Nat := bif sqrtB A then evenP (sqx A) else 0
noncomputable def sqrtF : HL [numS] → SV := fun xs => .tup [.val numS (wordsN 4 (sqrtN (valN xs.1))), .val .bool (sqrtB (valN xs.1))]
theorem low_one {x : List (BitVec 64)} : rd (Sh.int IntKind.u64) x 0 &&& 1#64 = 1#64 ↔ valN x % 2 = 1 := by
  have h := valN_bit x 0 0 (by omega)
  rw [show 64 * 0 + 0 = 0 from rfl, Nat.pow_zero, Nat.div_one, Nat.div_one] at h
  have h1 := and_one (rd u64S x 0) 0
  rw [BitVec.ushiftRight_zero, Nat.pow_zero, Nat.div_one, ← h] at h1
  rw [show rd (Sh.int IntKind.u64) x 0 &&& 1#64 = _ from h1]
  constructor
  · intro e
    have := congrArg BitVec.toNat e
    rw [BitVec.toNat_ofNat, show (1#64).toNat = 1 from rfl] at this
    omega
  · intro e; rw [e]
theorem pow252 : valN (wordsN 4 (valN (wordsN 4 (shiftN 1 252)) + 2 ^ 256 - 2)) = E1 := by rw [E1_eq, wordsN_eq]; decide
theorem pow253 : valN (wordsN 4 (valN (wordsN 4 (shiftN 1 253)) + 2 ^ 256 - 5)) = E2 := by rw [E2_eq, wordsN_eq]; decide
theorem words_inj {X Y : Nat} (hx : X < 2 ^ 256) (hy : Y < 2 ^ 256) : teq (Sh.arr 4 (Sh.int IntKind.u64)) (wordsN 4 X) (wordsN 4 Y) = decide (X = Y) := by
  by_cases e : X = Y
  · rw [e, decide_eq_true rfl]; exact teq_of rfl
  · rw [decide_eq_false e]
    refine Bool.eq_false_iff.2 fun h => e ?_
    have h : wordsN 4 X = wordsN 4 Y := teq_iff.1 h
    rw [← v4 hx, h, v4 hy]
set_option maxHeartbeats 1000000 in
theorem sqrt_ok : COK Tryd.prog GL 95 (conT [numS] sqrtF) := by
  refine conT_ok (fun xs hw => ?_) (fun xs => rfl)
  obtain ⟨a, ⟨⟩⟩ := xs
  have eF : sqrtF (a, PUnit.unit) = SV.tup [.val numS (wordsN 4 (sqrtN (valN a))), .val .bool (sqrtB (valN a))] := rfl
  refine PC_of_fw (t := L36) shU_ok f5_ok mixed Tryd.func95 (c := b36) rfl (by kernel_rfl) (by kernel_rfl) loops36 rfl ?_
  rw [show (PUnit.unit : HL []) = () from rfl, fw36, eF]
  have z0 : valN [0#64, 0#64, 0#64, 0#64] = 0 := rfl
  have z1 : valN [1#64, 0#64, 0#64, 0#64] = 1 := rfl
  have z2 : valN [2#64, 0#64, 0#64, 0#64] = 2 := rfl
  have z5 : valN [5#64, 0#64, 0#64, 0#64] = 5 := rfl
  -- behind the choice of x
  have tail : ∀ x : Nat, x < PP → x = sqx (valN a) → ifB (!decide (x * x % PP = valN a % PP)) (SV.tup [AV.val numS [0#64, 0#64, 0#64, 0#64], AV.val Sh.bool false] = SV.tup [.val numS (wordsN 4 (sqrtN (valN a))), .val .bool (sqrtB (valN a))])
      (ifB (decide (x % 2 = 1)) (SV.tup [AV.val numS (wordsN 4 ((0 % PP + PP - x % PP) % PP)), AV.val Sh.bool true] = SV.tup [.val numS (wordsN 4 (sqrtN (valN a))), .val .bool (sqrtB (valN a))])
        (SV.tup [AV.val numS (wordsN 4 x), AV.val Sh.bool true] = SV.tup [.val numS (wordsN 4 (sqrtN (valN a))), .val .bool (sqrtB (valN a))])) := by
    intro x hx e
    have eB : sqrtB (valN a) = decide (x * x % PP = valN a % PP) := by rw [e]; rfl
    have eN : sqrtN (valN a) = bif decide (x * x % PP = valN a % PP) then evenP x else 0 := by unfold sqrtN; rw [eB, e]
    rw [eB, eN]
    unfold evenP
    refine ifB_of (fun h => ?_) (fun h => ?_)
    · have h : decide (x * x % PP = valN a % PP) = false := by simpa using h
      rw [h, cond_false, wz4]
    · have h : decide (x * x % PP = valN a % PP) = true := by simpa using h
      rw [h, cond_true]
      refine ifB_of (fun h' => ?_) (fun h' => ?_)
      · rw [h', cond_true, Nat.zero_mod, Nat.zero_add]
      · rw [h', cond_false]
  unfold Q36_3 Q36_4 Q36_7 Q36_9 Q36_11
  simp only [z0, z1, z2, z5, B256_eq, pow252, pow253, vpw, vp, words_inj (vlt _) (vlt _)]
  have eo : ∀ x : Nat, x < 2 ^ 256 → decide (rd (Sh.int IntKind.u64) (wordsN 4 x) 0 &&& 1#64 = 1#64) = decide (x % 2 = 1) := by
    intro x hx
    have := low_one (x := wordsN 4 x)
    rw [v4 hx] at this
    exact decide_eq_decide.2 this
  rw [eo _ (powP_lt _ _), eo _ (vlt _)]
  refine ifB_of (fun h => ?_) (fun h => ?_)
  · have h : decide (powP (valN a) E1 * powP (valN a) E1 % PP = valN a % PP) = false := by simpa using h
    exact tail _ (Nat.mod_lt _ PP_pos) (by unfold sqx; rw [h, cond_false])
  · have h : decide (powP (valN a) E1 * powP (valN a) E1 % PP = valN a % PP) = true := by simpa using h
    exact tail _ (Nat.mod_lt _ PP_pos) (by unfold sqx; rw [h, cond_true])
noncomputable def f6 : CTab := (95, conT [numS] sqrtF) :: f5
theorem f6_ok : ∀ p ∈ f6, COK Tryd.prog GL p.1 p.2 := CCons sqrt_ok f5_ok
noncomputable abbrev F6 : Go.Ty.Cx := mkX Tryd.prog GL shU f6
end Go.Proofs.YtghmfiandllpfaaDoor.Lb
