import Derived.Test.YtninlahlmjhmhaaRh
import Derived.Test.YtninlahlmjhmhaaFerP
namespace Go.Proofs.Ytninlahlmjhmhaa
open Go.Ty

abbrev r19 : List It := [.v 2 .bool]
noncomputable def b19 : Code := Try.f19.body.getD .skip
abbrev I19_2 : List It := [.p 1 2000 numS, .p 3 2001 numS]
abbrev I19_5 : List It := [.p 1 2000 numS, .p 3 2001 numS, .f 5 ringS]
abbrev I19_6 : List It := [.p 1 2000 numS, .p 3 2001 numS, .f 5 ringS, .p 7 2003 numS]
abbrev I19_8 : List It := [.p 1 2000 numS, .p 3 2001 numS, .f 5 ringS, .p 7 2003 numS]
noncomputable def Q19_8 : CQ I19_8 [] r19 [] := fun (a, p, r, q, _) _ Kr _ =>
  okR r ∧
    ifB (teq (Sh.arr 4 (Sh.int IntKind.u64)) (wordsN 4 (powN (valN a) (valN q) (valN r.1))) [1#64, 0#64, 0#64, 0#64])
      (okR r ∧
        okR r ∧
          Kr
            (teq (Sh.arr 4 (Sh.int IntKind.u64)) (wordsN 4 (powN (valN a) (valN p) (valN r.1)))
                (wordsN 4 ((valN a + valN [0#64, 0#64, 0#64, 0#64]) % valN r.1)),
              PUnit.unit))
      (Kr (false, PUnit.unit))
noncomputable def Q19_6 : CQ I19_6 [] r19 [] := fun (a, p, r, q, _) Kn Kr _ =>
  okR r ∧
    ifB
      (teq (Sh.arr 4 (Sh.int IntKind.u64)) (wordsN 4 ((valN a + valN [0#64, 0#64, 0#64, 0#64]) % valN r.1))
        [0#64, 0#64, 0#64, 0#64])
      (okR r ∧
        Kr
          (teq (Sh.arr 4 (Sh.int IntKind.u64)) (wordsN 4 (powN (valN a) (valN q) (valN r.1))) [0#64, 0#64, 0#64, 0#64],
            PUnit.unit))
      (Q19_8 (a, p, r, q, PUnit.unit) (fun _ => Kn PUnit.unit) (fun y => Kr (y.1, PUnit.unit)) PUnit.unit)
noncomputable def Q19_5 : CQ I19_5 [] r19 [] := fun (a, p, r, _) Kn Kr _ =>
  Q19_6
    (a, p, r,
      wordsN 4
        (valN p + (2 ^ 256) -
          valN [1#64, 0#64, 0#64, 0#64]),
      PUnit.unit)
    (fun _ => Kn PUnit.unit) (fun y => Kr (y.1, PUnit.unit)) PUnit.unit
noncomputable def Q19_2 : CQ I19_2 [] r19 [] := fun (a, p, _) Kn Kr _ =>
  ifB (noRing (valN p)) (Kr (false, PUnit.unit))
    (Q19_5 (a, p, ringOf p, PUnit.unit) (fun _ => Kn PUnit.unit) (fun y => Kr (y.1, PUnit.unit)) PUnit.unit)
noncomputable abbrev L19 : LTab := [(1000002, ptC I19_2 [] r19 [] Q19_2), (1000005, ptC I19_5 [] r19 [] Q19_5), (1000006, ptC I19_6 [] r19 [] Q19_6), (1000008, ptC I19_8 [] r19 [] Q19_8)]
set_option maxRecDepth 100000 in
theorem piece19_2 (a : Sh.T (numS)) (p : Sh.T (numS)) (Kn : HI [] → Prop) (Kr : HI r19 → Prop) (Kx : HP []) : pieceT (W Y10 Try.f19.ntmps (LTab.look L19) (tailAt b19 1000002)) I19_2 [] r19 [] (a, p, ()) Kn Kr Kx = Q19_2 (a, p, ()) Kn Kr Kx := by kernel_rfl
set_option maxRecDepth 100000 in
theorem piece19_5 (a : Sh.T (numS)) (p : Sh.T (numS)) (r : Sh.T (ringS)) (Kn : HI [] → Prop) (Kr : HI r19 → Prop) (Kx : HP []) : pieceT (W Y10 Try.f19.ntmps (LTab.look L19) (tailAt b19 1000005)) I19_5 [] r19 [] (a, p, r, ()) Kn Kr Kx = Q19_5 (a, p, r, ()) Kn Kr Kx := by kernel_rfl
set_option maxRecDepth 100000 in
theorem piece19_6 (a : Sh.T (numS)) (p : Sh.T (numS)) (r : Sh.T (ringS)) (q : Sh.T (numS)) (Kn : HI [] → Prop) (Kr : HI r19 → Prop) (Kx : HP []) : pieceT (W Y10 Try.f19.ntmps (LTab.look L19) (tailAt b19 1000006)) I19_6 [] r19 [] (a, p, r, q, ()) Kn Kr Kx = Q19_6 (a, p, r, q, ()) Kn Kr Kx := by kernel_rfl
set_option maxRecDepth 100000 in
theorem piece19_8 (a : Sh.T (numS)) (p : Sh.T (numS)) (r : Sh.T (ringS)) (q : Sh.T (numS)) (Kn : HI [] → Prop) (Kr : HI r19 → Prop) (Kx : HP []) : pieceT (W Y10 Try.f19.ntmps (LTab.look L19) (tailAt b19 1000008)) I19_8 [] r19 [] (a, p, r, q, ()) Kn Kr Kx = Q19_8 (a, p, r, q, ()) Kn Kr Kx := by kernel_rfl
theorem fw19 (a : Sh.T (numS)) (P : SV → Prop) : FW Y10 Try.f19.ntmps (LTab.look L19) Try.f19 (argsOf [numS] (a, ())) P =
 (  Q19_2 (a, wordsN 4 173688133855974293135356477513031861779904976998460846059186376011869694459885, PUnit.unit)
    (fun _ => False) (fun y => P (SV.av (AV.val Sh.bool y.1))) PUnit.unit) := by kernel_rfl
set_option maxRecDepth 100000 in
theorem S19_8 : ∀ s K, ptC I19_8 [] r19 [] Q19_8 s K → SemC Y10 Try.f19.ntmps (tailAt b19 1000008) s K :=
  cut_sem shR_ok ct10_ok mixed (loopsOK (by kernel_rfl) (LTCons (noLoop (by kernel_rfl)) (LTCons (noLoop (by kernel_rfl)) (LTCons (noLoop (by kernel_rfl)) (LTCons (noLoop (by kernel_rfl)) LTNil))))) (by kernel_rfl) (fun ⟨a, p, r, q, _⟩ Kn Kr Kx h => (piece19_8 a p r q Kn Kr Kx).mpr h)
set_option maxRecDepth 100000 in
theorem S19_6 : ∀ s K, ptC I19_6 [] r19 [] Q19_6 s K → SemC Y10 Try.f19.ntmps (tailAt b19 1000006) s K :=
  cut_sem shR_ok ct10_ok mixed (loopsOK (by kernel_rfl) (LTCons (noLoop (by kernel_rfl)) (LTCons (noLoop (by kernel_rfl)) (LTCons (noLoop (by kernel_rfl)) (LTCons (fun _ => by rw [show tailAt (tailAt b19 1000006) 1000008 = tailAt b19 1000008 from by kernel_rfl]; exact S19_8) LTNil))))) (by kernel_rfl) (fun ⟨a, p, r, q, _⟩ Kn Kr Kx h => (piece19_6 a p r q Kn Kr Kx).mpr h)
set_option maxRecDepth 100000 in
theorem S19_5 : ∀ s K, ptC I19_5 [] r19 [] Q19_5 s K → SemC Y10 Try.f19.ntmps (tailAt b19 1000005) s K :=
  cut_sem shR_ok ct10_ok mixed (loopsOK (by kernel_rfl) (LTCons (noLoop (by kernel_rfl)) (LTCons (noLoop (by kernel_rfl)) (LTCons (fun _ => by rw [show tailAt (tailAt b19 1000005) 1000006 = tailAt b19 1000006 from by kernel_rfl]; exact S19_6) (LTCons (fun _ => by rw [show tailAt (tailAt b19 1000005) 1000008 = tailAt b19 1000008 from by kernel_rfl]; exact S19_8) LTNil))))) (by kernel_rfl) (fun ⟨a, p, r, _⟩ Kn Kr Kx h => (piece19_5 a p r Kn Kr Kx).mpr h)
set_option maxRecDepth 100000 in
theorem S19_2 : ∀ s K, ptC I19_2 [] r19 [] Q19_2 s K → SemC Y10 Try.f19.ntmps (tailAt b19 1000002) s K :=
  cut_sem shR_ok ct10_ok mixed (loopsOK (by kernel_rfl) (LTCons (noLoop (by kernel_rfl)) (LTCons (fun _ => by rw [show tailAt (tailAt b19 1000002) 1000005 = tailAt b19 1000005 from by kernel_rfl]; exact S19_5) (LTCons (fun _ => by rw [show tailAt (tailAt b19 1000002) 1000006 = tailAt b19 1000006 from by kernel_rfl]; exact S19_6) (LTCons (fun _ => by rw [show tailAt (tailAt b19 1000002) 1000008 = tailAt b19 1000008 from by kernel_rfl]; exact S19_8) LTNil))))) (by kernel_rfl) (fun ⟨a, p, _⟩ Kn Kr Kx h => (piece19_2 a p Kn Kr Kx).mpr h)
set_option maxRecDepth 100000 in
theorem loops19 : LoopsOK Y10 Try.f19.ntmps (LTab.look L19) b19 := loopsOK (by kernel_rfl) (LTCons (fun _ => S19_2) (LTCons (fun _ => S19_5) (LTCons (fun _ => S19_6) (LTCons (fun _ => S19_8) LTNil))))

theorem p_val : valN (wordsN 4 173688133855974293135356477513031861779904976998460846059186376011869694459885) = 2 ^ 255 - 19 := by kernel_rfl
set_option maxHeartbeats 1000000 in
theorem fermat19 {a p : List (BitVec 64)} (wa : numS.wfT a) (wp : numS.wfT p) {M : Nat} (hM : valN p = M) (hf : Go.Fer.Fer M) (hodd : M % 2 = 1) (Kn : HI [] → Prop) (Kx : HP []) : Q19_2 (a, p, ()) Kn (fun y => SV.av (AV.val Sh.bool y.1) = SV.av (.val .bool true)) Kx := by
  have M2 : valN p < 2 ^ 256 := lt4 wp
  have A2 : valN a < 2 ^ 256 := lt4 wa
  have h1 := hf.1
  unfold Q19_2 Q19_5 Q19_6 Q19_8
  have hr : noRing (valN p) = false := by unfold noRing; rw [hM, decide_eq_false (by omega : ¬ M % 2 = 0), decide_eq_false (by omega : ¬ M = 1)]; rfl
  have hok := ringOf_ok wp hr
  have hm : (ringOf p).1 = p := rfl
  have z0 : valN [0#64, 0#64, 0#64, 0#64] = 0 := rfl
  have z1 : valN [1#64, 0#64, 0#64, 0#64] = 1 := rfl
  have l0 : ∀ A K : Nat, powN A K M < 2 ^ 256 := fun A K => by have := powN_lt (A := A) (K := K) (M := M) (by omega); omega
  have hq : valN (wordsN 4 (M + 2 ^ 256 - 1)) = M - 1 := by
    rw [v4m, show M + 2 ^ 256 - 1 = M - 1 + 2 ^ 256 by omega, Nat.add_mod_right, Nat.mod_eq_of_lt (by omega)]
  have ha := Nat.mod_lt (valN a) (show 0 < M by omega)
  simp only [hm, hM, z0, z1, Nat.add_zero, hq]
  rw [teq_z (n := valN a % M) (by omega), teq_z (l0 _ _), teq_one (l0 _ _)]
  refine ifB_of (fun h => by rw [← hM, hr] at h; cases h) (fun _ => ⟨hok, ifB_of (fun h => ⟨hok, pbool ?_⟩) (fun h => ⟨hok, ifB_of (fun _ => ⟨hok, hok, pbool (teq_of ?_)⟩) (fun h' => ?_)⟩)⟩)
  · have h := of_decide_eq_true h
    refine decide_eq_true ?_
    unfold powN
    rw [Nat.pow_mod, h, Nat.zero_pow (by omega), Nat.zero_mod]
  · have h := of_decide_eq_false h
    have e := hf.2 (valN a) h
    unfold powN
    rw [show M = M - 1 + 1 by omega, Nat.pow_succ, ← show M = M - 1 + 1 by omega, Nat.mul_mod, e, Nat.one_mul, Nat.mod_mod]
  · have h := of_decide_eq_false h
    have e := hf.2 (valN a) h
    exact absurd e (of_decide_eq_false h')
theorem walk19 (xs : HL [numS]) (h : okHL [numS] xs) : PC (bx Try.prog noGl) 19 (argsOf [numS] xs) (.av (.val .bool true)) := by
  obtain ⟨a, ⟨⟩⟩ := xs
  refine PC_of_fw (t := L19) shR_ok ct10_ok mixed Try.func19 (c := b19) rfl (by kernel_rfl) (by kernel_rfl) loops19 rfl ?_
  rw [show (PUnit.unit : HL []) = () from rfl, fw19]
  exact fermat19 (okwf4 h.1) (num_wf _) p_val Go.Fer.ferP (by decide) _ _
end Go.Proofs.Ytninlahlmjhmhaa
