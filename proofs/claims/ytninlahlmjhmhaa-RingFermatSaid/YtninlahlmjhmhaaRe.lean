import Derived.Test.YtninlahlmjhmhaaRd
namespace Go.Proofs.Ytninlahlmjhmhaa
open Go.Ty

theorem out_mul {X Y M : Nat} (h1 : M % 2 = 1) (h2 : 1 < M) (h : X % M = Y * 2 ^ 256 % M) : outN X M = Y % M := by
  obtain ⟨x, hx, ex, ei⟩ := inv256 h1 h2
  unfold outN
  rw [ei, Nat.mul_mod, h, Nat.mod_mul_mod, Nat.mul_mod_mod, Nat.mul_assoc, Nat.mul_mod, ex, Nat.mul_one, Nat.mod_mod]
theorem mm3 (a x m : Nat) : a * (x % m * (x % m) % m) % m = a * x * x % m := by rw [← Nat.mul_mod, Nat.mul_mod_mod, Nat.mul_assoc]
theorem fw44 (r : Ar.T (.f ringS)) (a : Ar.T (.v numS)) (P : SV → Prop) : FW Y8 Try.f44.ntmps (LTab.look []) Try.f44 (argsA [.f ringS, .v numS] (r, a, ())) P =
 (  okR r ∧
    P
      (SV.av
        (AV.val (Sh.arr 4 (Sh.int IntKind.u64)) (wordsN 4 (outN (valN (wordsN 8 (valN a * valN r.2.2.1))) (valN r.1)))))) := by kernel_rfl

noncomputable def inF : HA [.f ringS, .v numS] → RT := fun xs => .pre (okR xs.1) (.ret (.av (.val numS (wordsN 4 (valN xs.2.1 * 2 ^ 256 % valN xs.1.1)))))
theorem in_ok : COK Try.prog noGl 44 (conA [.f ringS, .v numS] inF) := by
  refine conA_ok (fun xs hw hc => ?_) (fun _ => rfl)
  obtain ⟨r, a, ⟨⟩⟩ := xs
  have hc : okR r := hc.1
  have A2 : valN a < 2 ^ 256 := lt4 hw.2.1
  have eF : (inF (r, a, PUnit.unit)).val = SV.av (.val numS (wordsN 4 (valN a * 2 ^ 256 % valN r.1))) := rfl
  rw [eF]
  refine PC_of_fw (t := []) shR_ok ct8_ok mixed Try.func44 (c := Try.f44.body.getD .skip) rfl (by kernel_rfl) (by kernel_rfl) loopsNil rfl ?_
  rw [show (PUnit.unit : HA []) = () from rfl, fw44]
  refine ⟨hc, ?_⟩
  obtain ⟨wm, hodd, hm1, _, hsq, _⟩ := hc
  have M2 : valN r.1 < 2 ^ 256 := lt4 wm
  have hR := Nat.mod_lt (2 ^ 256 % valN r.1 * (2 ^ 256 % valN r.1)) (show 0 < valN r.1 by omega)
  rw [hsq, v4 (n := 2 ^ 256 % valN r.1 * (2 ^ 256 % valN r.1) % valN r.1) (by omega)]
  have hp : valN a * (2 ^ 256 % valN r.1 * (2 ^ 256 % valN r.1) % valN r.1) < 2 ^ 256 * 2 ^ 256 := Nat.mul_lt_mul'' A2 (by omega)
  rw [v8 hp, out_mul hodd hm1 (Y := valN a * 2 ^ 256)]
  exact mm3 _ _ _

theorem fw46 (r : Ar.T (.f ringS)) (a : Ar.T (.v numS)) (b : Ar.T (.v numS)) (P : SV → Prop) : FW Y8 Try.f46.ntmps (LTab.look []) Try.f46 (argsA [.f ringS, .v numS, .v numS] (r, a, b, ())) P =
 (  ifB
    (decide
      (BitVec.ofNat 64
          ((valN (wordsN 4 (remN (valN a) (valN r.1))) + valN (wordsN 4 (remN (valN b) (valN r.1)))) /
            (2 ^ 256)) =
        1#64))
    (P
      (SV.av
        (AV.val (Sh.arr 4 (Sh.int IntKind.u64))
          (wordsN 4
            (valN (wordsN 4 (valN (wordsN 4 (remN (valN a) (valN r.1))) + valN (wordsN 4 (remN (valN b) (valN r.1))))) +
                (2 ^ 256) -
              valN r.1)))))
    (ifB
      (decide
        ((bif
              decide
                (valN
                    (wordsN 4 (valN (wordsN 4 (remN (valN a) (valN r.1))) + valN (wordsN 4 (remN (valN b) (valN r.1))))) <
                  valN r.1) then
            1#64
          else 0#64) =
          0#64))
      (P
        (SV.av
          (AV.val (Sh.arr 4 (Sh.int IntKind.u64))
            (wordsN 4
              (valN (wordsN 4 (valN (wordsN 4 (remN (valN a) (valN r.1))) + valN (wordsN 4 (remN (valN b) (valN r.1))))) +
                  (2 ^ 256) -
                valN r.1)))))
      (P
        (SV.av
          (AV.val (Sh.arr 4 (Sh.int IntKind.u64))
            (wordsN 4 (valN (wordsN 4 (remN (valN a) (valN r.1))) + valN (wordsN 4 (remN (valN b) (valN r.1)))))))))) := by kernel_rfl

def addRF : HA [.f ringS, .v numS, .v numS] → RT := fun xs => .pre (okR xs.1) (.ret (.av (.val numS (wordsN 4 ((valN xs.2.1 + valN xs.2.2.1) % valN xs.1.1)))))
theorem addR_ok : COK Try.prog noGl 46 (conA [.f ringS, .v numS, .v numS] addRF) := by
  refine conA_ok (fun xs hw hc => ?_) (fun _ => rfl)
  obtain ⟨r, a, b, ⟨⟩⟩ := xs
  have hc : okR r := hc.1
  have eF : (addRF (r, a, b, PUnit.unit)).val = SV.av (.val numS (wordsN 4 ((valN a + valN b) % valN r.1))) := rfl
  rw [eF]
  refine PC_of_fw (t := []) shR_ok ct8_ok mixed Try.func46 (c := Try.f46.body.getD .skip) rfl (by kernel_rfl) (by kernel_rfl) loopsNil rfl ?_
  rw [show (PUnit.unit : HA []) = () from rfl, fw46]
  obtain ⟨wm, hodd, hm1, _, hsq, _⟩ := hc
  have M2 : valN r.1 < 2 ^ 256 := lt4 wm
  have M0 : 0 < valN r.1 := by omega
  generalize valN r.1 = M at *
  have hA := Nat.mod_lt (valN a) M0
  have hB := Nat.mod_lt (valN b) M0
  rw [remN_pos M0, remN_pos M0, Nat.add_mod, v4 (n := valN a % M) (by omega), v4 (n := valN b % M) (by omega)]
  generalize valN a % M = A at *
  generalize valN b % M = B at *
  have hfin : M ≤ A + B → wordsN 4 ((A + B) % 2 ^ 256 + 2 ^ 256 - M) = wordsN 4 ((A + B) % M) := by
    intro h
    rw [Nat.mod_eq_sub_mod h, Nat.mod_eq_of_lt (show A + B - M < M by omega)]
    exact words_eq (by rw [show 64 * 4 = 256 from rfl]; omega)
  have e0 : ∀ x : Nat, BitVec.ofNat 64 ((A + B) / 2 ^ 256) = 1#64 ↔ 2 ^ 256 ≤ A + B := by
    intro _
    have : (A + B) / 2 ^ 256 < 2 := by omega
    constructor
    · intro h
      have := congrArg BitVec.toNat h
      rw [BitVec.toNat_ofNat, show (1#64).toNat = 1 from rfl] at this
      omega
    · intro h
      rw [show (A + B) / 2 ^ 256 = 1 by omega]
  rw [v4m]
  refine ifB_of (fun h => ?_) (fun h => ifB_of (fun h' => ?_) (fun h' => ?_))
  · have h := (e0 0).1 (of_decide_eq_true h)
    rw [hfin (by omega)]
  · have h1 : ¬ 2 ^ 256 ≤ A + B := fun e => (of_decide_eq_false h) ((e0 0).2 e)
    have h2 : M ≤ A + B := by
      by_cases c : (A + B) % 2 ^ 256 < M
      · rw [decide_eq_true c] at h'; exact absurd h' (by decide)
      · omega
    rw [hfin h2]
  · have h1 : ¬ 2 ^ 256 ≤ A + B := fun e => (of_decide_eq_false h) ((e0 0).2 e)
    have h2 : A + B < M := by
      by_cases c : (A + B) % 2 ^ 256 < M
      · omega
      · rw [decide_eq_false c] at h'; exact absurd h' (by decide)
    rw [Nat.mod_eq_of_lt h2]

theorem fw49 (r : Ar.T (.f ringS)) (a : Ar.T (.v numS)) (b : Ar.T (.v numS)) (P : SV → Prop) : FW Y8 Try.f49.ntmps (LTab.look []) Try.f49 (argsA [.f ringS, .v numS, .v numS] (r, a, b, ())) P =
 (  ifB
    (decide
      ((bif decide (valN (wordsN 4 (remN (valN a) (valN r.1))) < valN (wordsN 4 (remN (valN b) (valN r.1)))) then 1#64
        else 0#64) =
        1#64))
    (P
      (SV.av
        (AV.val (Sh.arr 4 (Sh.int IntKind.u64))
          (wordsN 4
            (valN
                (wordsN 4
                  (valN (wordsN 4 (remN (valN a) (valN r.1))) +
                      (2 ^ 256) -
                    valN (wordsN 4 (remN (valN b) (valN r.1))))) +
              valN r.1)))))
    (P
      (SV.av
        (AV.val (Sh.arr 4 (Sh.int IntKind.u64))
          (wordsN 4
            (valN (wordsN 4 (remN (valN a) (valN r.1))) +
                (2 ^ 256) -
              valN (wordsN 4 (remN (valN b) (valN r.1))))))))) := by kernel_rfl

def subRF : HA [.f ringS, .v numS, .v numS] → RT := fun xs => .pre (okR xs.1) (.ret (.av (.val numS (wordsN 4 ((valN xs.2.1 % valN xs.1.1 + valN xs.1.1 - valN xs.2.2.1 % valN xs.1.1) % valN xs.1.1)))))
theorem subR_ok : COK Try.prog noGl 49 (conA [.f ringS, .v numS, .v numS] subRF) := by
  refine conA_ok (fun xs hw hc => ?_) (fun _ => rfl)
  obtain ⟨r, a, b, ⟨⟩⟩ := xs
  have hc : okR r := hc.1
  have eF : (subRF (r, a, b, PUnit.unit)).val = SV.av (.val numS (wordsN 4 ((valN a % valN r.1 + valN r.1 - valN b % valN r.1) % valN r.1))) := rfl
  rw [eF]
  refine PC_of_fw (t := []) shR_ok ct8_ok mixed Try.func49 (c := Try.f49.body.getD .skip) rfl (by kernel_rfl) (by kernel_rfl) loopsNil rfl ?_
  rw [show (PUnit.unit : HA []) = () from rfl, fw49]
  obtain ⟨wm, hodd, hm1, _, hsq, _⟩ := hc
  have M2 : valN r.1 < 2 ^ 256 := lt4 wm
  have M0 : 0 < valN r.1 := by omega
  generalize valN r.1 = M at *
  have hA := Nat.mod_lt (valN a) M0
  have hB := Nat.mod_lt (valN b) M0
  rw [remN_pos M0, remN_pos M0, v4 (n := valN a % M) (by omega), v4 (n := valN b % M) (by omega)]
  generalize valN a % M = A at *
  generalize valN b % M = B at *
  rw [v4m]
  refine ifB_of (fun h => ?_) (fun h => ?_)
  · have h1 : A < B := by
      by_cases c : A < B
      · exact c
      · rw [decide_eq_false c] at h; exact absurd h (by decide)
    rw [Nat.mod_eq_of_lt (show A + M - B < M by omega), show wordsN 4 ((A + 2 ^ 256 - B) % 2 ^ 256 + M) = wordsN 4 (A + M - B) from words_eq (by rw [show 64 * 4 = 256 from rfl]; omega)]
  · have h1 : B ≤ A := by
      by_cases c : A < B
      · rw [decide_eq_true c] at h; exact absurd h (by decide)
      · omega
    rw [show A + M - B = (A - B) + M by omega, Nat.add_mod_right, Nat.mod_eq_of_lt (show A - B < M by omega), show wordsN 4 (A + 2 ^ 256 - B) = wordsN 4 (A - B) from words_eq (by rw [show 64 * 4 = 256 from rfl]; omega)]
noncomputable def ct9 : CTab := (44, conA [.f ringS, .v numS] inF) :: (46, conA [.f ringS, .v numS, .v numS] addRF) :: (49, conA [.f ringS, .v numS, .v numS] subRF) :: ct8
theorem ct9_ok : ∀ p ∈ ct9, COK Try.prog noGl p.1 p.2 := CCons in_ok (CCons addR_ok (CCons subR_ok ct8_ok))
noncomputable abbrev Y9 : Go.Ty.Cx := mkX Try.prog noGl shR ct9
end Go.Proofs.Ytninlahlmjhmhaa
