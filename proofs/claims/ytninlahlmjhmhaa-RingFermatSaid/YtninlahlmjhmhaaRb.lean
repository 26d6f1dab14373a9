import Derived.Test.YtninlahlmjhmhaaRa
namespace Go.Proofs.Ytninlahlmjhmhaa
open Go.Ty

/-! ## Low, Mod, New -/
theorem fw57 (r : Ar.T (.f ringS)) (a : Ar.T (.v numS)) (P : SV → Prop) : FW Y6 Try.f57.ntmps (LTab.look []) Try.f57 (argsA [.f ringS, .v numS] (r, a, ())) P =
  ifB (decide (cmpI (valN a) (valN r.1) < 0)) (P (SV.av (AV.val (Sh.arr 4 (Sh.int IntKind.u64)) a)))
    (P (SV.av (AV.val (Sh.arr 4 (Sh.int IntKind.u64)) (wordsN 4 (remN (valN (wordsN 8 (valN a + 0))) (valN r.1)))))) := by kernel_rfl

def lowRF : HA [.f ringS, .v numS] → RT := fun xs => .ret (.av (.val numS (wordsN 4 (remN (valN xs.2.1) (valN xs.1.1)))))
theorem lowR_ok : COK Try.prog noGl 57 (conA [.f ringS, .v numS] lowRF) := by
  refine conA_ok (fun xs hw _ => ?_) (fun _ => rfl)
  obtain ⟨r, a, ⟨⟩⟩ := xs
  have wm : numS.wfT r.1 := hw.1.1
  have wa : numS.wfT a := hw.2.1
  have A2 := lt4 wa
  refine PC_of_fw (t := []) shR_ok ct6_ok mixed Try.func57 (c := Try.f57.body.getD .skip) rfl (by kernel_rfl) (by kernel_rfl) loopsNil rfl ?_
  rw [fw57]
  have eF : (lowRF (r, a, PUnit.unit)).val = SV.av (.val numS (wordsN 4 (remN (valN a) (valN r.1)))) := rfl
  rw [eF, Nat.add_zero, v8 (lt5 A2)]
  refine ifB_of (fun h => ?_) (fun _ => rfl)
  have hlt : valN a < valN r.1 := by
    rcases cmpI_cases (valN a) (valN r.1) with ⟨c, _⟩ | ⟨_, c⟩ | ⟨_, c⟩
    · exact c
    · rw [c] at h; exact absurd h (by decide)
    · rw [c] at h; exact absurd h (by decide)
  rw [remN_pos (by omega), Nat.mod_eq_of_lt hlt, self4 wa]
theorem fw48 (r : Ar.T (.f ringS)) (P : SV → Prop) : FW Y6 Try.f48.ntmps (LTab.look []) Try.f48 (argsA [.f ringS] (r, ())) P =
  P (SV.av (AV.val (Sh.arr 4 (Sh.int IntKind.u64)) r.1)) := by kernel_rfl

def modRF : HA [.f ringS] → RT := fun xs => .ret (.av (.val numS xs.1.1))
theorem modR_ok : COK Try.prog noGl 48 (conA [.f ringS] modRF) := by
  refine conA_ok (fun xs hw _ => ?_) (fun _ => rfl)
  obtain ⟨r, ⟨⟩⟩ := xs
  refine PC_of_fw (t := []) shR_ok ct6_ok mixed Try.func48 (c := Try.f48.body.getD .skip) rfl (by kernel_rfl) (by kernel_rfl) loopsNil rfl ?_
  rw [show (PUnit.unit : HA []) = () from rfl, fw48]; rfl

/-- the inverse modulo 2^64, by Newton's steps; turned round -/
def newStep (m x : BitVec 64) : BitVec 64 := x * (2#64 - m * x)
def newInv (m : BitVec 64) : BitVec 64 := -newStep m (newStep m (newStep m (newStep m (newStep m m))))
theorem fw43 (m : Ar.T (.v numS)) (P : SV → Prop) : FW Y6 Try.f43.ntmps (LTab.look []) Try.f43 (argsA [.v numS] (m, ())) P =
  ifB (decide (rd (Sh.int IntKind.u64) m 0 &&& 1#64 = 0#64))
    (P (SV.tup [AV.val (Sh.non NilK.ptr) PUnit.unit, AV.val (Sh.int IntKind.i64) 1]))
    (ifB (teq (Sh.arr 4 (Sh.int IntKind.u64)) m [1#64, 0#64, 0#64, 0#64])
      (P (SV.tup [AV.val (Sh.non NilK.ptr) PUnit.unit, AV.val (Sh.int IntKind.i64) 1]))
      (P
        (SV.tup
          [AV.cell
              (Cel.fptr
                ((Sh.arr 4 (Sh.int IntKind.u64)).pair
                  ((Sh.arr 4 (Sh.int IntKind.u64)).pair
                    ((Sh.arr 4 (Sh.int IntKind.u64)).pair ((Sh.int IntKind.u64).pair Sh.unit))))
                (m, wordsN 4 (remN (valN [0#64, 0#64, 0#64, 0#64, 1#64, 0#64, 0#64, 0#64]) (valN m)),
                  wordsN 4
                    (remN
                      (valN
                        (wordsN 8
                          (valN (wordsN 4 (remN (valN [0#64, 0#64, 0#64, 0#64, 1#64, 0#64, 0#64, 0#64]) (valN m))) *
                            valN (wordsN 4 (remN (valN [0#64, 0#64, 0#64, 0#64, 1#64, 0#64, 0#64, 0#64]) (valN m))))))
                      (valN m)),
                  newInv (rd (Sh.int IntKind.u64) m 0),
                  PUnit.unit)),
            AV.val (Sh.int IntKind.i64) 0]))) := by kernel_rfl

theorem step_err (m x : BitVec 64) : 1#64 - m * newStep m x = (1#64 - m * x) * (1#64 - m * x) := by
  unfold newStep; grind
theorem newInv_ok {m : BitVec 64} (h : m.toNat % 2 = 1) : m * newInv m + 1#64 = 0#64 := by
  obtain ⟨a, ha⟩ : ∃ a : BitVec 64, m = 2#64 * a + 1#64 := by
    refine ⟨BitVec.ofNat 64 (m.toNat / 2), BitVec.eq_of_toNat_eq ?_⟩
    have := m.isLt
    simp only [BitVec.toNat_add, BitVec.toNat_mul, BitVec.toNat_ofNat]
    omega
  have e : 1#64 - m * m = 4#64 * (-(a * (a + 1#64))) := by rw [ha]; grind
  unfold newInv
  have h5 : m * -newStep m (newStep m (newStep m (newStep m (newStep m m)))) + 1#64 = 1#64 - m * newStep m (newStep m (newStep m (newStep m (newStep m m)))) := by grind
  rw [h5, step_err, step_err, step_err, step_err, step_err, e]
  generalize -(a * (a + 1#64)) = b
  rw [show 4#64 * b * (4#64 * b) = 16#64 * (b * b) by grind]
  generalize b * b = c
  rw [show 16#64 * c * (16#64 * c) = 256#64 * (c * c) by grind]
  generalize c * c = b
  rw [show 256#64 * b * (256#64 * b) = 65536#64 * (b * b) by grind]
  generalize b * b = c
  rw [show 65536#64 * c * (65536#64 * c) = 4294967296#64 * (c * c) by grind]
  generalize c * c = b
  rw [show 4294967296#64 * b * (4294967296#64 * b) = (4294967296#64 * 4294967296#64) * (b * b) by grind, show 4294967296#64 * 4294967296#64 = 0#64 by decide, BitVec.zero_mul]

def okR (r : RingT) : Prop := numS.wfT r.1 ∧ valN r.1 % 2 = 1 ∧ 1 < valN r.1 ∧ r.2.1 = wordsN 4 (2 ^ 256 % valN r.1) ∧ r.2.2.1 = wordsN 4 (2 ^ 256 % valN r.1 * (2 ^ 256 % valN r.1) % valN r.1) ∧ (BitVec.toNat r.2.2.2.1 * valN r.1 + 1) % 2 ^ 64 = 0
def ringOf (m : List (BitVec 64)) : RingT := (m, wordsN 4 (2 ^ 256 % valN m), wordsN 4 (2 ^ 256 % valN m * (2 ^ 256 % valN m) % valN m), newInv (rd u64S m 0), ())
def noRing (M : Nat) : Bool := decide (M % 2 = 0) || decide (M = 1)
def newF : HA [.v numS] → RT := fun xs => .alt (noRing (valN xs.1)) (.ret (.tup [.val (.non .ptr) (), .val i64S 1])) (.ret (.tup [.cell (.fptr ringS (ringOf xs.1)), .val i64S 0]))
theorem noRing_no {M : Nat} (h : noRing M = false) : M % 2 = 1 ∧ 1 < M := by
  unfold noRing at h
  rw [Bool.or_eq_false_iff, decide_eq_false_iff_not, decide_eq_false_iff_not] at h
  omega
theorem rd0 (m : List (BitVec 64)) : (rd u64S m 0).toNat = valN m % 2 ^ 64 := by
  cases m with
  | nil => rfl
  | cons x r =>
    show x.toNat = (x.toNat + 2 ^ 64 * valN r) % 2 ^ 64
    have := x.isLt
    omega
theorem ringOf_ok {m : List (BitVec 64)} (hm : numS.wfT m) (h : noRing (valN m) = false) : okR (ringOf m) := by
  obtain ⟨h1, h2⟩ := noRing_no h
  refine ⟨hm, h1, h2, rfl, rfl, ?_⟩
  show (BitVec.toNat (newInv (rd u64S m 0)) * valN m + 1) % 2 ^ 64 = 0
  have h3 := newInv_ok (m := rd u64S m 0) (by rw [rd0]; omega)
  have h4 := congrArg BitVec.toNat h3
  rw [BitVec.toNat_add, BitVec.toNat_mul, rd0] at h4
  have e1 : (1#64).toNat = 1 := rfl
  have e2 : (0#64).toNat = 0 := rfl
  rw [e1, e2, Nat.mul_comm] at h4
  rw [Nat.add_mod, Nat.mul_mod] at h4 ⊢
  simpa using h4
theorem two512 : valN [0#64, 0#64, 0#64, 0#64, 1#64, 0#64, 0#64, 0#64] = 2 ^ 256 := by
  have h := words_app [0#64, 0#64, 0#64, 0#64] [1#64, 0#64, 0#64, 0#64]
  rw [show valN [1#64, 0#64, 0#64, 0#64] = 1 from rfl, show valN [0#64, 0#64, 0#64, 0#64] = 0 from rfl] at h
  exact h.trans (by simp)
theorem new_ok : COK Try.prog noGl 43 (conA [.v numS] newF) := by
  refine conA_ok (fun xs hw _ => ?_) (fun _ => rfl)
  obtain ⟨m, ⟨⟩⟩ := xs
  have wm : numS.wfT m := hw.1
  have M2 := lt4 wm
  have eF : (newF (m, PUnit.unit)).val = bif noRing (valN m) then SV.tup [.val (.non .ptr) (), .val i64S 1] else SV.tup [.cell (.fptr ringS (ringOf m)), .val i64S 0] := rfl
  rw [eF]
  refine PC_of_fw (t := []) shR_ok ct6_ok mixed Try.func43 (c := Try.f43.body.getD .skip) rfl (by kernel_rfl) (by kernel_rfl) loopsNil (by cases noRing (valN m) <;> rfl) ?_
  rw [show (PUnit.unit : HA []) = () from rfl, fw43]
  refine ifB_of (fun h => ?_) (fun h => ifB_of (fun h' => ?_) (fun h' => ?_))
  · have e := low_bit.1 (of_decide_eq_true h)
    unfold noRing; rw [decide_eq_true e]; rfl
  · have e := (one4 wm).2 (teq_iff.1 h')
    unfold noRing; rw [e]; rfl
  · have e1 : ¬ valN m % 2 = 0 := fun e => (of_decide_eq_false h) (low_bit.2 e)
    have e2 : ¬ valN m = 1 := fun e => by
      rw [show teq (Sh.arr 4 (Sh.int IntKind.u64)) m [1#64, 0#64, 0#64, 0#64] = true from teq_of ((one4 wm).1 e)] at h'; cases h'
    have e3 : noRing (valN m) = false := by unfold noRing; rw [decide_eq_false e1, decide_eq_false e2]; rfl
    have M0 : 0 < valN m := by omega
    have hr := Nat.mod_lt (2 ^ 256) M0
    have hq : 2 ^ 256 % valN m * (2 ^ 256 % valN m) < 2 ^ 256 * 2 ^ 256 := Nat.mul_lt_mul'' (by omega) (by omega)
    rw [e3, two512, remN_pos M0, remN_pos M0, v4 (n := 2 ^ 256 % valN m) (by omega), v8 hq]
    rfl
noncomputable def ct7 : CTab := (57, conA [.f ringS, .v numS] lowRF) :: (48, conA [.f ringS] modRF) :: (43, conA [.v numS] newF) :: ct6
theorem ct7_ok : ∀ p ∈ ct7, COK Try.prog noGl p.1 p.2 := CCons lowR_ok (CCons modR_ok (CCons new_ok ct6_ok))
noncomputable abbrev Y7 : Go.Ty.Cx := mkX Try.prog noGl shR ct7
end Go.Proofs.Ytninlahlmjhmhaa
