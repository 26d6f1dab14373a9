import Derived.Test.YtninlahlmjhmhaaQe
namespace Go.Proofs.Ytninlahlmjhmhaa
open Go.Ty

theorem cop2 {b : Nat} (h : b % 2 = 1) : Nat.Coprime 2 b := by
  unfold Nat.Coprime
  rw [Nat.gcd_rec, h]; rfl
theorem gcd_half {a b : Nat} (h : b % 2 = 1) : Nat.gcd (2 * a) b = Nat.gcd a b := (cop2 h).gcd_mul_left_cancel a
theorem gcd_pow2 {b : Nat} (h : b % 2 = 1) (a : Nat) : ∀ i : Nat, Nat.gcd (2 ^ i * a) b = Nat.gcd a b
  | 0 => by rw [Nat.pow_zero, Nat.one_mul]
  | i + 1 => by rw [Nat.pow_succ', Nat.mul_assoc, gcd_half h, gcd_pow2 h a i]
theorem gcd_pow2r {a : Nat} (h : a % 2 = 1) (b i : Nat) : Nat.gcd a (2 ^ i * b) = Nat.gcd a b := by rw [Nat.gcd_comm, gcd_pow2 h, Nat.gcd_comm]
theorem gcd_minus {a b : Nat} (h : b ≤ a) : Nat.gcd (a - b) b = Nat.gcd a b := Nat.gcd_sub_self_left h

/-! ## Gcd -/
abbrev I37 : List It := [.p 2 2000 numS, .p 3 2001 numS, .p 4 2002 numS, .p 5 2003 numS, .v 6 i64S]
abbrev o7 : List (Nat × List It) := [(0, I37)]
abbrev o10 : List (Nat × List It) := [(2, I37)]
abbrev o11 : List (Nat × List It) := [(4, I37)]
abbrev o13 : List (Nat × List It) := [(6, I37)]
noncomputable def b37 : Code := Try.f37.body.getD .skip
/-- how often both can be halved -/
def Q7 : LQ I37 [] o7 := fun x _ Kx => (numS.wfT x.1 ∧ numS.wfT x.2.1 ∧ valN x.1 ≠ 0 ∧ valN x.2.1 ≠ 0 ∧ x.2.2.2.2.1 = 0) ∧
  ∀ (a b : List (BitVec 64)) (k : Nat), numS.wfT a → numS.wfT b → valN x.1 = 2 ^ k * valN a → valN x.2.1 = 2 ^ k * valN b → ¬ (valN a % 2 = 0 ∧ valN b % 2 = 0) → k < 256 → Kx.1 (a, b, x.2.2.1, x.2.2.2.1, (k : Int), ())
def Q11 : LQ I37 [] o11 := fun x _ Kx => (numS.wfT x.1 ∧ valN x.1 ≠ 0) ∧
  ∀ (a : List (BitVec 64)) (k : Nat), numS.wfT a → valN x.1 = 2 ^ k * valN a → valN a % 2 = 1 → Kx.1 (a, x.2.1, x.2.2.1, x.2.2.2.1, x.2.2.2.2.1, ())
def Q13 : LQ I37 [] o13 := fun x _ Kx => (numS.wfT x.2.1 ∧ valN x.2.1 ≠ 0) ∧
  ∀ (b : List (BitVec 64)) (k : Nat), numS.wfT b → valN x.2.1 = 2 ^ k * valN b → valN b % 2 = 1 → Kx.1 (x.1, b, x.2.2.1, x.2.2.2.1, x.2.2.2.2.1, ())
def Q10 : LQ I37 [] o10 := fun x _ Kx => (numS.wfT x.1 ∧ numS.wfT x.2.1 ∧ valN x.1 ≠ 0 ∧ valN x.2.1 ≠ 0 ∧ ¬ (valN x.1 % 2 = 0 ∧ valN x.2.1 % 2 = 0) ∧ x.2.2.2.1 = [0#64, 0#64, 0#64, 0#64]) ∧
  ∀ (a b : List (BitVec 64)), numS.wfT b → valN b = Nat.gcd (valN x.1) (valN x.2.1) → Kx.1 (a, b, x.2.2.1, x.2.2.2.1, x.2.2.2.2.1, ())
noncomputable abbrev L37 : LTab := [(7, ptL I37 [] o7 Q7), (10, ptL I37 [] o10 Q10), (11, ptL I37 [] o11 Q11), (13, ptL I37 [] o13 Q13)]
theorem round7 (a b z w : List (BitVec 64)) (n : Int) (Kn : HI I37 → Prop) (Kr : HI [] → Prop) (Kx : HP o7) : roundT (W Y4 Try.f37.ntmps (LTab.look L37) (bodyAt b37 7)) I37 [] o7 (a, b, z, w, n, ()) Kn Kr Kx =
  ifB (decide (rd (Sh.int IntKind.u64) a 0 &&& 1#64 = 0#64))
    (ifB (decide (rd (Sh.int IntKind.u64) b 0 &&& 1#64 = 0#64))
      (Kn (wordsN 4 (shiftN (valN a) (-1)), wordsN 4 (shiftN (valN b) (-1)), z, w, IntKind.i64.wrap (n + 1), PUnit.unit))
      (Kx.1 (a, b, z, w, n, PUnit.unit)))
    (Kx.1 (a, b, z, w, n, PUnit.unit)) := by kernel_rfl
theorem round10 (a b z w : List (BitVec 64)) (n : Int) (Kn : HI I37 → Prop) (Kr : HI [] → Prop) (Kx : HP o10) : roundT (W Y4 Try.f37.ntmps (LTab.look L37) (bodyAt b37 10)) I37 [] o10 (a, b, z, w, n, ()) Kn Kr Kx =
  ifB (!teq (Sh.arr 4 (Sh.int IntKind.u64)) a w)
    (Q11 (a, b, z, w, n, PUnit.unit) (fun _ => Kr PUnit.unit)
      (fun y =>
        Q13 (y.1, y.2.1, y.2.2.1, y.2.2.2.1, y.2.2.2.2.1, PUnit.unit) (fun _ => Kr PUnit.unit)
          (fun y =>
            ifB (decide (cmpI (valN y.1) (valN y.2.1) < 0))
              (Kn
                (wordsN 4
                    (valN y.2.1 + (2 ^ 256) -
                      valN y.1),
                  y.1, y.2.2.1, y.2.2.2.1, y.2.2.2.2.1, PUnit.unit))
              (Kn
                (wordsN 4
                    (valN y.1 + (2 ^ 256) -
                      valN y.2.1),
                  y.2.1, y.2.2.1, y.2.2.2.1, y.2.2.2.2.1, PUnit.unit)),
            PUnit.unit),
        PUnit.unit))
    (Kx.1 (a, b, z, w, n, PUnit.unit)) := by kernel_rfl
theorem round11 (a b z w : List (BitVec 64)) (n : Int) (Kn : HI I37 → Prop) (Kr : HI [] → Prop) (Kx : HP o11) : roundT (W Y4 Try.f37.ntmps (LTab.look L37) (bodyAt b37 11)) I37 [] o11 (a, b, z, w, n, ()) Kn Kr Kx =
  ifB (decide (rd (Sh.int IntKind.u64) a 0 &&& 1#64 = 0#64))
    (Kn (wordsN 4 (shiftN (valN a) (-1)), b, z, w, n, PUnit.unit)) (Kx.1 (a, b, z, w, n, PUnit.unit)) := by kernel_rfl
theorem round13 (a b z w : List (BitVec 64)) (n : Int) (Kn : HI I37 → Prop) (Kr : HI [] → Prop) (Kx : HP o13) : roundT (W Y4 Try.f37.ntmps (LTab.look L37) (bodyAt b37 13)) I37 [] o13 (a, b, z, w, n, ()) Kn Kr Kx =
  ifB (decide (rd (Sh.int IntKind.u64) b 0 &&& 1#64 = 0#64))
    (Kn (a, wordsN 4 (shiftN (valN b) (-1)), z, w, n, PUnit.unit)) (Kx.1 (a, b, z, w, n, PUnit.unit)) := by kernel_rfl
theorem fw37 (a : Sh.T (numS)) (b : Sh.T (numS)) (P : SV → Prop) : FW Y4 Try.f37.ntmps (LTab.look L37) Try.f37 (argsOf [numS, numS] (a, b, ())) P =
  ifB (teq (Sh.arr 4 (Sh.int IntKind.u64)) a [0#64, 0#64, 0#64, 0#64])
    (P (SV.av (AV.val (Sh.arr 4 (Sh.int IntKind.u64)) b)))
    (ifB (teq (Sh.arr 4 (Sh.int IntKind.u64)) b [0#64, 0#64, 0#64, 0#64])
      (P (SV.av (AV.val (Sh.arr 4 (Sh.int IntKind.u64)) a)))
      (Q7 (a, b, [0#64, 0#64, 0#64, 0#64], [0#64, 0#64, 0#64, 0#64], 0, PUnit.unit) (fun _ => False)
        (fun y =>
          Q10 (y.1, y.2.1, y.2.2.1, y.2.2.2.1, y.2.2.2.2.1, PUnit.unit) (fun _ => False)
            (fun y => P (SV.av (AV.val (Sh.arr 4 (Sh.int IntKind.u64)) (wordsN 4 (shiftN (valN y.2.1) y.2.2.2.2.1)))),
              PUnit.unit),
          PUnit.unit))) := by kernel_rfl

theorem low_bit {a : List (BitVec 64)} : rd (Sh.int IntKind.u64) a 0 &&& 1#64 = 0#64 ↔ valN a % 2 = 0 := by
  have h := valN_bit a 0 0 (by omega)
  rw [show 64 * 0 + 0 = 0 from rfl, Nat.pow_zero, Nat.div_one, Nat.div_one] at h
  have h1 := and_one (rd u64S a 0) 0
  rw [BitVec.ushiftRight_zero, Nat.pow_zero, Nat.div_one, ← h] at h1
  rw [show rd (Sh.int IntKind.u64) a 0 &&& 1#64 = _ from h1]
  constructor
  · intro e
    have := congrArg BitVec.toNat e
    rw [BitVec.toNat_ofNat] at this
    have e1 : (0#64).toNat = 0 := rfl
    rw [e1] at this; omega
  · intro e; rw [e]
theorem half_sh (V : Nat) : shiftN V (-1) = V / 2 := by
  unfold shiftN dnN
  rw [if_neg (by omega), if_neg (by omega), if_neg (by omega), show (-(-1 : Int)).toNat = 1 from rfl, Nat.pow_one]
theorem half4 {a : List (BitVec 64)} (h : numS.wfT a) : valN (wordsN 4 (valN a / 2)) = valN a / 2 := by
  have := lt4 h
  exact v4 (by omega)

theorem loop7 : ∀ x Kr Kx, Q7 x Kr Kx → ∃ n, untl (W Y4 Try.f37.ntmps (LTab.look L37) (bodyAt b37 7)) I37 [] o7 n x Kr Kx := by
  rintro ⟨a0, b0, z, w, n0, u⟩ Kr Kx ⟨⟨h1, h2, h3, h4, h5⟩, hK⟩
  have h5 : n0 = 0 := h5
  subst h5
  have hK : ∀ (a b : List (BitVec 64)) (k : Nat), numS.wfT a → numS.wfT b → valN a0 = 2 ^ k * valN a → valN b0 = 2 ^ k * valN b → ¬ (valN a % 2 = 0 ∧ valN b % 2 = 0) → k < 256 → Kx.1 (a, b, z, w, (k : Int), ()) := hK
  have A2 : valN a0 < 2 ^ 256 := lt4 h1
  have key : ∀ (m : Nat) (a b : List (BitVec 64)) (k : Nat), valN a ≤ m → numS.wfT a → numS.wfT b → valN a ≠ 0 → valN b ≠ 0 → valN a0 = 2 ^ k * valN a → valN b0 = 2 ^ k * valN b → 
      untl (W Y4 Try.f37.ntmps (LTab.look L37) (bodyAt b37 7)) I37 [] o7 (m + 1) (a, b, z, w, (k : Int), ()) Kr Kx := by
    intro m
    induction m with
    | zero => intro a b k hm _ _ ha; omega
    | succ m ih =>
      intro a b k hm wa wb ha hb ea eb
      have hk : k < 256 := by
        rcases Nat.lt_or_ge k 256 with h | h
        · exact h
        · exfalso
          have : 2 ^ 256 ≤ 2 ^ k := Nat.pow_le_pow_right (by omega) h
          have h2 : 2 ^ k * 1 ≤ 2 ^ k * valN a := Nat.mul_le_mul_left _ (by omega)
          rw [← ea, Nat.mul_one] at h2
          omega
      rw [untl_succ, round7, half_sh, half_sh]
      refine ifB_of (fun h => ifB_of (fun h' => ?_) (fun h' => ?_)) (fun h => ?_)
      · have e1 := low_bit.1 (of_decide_eq_true h)
        have e2 := low_bit.1 (of_decide_eq_true h')
        have hw : IntKind.i64.wrap ((k : Int) + 1) = ((k + 1 : Nat) : Int) := by rw [IntWalk.i64_in _ (by omega)]; omega
        rw [hw]
        have p1 := half4 wa
        have p2 := half4 wb
        refine ih _ _ (k + 1) (by rw [p1]; omega) (num_wf _) (num_wf _) (by rw [p1]; omega) (by rw [p2]; omega) ?_ ?_
        · rw [p1, ea, Nat.pow_succ, Nat.mul_assoc]; congr 1; omega
        · rw [p2, eb, Nat.pow_succ, Nat.mul_assoc]; congr 1; omega
      · exact hK a b k wa wb ea eb (fun e => (of_decide_eq_false h') (low_bit.2 e.2)) hk
      · exact hK a b k wa wb ea eb (fun e => (of_decide_eq_false h) (low_bit.2 e.1)) hk
  exact ⟨_, key (valN a0) a0 b0 0 (Nat.le_refl _) h1 h2 h3 h4 (by rw [Nat.pow_zero, Nat.one_mul]) (by rw [Nat.pow_zero, Nat.one_mul])⟩

theorem loop11 : ∀ x Kr Kx, Q11 x Kr Kx → ∃ n, untl (W Y4 Try.f37.ntmps (LTab.look L37) (bodyAt b37 11)) I37 [] o11 n x Kr Kx := by
  rintro ⟨a0, b, z, w, n0, u⟩ Kr Kx ⟨⟨h1, h3⟩, hK⟩
  have hK : ∀ (a : List (BitVec 64)) (k : Nat), numS.wfT a → valN a0 = 2 ^ k * valN a → valN a % 2 = 1 → Kx.1 (a, b, z, w, n0, ()) := hK
  have key : ∀ (m : Nat) (a : List (BitVec 64)) (k : Nat), valN a ≤ m → numS.wfT a → valN a ≠ 0 → valN a0 = 2 ^ k * valN a →
      untl (W Y4 Try.f37.ntmps (LTab.look L37) (bodyAt b37 11)) I37 [] o11 (m + 1) (a, b, z, w, n0, ()) Kr Kx := by
    intro m
    induction m with
    | zero => intro a k hm _ ha; omega
    | succ m ih =>
      intro a k hm wa ha ea
      rw [untl_succ, round11, half_sh]
      refine ifB_of (fun h => ?_) (fun h => ?_)
      · have e1 := low_bit.1 (of_decide_eq_true h)
        have p1 := half4 wa
        refine ih _ (k + 1) (by rw [p1]; omega) (num_wf _) (by rw [p1]; omega) ?_
        rw [p1, ea, Nat.pow_succ, Nat.mul_assoc]; congr 1; omega
      · have e1 : ¬ valN a % 2 = 0 := fun e => (of_decide_eq_false h) (low_bit.2 e)
        exact hK a k wa ea (by omega)
  exact ⟨_, key (valN a0) a0 0 (Nat.le_refl _) h1 h3 (by rw [Nat.pow_zero, Nat.one_mul])⟩

theorem loop13 : ∀ x Kr Kx, Q13 x Kr Kx → ∃ n, untl (W Y4 Try.f37.ntmps (LTab.look L37) (bodyAt b37 13)) I37 [] o13 n x Kr Kx := by
  rintro ⟨b, a0, z, w, n0, u⟩ Kr Kx ⟨⟨h1, h3⟩, hK⟩
  have hK : ∀ (a : List (BitVec 64)) (k : Nat), numS.wfT a → valN a0 = 2 ^ k * valN a → valN a % 2 = 1 → Kx.1 (b, a, z, w, n0, ()) := hK
  have key : ∀ (m : Nat) (a : List (BitVec 64)) (k : Nat), valN a ≤ m → numS.wfT a → valN a ≠ 0 → valN a0 = 2 ^ k * valN a →
      untl (W Y4 Try.f37.ntmps (LTab.look L37) (bodyAt b37 13)) I37 [] o13 (m + 1) (b, a, z, w, n0, ()) Kr Kx := by
    intro m
    induction m with
    | zero => intro a k hm _ ha; omega
    | succ m ih =>
      intro a k hm wa ha ea
      rw [untl_succ, round13, half_sh]
      refine ifB_of (fun h => ?_) (fun h => ?_)
      · have e1 := low_bit.1 (of_decide_eq_true h)
        have p1 := half4 wa
        refine ih _ (k + 1) (by rw [p1]; omega) (num_wf _) (by rw [p1]; omega) ?_
        rw [p1, ea, Nat.pow_succ, Nat.mul_assoc]; congr 1; omega
      · have e1 : ¬ valN a % 2 = 0 := fun e => (of_decide_eq_false h) (low_bit.2 e)
        exact hK a k wa ea (by omega)
  exact ⟨_, key (valN a0) a0 0 (Nat.le_refl _) h1 h3 (by rw [Nat.pow_zero, Nat.one_mul])⟩

theorem gcd_odd {A B a b i j : Nat} (ha : A = 2 ^ i * a) (hb : B = 2 ^ j * b) (oa : a % 2 = 1) (ob : b % 2 = 1) (h : ¬ (A % 2 = 0 ∧ B % 2 = 0)) : Nat.gcd A B = Nat.gcd a b := by
  cases i with
  | zero =>
    rw [Nat.pow_zero, Nat.one_mul] at ha
    rw [ha, hb, gcd_pow2r oa]
  | succ i =>
    cases j with
    | zero =>
      rw [Nat.pow_zero, Nat.one_mul] at hb
      rw [ha, hb, gcd_pow2 ob]
    | succ j =>
      exfalso
      refine h ⟨?_, ?_⟩
      · rw [ha, Nat.pow_succ', Nat.mul_assoc, Nat.mul_mod_right]
      · rw [hb, Nat.pow_succ', Nat.mul_assoc, Nat.mul_mod_right]
theorem le_pow2 {A a i : Nat} (h : A = 2 ^ i * a) : a ≤ A := by
  have := Nat.two_pow_pos i
  rw [h]
  exact Nat.le_mul_of_pos_left _ this
set_option maxRecDepth 100000 in
theorem loop10 : ∀ x Kr Kx, Q10 x Kr Kx → ∃ n, untl (W Y4 Try.f37.ntmps (LTab.look L37) (bodyAt b37 10)) I37 [] o10 n x Kr Kx := by
  rintro ⟨a0, b0, z, w, n0, u⟩ Kr Kx ⟨⟨h1, h2, h3, h4, h5, h6⟩, hK⟩
  have hK : ∀ (a b : List (BitVec 64)), numS.wfT b → valN b = Nat.gcd (valN a0) (valN b0) → Kx.1 (a, b, z, w, n0, ()) := hK
  have h6 : w = [0#64, 0#64, 0#64, 0#64] := h6
  have key : ∀ (m : Nat) (a b : List (BitVec 64)), valN a + valN b ≤ m → numS.wfT a → numS.wfT b → valN b ≠ 0 → (valN a ≠ 0 → ¬ (valN a % 2 = 0 ∧ valN b % 2 = 0)) → Nat.gcd (valN a) (valN b) = Nat.gcd (valN a0) (valN b0) →
      untl (W Y4 Try.f37.ntmps (LTab.look L37) (bodyAt b37 10)) I37 [] o10 (m + 1) (a, b, z, w, n0, ()) Kr Kx := by
    intro m
    induction m with
    | zero => intro a b hm _ _ hb; omega
    | succ m ih =>
      intro a b hm wa wb hb hodd hg
      rw [untl_succ, round10]
      refine ifB_of (fun h => ?_) (fun h => ?_)
      · have ha : valN a ≠ 0 := fun e => by
          have e2 := (val_z4 wa).1 e
          have : teq (Sh.arr 4 (Sh.int IntKind.u64)) a w = true := teq_of (by rw [h6]; exact e2)
          rw [this] at h; cases h
        have hodd := hodd ha
        refine ⟨⟨wa, ha⟩, fun a1 i wa1 ea oa => ?_⟩
        refine ⟨⟨wb, hb⟩, fun b1 j wb1 eb ob => ?_⟩
        have ea : valN a = 2 ^ i * valN a1 := ea
        have eb : valN b = 2 ^ j * valN b1 := eb
        have g1 := gcd_odd ea eb oa ob hodd
        have l1 := le_pow2 ea
        have l2 := le_pow2 eb
        have A2 := lt4 wa1
        have B2 := lt4 wb1
        rw [hg] at g1
        show ifB (decide (cmpI (valN a1) (valN b1) < 0)) (untl (W Y4 Try.f37.ntmps (LTab.look L37) (bodyAt b37 10)) I37 [] o10 (m + 1) (wordsN 4 (valN b1 + 2 ^ 256 - valN a1), a1, z, w, n0, ()) Kr Kx)
          (untl (W Y4 Try.f37.ntmps (LTab.look L37) (bodyAt b37 10)) I37 [] o10 (m + 1) (wordsN 4 (valN a1 + 2 ^ 256 - valN b1), b1, z, w, n0, ()) Kr Kx)
        refine ifB_of (fun hc => ?_) (fun hc => ?_)
        · have hlt : valN a1 < valN b1 := by
            rcases cmpI_cases (valN a1) (valN b1) with ⟨c, _⟩ | ⟨_, c⟩ | ⟨_, c⟩
            · exact c
            · rw [c] at hc; exact absurd hc (by decide)
            · rw [c] at hc; exact absurd hc (by decide)
          have ev : valN (wordsN 4 (valN b1 + 2 ^ 256 - valN a1)) = valN b1 - valN a1 := by
            rw [v4m, show valN b1 + 2 ^ 256 - valN a1 = (valN b1 - valN a1) + 2 ^ 256 by omega, Nat.add_mod_right, Nat.mod_eq_of_lt (by omega)]
          refine ih _ _ (by rw [ev]; omega) (num_wf _) wa1 (by omega) (fun _ => by omega) ?_
          rw [ev, gcd_minus (Nat.le_of_lt hlt), Nat.gcd_comm]; exact g1.symm
        · have hge : valN b1 ≤ valN a1 := by
            rcases cmpI_cases (valN a1) (valN b1) with ⟨_, c⟩ | ⟨c, _⟩ | ⟨c, _⟩
            · rw [c] at hc; exact absurd hc (by decide)
            · omega
            · omega
          have ev : valN (wordsN 4 (valN a1 + 2 ^ 256 - valN b1)) = valN a1 - valN b1 := by
            rw [v4m, show valN a1 + 2 ^ 256 - valN b1 = (valN a1 - valN b1) + 2 ^ 256 by omega, Nat.add_mod_right, Nat.mod_eq_of_lt (by omega)]
          refine ih _ _ (by rw [ev]; omega) (num_wf _) wb1 (by omega) (fun _ => by omega) ?_
          rw [ev, gcd_minus hge]; exact g1.symm
      · have e : a = w := teq_iff.1 (by simpa using h)
        have e0 : valN a = 0 := by rw [e, h6]; rfl
        rw [e0, Nat.gcd_zero_left] at hg
        exact hK a b wb hg
  exact ⟨_, key (valN a0 + valN b0) a0 b0 (Nat.le_refl _) h1 h2 h4 (fun _ => h5) rfl⟩

theorem in11 : bodyAt (bodyAt b37 10) 11 = bodyAt b37 11 := by kernel_rfl
theorem in13 : bodyAt (bodyAt b37 10) 13 = bodyAt b37 13 := by kernel_rfl
theorem loop11' : ∀ x Kr Kx, Q11 x Kr Kx → ∃ n, untl (W Y4 Try.f37.ntmps (LTab.look L37) (bodyAt (bodyAt b37 10) 11)) I37 [] o11 n x Kr Kx := by rw [in11]; exact loop11
theorem loop13' : ∀ x Kr Kx, Q13 x Kr Kx → ∃ n, untl (W Y4 Try.f37.ntmps (LTab.look L37) (bodyAt (bodyAt b37 10) 13)) I37 [] o13 n x Kr Kx := by rw [in13]; exact loop13
def gcdF : HL [numS, numS] → SV := fun xs => .av (.val numS (wordsN 4 (Nat.gcd (valN xs.1) (valN xs.2.1))))
theorem gcd_ok : COK Try.prog noGl 37 (conT [numS, numS] gcdF) := by
  refine conT_ok (fun xs hw => ?_) (fun xs => rfl)
  obtain ⟨a, b, ⟨⟩⟩ := xs
  have wa : numS.wfT a := hw.1
  have wb : numS.wfT b := hw.2.1
  refine PC_of_fw (t := L37) shU_ok ct4_ok mixed Try.func37 (c := b37) rfl (by kernel_rfl) (by kernel_rfl)
    (loopsOK (by kernel_rfl) (LTCons (loop_of shU_ok ct4_ok mixed ?_ (by kernel_rfl) loop7) (LTCons (loop_of shU_ok ct4_ok mixed ?_ (by kernel_rfl) loop10) (LTCons (loop_of shU_ok ct4_ok mixed ?_ (by kernel_rfl) loop11) (LTCons (loop_of shU_ok ct4_ok mixed ?_ (by kernel_rfl) loop13) LTNil))))) rfl ?_
  · exact loopsOK (by kernel_rfl) (LTCons (noLoop (by kernel_rfl)) (LTCons (noLoop (by kernel_rfl)) (LTCons (noLoop (by kernel_rfl)) (LTCons (noLoop (by kernel_rfl)) LTNil))))
  · exact loopsOK (by kernel_rfl) (LTCons (noLoop (by kernel_rfl)) (LTCons (noLoop (by kernel_rfl)) (LTCons (loop_of shU_ok ct4_ok mixed (loopsOK (by kernel_rfl) (LTCons (noLoop (by kernel_rfl)) (LTCons (noLoop (by kernel_rfl)) (LTCons (noLoop (by kernel_rfl)) (LTCons (noLoop (by kernel_rfl)) LTNil))))) (by kernel_rfl) loop11') (LTCons (loop_of shU_ok ct4_ok mixed (loopsOK (by kernel_rfl) (LTCons (noLoop (by kernel_rfl)) (LTCons (noLoop (by kernel_rfl)) (LTCons (noLoop (by kernel_rfl)) (LTCons (noLoop (by kernel_rfl)) LTNil))))) (by kernel_rfl) loop13') LTNil))))
  · exact loopsOK (by kernel_rfl) (LTCons (noLoop (by kernel_rfl)) (LTCons (noLoop (by kernel_rfl)) (LTCons (noLoop (by kernel_rfl)) (LTCons (noLoop (by kernel_rfl)) LTNil))))
  · exact loopsOK (by kernel_rfl) (LTCons (noLoop (by kernel_rfl)) (LTCons (noLoop (by kernel_rfl)) (LTCons (noLoop (by kernel_rfl)) (LTCons (noLoop (by kernel_rfl)) LTNil))))
  · rw [fw37]
    refine ifB_of (fun h => ?_) (fun h => ifB_of (fun h' => ?_) (fun h' => ?_))
    · have h : a = [0#64, 0#64, 0#64, 0#64] := teq_iff.1 h
      subst h
      show SV.av _ = SV.av (.val numS (wordsN 4 (Nat.gcd 0 (valN b))))
      rw [Nat.gcd_zero_left, self4 wb]
    · have h : b = [0#64, 0#64, 0#64, 0#64] := teq_iff.1 h'
      subst h
      show SV.av _ = SV.av (.val numS (wordsN 4 (Nat.gcd (valN a) 0)))
      rw [Nat.gcd_zero_right, self4 wa]
    · have ha := mpos wa h
      have hb := mpos wb h'
      refine ⟨⟨wa, wb, Nat.ne_of_gt ha, Nat.ne_of_gt hb, rfl⟩, fun a1 b1 k wa1 wb1 ea eb hodd hk => ?_⟩
      have ea : valN a = 2 ^ k * valN a1 := ea
      have eb : valN b = 2 ^ k * valN b1 := eb
      refine ⟨⟨wa1, wb1, fun e => ?_, fun e => ?_, hodd, rfl⟩, fun a2 b2 wb2 eg => ?_⟩
      · have e : valN a1 = 0 := e
        rw [e, Nat.mul_zero] at ea; omega
      · have e : valN b1 = 0 := e
        rw [e, Nat.mul_zero] at eb; omega
      · have eg : valN b2 = Nat.gcd (valN a1) (valN b1) := eg
        show SV.av (.val numS (wordsN 4 (shiftN (valN b2) (k : Int)))) = SV.av (.val numS (wordsN 4 (Nat.gcd (valN a) (valN b))))
        have es : shiftN (valN b2) (k : Int) = valN b2 * 2 ^ k := by
          unfold shiftN upN
          rw [if_neg (by omega), if_neg (by omega), if_pos (by omega), Int.toNat_natCast]
        rw [es, eg, ea, eb, Nat.gcd_mul_left, Nat.mul_comm]
end Go.Proofs.Ytninlahlmjhmhaa
