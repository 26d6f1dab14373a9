import Derived.Test.YtninlahlmjhmhaaQg
namespace Go.Proofs.Ytninlahlmjhmhaa
open Go.Ty

theorem teq_eq {s : Sh} {x y : s.T} (h : x = y) : teq s x y = true := teq_iff.2 h
theorem teq_one {n : Nat} (h : n < 2 ^ 256) : teq (Sh.arr 4 (Sh.int IntKind.u64)) (wordsN 4 n) [1#64, 0#64, 0#64, 0#64] = decide (n = 1) := by
  by_cases e : n = 1
  · subst e; rw [decide_eq_true rfl]; exact teq_of (by decide)
  · rw [decide_eq_false e]
    refine Bool.eq_false_iff.2 fun h2 => e ?_
    have h2 : wordsN 4 n = [1#64, 0#64, 0#64, 0#64] := teq_iff.1 h2
    have := v4 h
    rw [h2] at this
    exact this.symm
theorem divB_iff {c a : Nat} (h : 0 < c) : divB c a = true ↔ c ∣ a := by
  unfold divB
  rw [decide_eq_false (by omega : ¬ c = 0), Bool.not_false, Bool.true_and, decide_eq_true_iff]
  exact ⟨Nat.dvd_of_mod_eq_zero, Nat.mod_eq_zero_of_dvd⟩
theorem divB_dvd {c a : Nat} (h : divB c a = true) : 0 < c ∧ c ∣ a := by
  have h0 : 0 < c := by
    refine Nat.pos_of_ne_zero fun e => ?_
    subst e
    exact absurd h (by simp [divB])
  exact ⟨h0, (divB_iff h0).1 h⟩
theorem not_t {b : Bool} {p : Prop} (h : (!b) = false) (k : b = true → p) : p := k (by simpa using h)

theorem fw11 (a : Sh.T (numS)) (b : Sh.T (numS)) (c : Sh.T (numS)) (P : SV → Prop) : FW Y5 Try.f11.ntmps (LTab.look []) Try.f11 (argsOf [numS, numS, numS] (a, b, c, ())) P =
  ifB (!teq (Sh.arr 4 (Sh.int IntKind.u64)) (wordsN 4 ((valN a).gcd (valN b))) (wordsN 4 ((valN b).gcd (valN a))))
    (P (SV.av (AV.val Sh.bool false)))
    (ifB (!teq (Sh.arr 4 (Sh.int IntKind.u64)) (wordsN 4 ((valN a).gcd (valN [0#64, 0#64, 0#64, 0#64]))) a)
      (P (SV.av (AV.val Sh.bool false)))
      (ifB (teq (Sh.arr 4 (Sh.int IntKind.u64)) (wordsN 4 ((valN a).gcd (valN b))) [0#64, 0#64, 0#64, 0#64])
        (ifB (teq (Sh.arr 4 (Sh.int IntKind.u64)) a [0#64, 0#64, 0#64, 0#64])
          (P (SV.av (AV.val Sh.bool (teq (Sh.arr 4 (Sh.int IntKind.u64)) b [0#64, 0#64, 0#64, 0#64]))))
          (P (SV.av (AV.val Sh.bool false))))
        (ifB (divB (valN (wordsN 4 ((valN a).gcd (valN b)))) (valN a))
          (ifB (divB (valN (wordsN 4 ((valN a).gcd (valN b)))) (valN b))
            (ifB (!divB (valN c) (valN a)) (P (SV.av (AV.val Sh.bool true)))
              (ifB (!divB (valN c) (valN b)) (P (SV.av (AV.val Sh.bool true)))
                (P (SV.av (AV.val Sh.bool (divB (valN c) (valN (wordsN 4 ((valN a).gcd (valN b))))))))))
            (P (SV.av (AV.val Sh.bool false))))
          (P (SV.av (AV.val Sh.bool false)))))) := by kernel_rfl

set_option maxHeartbeats 2000000 in
theorem walk11 (xs : HL [numS, numS, numS]) (h : okHL [numS, numS, numS] xs) : PC (bx Try.prog noGl) 11 (argsOf [numS, numS, numS] xs) (.av (.val .bool true)) := by
  obtain ⟨a, b, c, ⟨⟩⟩ := xs
  refine PC_of_fw (t := []) shU_ok ct5_ok mixed Try.func11 (c := Try.f11.body.getD .skip) rfl (by kernel_rfl) (by kernel_rfl) loopsNil rfl ?_
  rw [fw11]
  have wa : numS.wfT a := okwf4 h.1
  have wb : numS.wfT b := okwf4 h.2.1
  have wc : numS.wfT c := okwf4 h.2.2.1
  have A2 := lt4 wa
  have B2 := lt4 wb
  have sa := self4 wa
  have hg : Nat.gcd (valN a) (valN b) < 2 ^ 256 := by
    rcases Nat.eq_zero_or_pos (valN a) with e | e
    · rw [e, Nat.gcd_zero_left]; exact B2
    · exact Nat.lt_of_le_of_lt (Nat.gcd_le_left _ e) A2
  rw [Nat.gcd_comm (valN b), show valN [0#64, 0#64, 0#64, 0#64] = 0 from rfl, Nat.gcd_zero_right, sa, teq_z hg, v4 hg, teq_eq (s := Sh.arr 4 (Sh.int IntKind.u64)) (x := wordsN 4 _) rfl, teq_eq (s := Sh.arr 4 (Sh.int IntKind.u64)) (x := a) rfl]
  refine ifB_of (fun h => absurd h (by decide)) (fun _ => ifB_of (fun h => absurd h (by decide)) (fun _ => ifB_of (fun h => ?_) (fun h => ?_)))
  · have h := of_decide_eq_true h
    have ea : valN a = 0 := Nat.eq_zero_of_gcd_eq_zero_left h
    have eb : valN b = 0 := Nat.eq_zero_of_gcd_eq_zero_right h
    rw [show teq (Sh.arr 4 (Sh.int IntKind.u64)) a [0#64, 0#64, 0#64, 0#64] = true from teq_eq ((val_z4 wa).1 ea), show teq (Sh.arr 4 (Sh.int IntKind.u64)) b [0#64, 0#64, 0#64, 0#64] = true from teq_eq ((val_z4 wb).1 eb)]
    exact ifB_of (fun _ => rfl) (fun h => absurd h (by decide))
  · have h := of_decide_eq_false h
    have g0 : 0 < Nat.gcd (valN a) (valN b) := Nat.pos_of_ne_zero h
    rw [(divB_iff g0).2 (Nat.gcd_dvd_left _ _), (divB_iff g0).2 (Nat.gcd_dvd_right _ _)]
    refine ifB_of (fun _ => ifB_of (fun _ => ifB_of (fun _ => rfl) (fun h1 => ifB_of (fun _ => rfl) (fun h2 => ?_))) (fun h => absurd h (by decide))) (fun h => absurd h (by decide))
    refine not_t h1 fun h1 => not_t h2 fun h2 => ?_
    obtain ⟨c0, d1⟩ := divB_dvd h1
    obtain ⟨_, d2⟩ := divB_dvd h2
    exact pbool ((divB_iff c0).2 (Nat.dvd_gcd d1 d2))

theorem invE_1 {a m : Nat} (h0 : m ≠ 0) (h : Nat.gcd a m = 1) : invE a m = 0 := by
  unfold invE
  rw [decide_eq_false h0, decide_eq_true h]
  cases decide (m = 1) <;> rfl
theorem invE_6 {a m : Nat} (h0 : m ≠ 0) (h : Nat.gcd a m ≠ 1) : invE a m = 6 := by
  have h1 : m ≠ 1 := fun e => h (by rw [e, Nat.gcd_one_right])
  unfold invE
  rw [decide_eq_false h0, decide_eq_false h, decide_eq_false h1]; rfl
/-- Bezout: there is one -/
theorem inv_some {a m : Nat} (hm : 1 < m) (h : Nat.gcd a m = 1) : ∃ x, x < m ∧ a * x % m = 1 := by
  have key : ∀ (n r0 r1 : Nat) (s0 s1 : Int), r1 ≤ n → (m : Int) ∣ s0 * a - r0 → (m : Int) ∣ s1 * a - r1 → ∃ s : Int, (m : Int) ∣ s * a - Nat.gcd r0 r1 := by
    intro n
    induction n with
    | zero =>
      intro r0 r1 s0 s1 h1 h2 _
      have : r1 = 0 := by omega
      subst this
      exact ⟨s0, by rw [Nat.gcd_zero_right]; exact h2⟩
    | succ n ih =>
      intro r0 r1 s0 s1 h1 h2 h3
      by_cases e : r1 = 0
      · subst e; exact ⟨s0, by rw [Nat.gcd_zero_right]; exact h2⟩
      · have hr := Nat.mod_lt r0 (Nat.pos_of_ne_zero e)
        have hd := Nat.div_add_mod r0 r1
        have d5 : (r0 : Int) = ((r0 / r1 : Nat) : Int) * r1 + ((r0 % r1 : Nat) : Int) := by rw [← Int.natCast_mul, Nat.mul_comm]; omega
        obtain ⟨s, hs⟩ := ih r1 (r0 % r1) s1 (s0 - ((r0 / r1 : Nat) : Int) * s1) (by omega) h3 (bez_step (off := ((r0 / r1 : Nat) : Int) * s1) ⟨0, by omega⟩ ⟨0, by omega⟩ h2 h3 d5)
        refine ⟨s, ?_⟩
        rw [Nat.gcd_comm r0, Nat.gcd_rec r1 r0, Nat.gcd_comm]; exact hs
  obtain ⟨s, hs⟩ := key m a m 1 0 (Nat.le_refl _) ⟨0, by omega⟩ ⟨-1, by omega⟩
  rw [h] at hs
  have hm0 : (0 : Int) < (m : Int) := by omega
  have h1 := Int.emod_nonneg s (Int.ne_of_gt hm0)
  have h2 := Int.emod_lt_of_pos s hm0
  refine ⟨(s % m).toNat, by omega, ?_⟩
  refine dvd_eq hm ?_
  rw [Int.natCast_mul, Int.toNat_of_nonneg h1]
  have h3 : (m : Int) ∣ s % m - s := by
    have := Int.mul_ediv_add_emod s m
    exact ⟨-(s / m), by rw [Int.mul_neg]; omega⟩
  have e : (a : Int) * (s % m) - ((1 : Nat) : Int) = (s % m - s) * a + (s * a - ((1 : Nat) : Int)) := by grind
  rw [e]
  exact Int.dvd_add (Int.dvd_mul_of_dvd_left h3) hs
theorem fw15 (a : Sh.T (numS)) (m : Sh.T (numS)) (P : SV → Prop) : FW Y5 Try.f15.ntmps (LTab.look []) Try.f15 (argsOf [numS, numS] (a, m, ())) P =
  ifB (teq (Sh.arr 4 (Sh.int IntKind.u64)) m [0#64, 0#64, 0#64, 0#64])
    (ifB (!decide (invE (valN a) (valN m) = 0))
      (P
        (SV.av
          (AV.val Sh.bool
            (teq (Sh.arr 4 (Sh.int IntKind.u64)) (wordsN 4 (invN (valN a) (valN m))) [0#64, 0#64, 0#64, 0#64]))))
      (P (SV.av (AV.val Sh.bool false))))
    (ifB (!teq (Sh.arr 4 (Sh.int IntKind.u64)) (wordsN 4 ((valN a).gcd (valN m))) [1#64, 0#64, 0#64, 0#64])
      (ifB (!decide (invE (valN a) (valN m) = 0))
        (P
          (SV.av
            (AV.val Sh.bool
              (teq (Sh.arr 4 (Sh.int IntKind.u64)) (wordsN 4 (invN (valN a) (valN m))) [0#64, 0#64, 0#64, 0#64]))))
        (P (SV.av (AV.val Sh.bool false))))
      (ifB (decide (invE (valN a) (valN m) = 0))
        (ifB
          (teq (Sh.arr 4 (Sh.int IntKind.u64))
            (wordsN 4 (remN (valN (wordsN 8 (valN a * valN (wordsN 4 (invN (valN a) (valN m)))))) (valN m)))
            (wordsN 4 (remN (valN (wordsN 8 (valN [1#64, 0#64, 0#64, 0#64]))) (valN m))))
          (ifB (decide (cmpI (valN (wordsN 4 (invN (valN a) (valN m)))) (valN m) < 0))
            (ifB (decide (invE (valN (wordsN 4 (invN (valN a) (valN m)))) (valN m) = 0))
              (P
                (SV.av
                  (AV.val Sh.bool
                    (teq (Sh.arr 4 (Sh.int IntKind.u64))
                      (wordsN 4 (invN (valN (wordsN 4 (invN (valN a) (valN m)))) (valN m)))
                      (wordsN 4 (remN (valN (wordsN 8 (valN a))) (valN m)))))))
              (P (SV.av (AV.val Sh.bool false))))
            (P (SV.av (AV.val Sh.bool false))))
          (P (SV.av (AV.val Sh.bool false))))
        (P (SV.av (AV.val Sh.bool false))))) := by kernel_rfl

set_option maxHeartbeats 2000000 in
theorem walk15 (xs : HL [numS, numS]) (h : okHL [numS, numS] xs) : PC (bx Try.prog noGl) 15 (argsOf [numS, numS] xs) (.av (.val .bool true)) := by
  obtain ⟨a, m, ⟨⟩⟩ := xs
  refine PC_of_fw (t := []) shU_ok ct5_ok mixed Try.func15 (c := Try.f15.body.getD .skip) rfl (by kernel_rfl) (by kernel_rfl) loopsNil rfl ?_
  rw [fw15]
  have wa : numS.wfT a := okwf4 h.1
  have wm : numS.wfT m := okwf4 h.2.1
  have A2 := lt4 wa
  have M2 := lt4 wm
  have tz : teq (Sh.arr 4 (Sh.int IntKind.u64)) (wordsN 4 0) [0#64, 0#64, 0#64, 0#64] = true := teq_of (by decide)
  refine ifB_of (fun h => ?_) (fun h => ?_)
  · have e : valN m = 0 := (val_z4 wm).2 (teq_iff.1 h)
    have e2 : invN (valN a) 0 = 0 := by unfold invN; rw [dif_neg]; rintro ⟨x, hx, _⟩; omega
    rw [e, e2, tz]
    exact ifB_of (fun _ => rfl) (fun h => absurd h (by simp [invE]))
  · have M0 := mpos wm h
    clear h
    have hg : Nat.gcd (valN a) (valN m) < 2 ^ 256 := Nat.lt_of_le_of_lt (Nat.gcd_le_right _ M0) M2
    rw [teq_one hg]
    refine ifB_of (fun h => ?_) (fun h => ?_)
    · have h1 : Nat.gcd (valN a) (valN m) ≠ 1 := fun e => by rw [decide_eq_true e] at h; cases h
      rw [invE_6 (by omega) h1, invN_none h1, tz]
      exact ifB_of (fun _ => rfl) (fun h => absurd h (by decide))
    · have h1 : Nat.gcd (valN a) (valN m) = 1 := not_t h fun h => of_decide_eq_true h
      rw [invE_1 (by omega) h1, remN_pos M0, remN_pos M0, remN_pos M0, show valN [1#64, 0#64, 0#64, 0#64] = 1 from rfl, v8 (n := 1) (by omega), v8 (lt5 A2)]
      by_cases e1 : valN m = 1
      · have e0 : valN a % 1 = 0 := Nat.mod_one _
        rw [e1, invN_one, v4 (n := 0) (by omega), invN_one, Nat.mod_one, Nat.mod_one, Nat.mod_one, invE_1 (by omega) (Nat.gcd_one_right 0)]
        exact ifB_of (fun _ => ifB_of (fun _ => ifB_of (fun _ => ifB_of (fun _ => pbool (teq_of rfl)) (fun h => absurd h (by decide))) (fun h => absurd h (by decide))) (fun h => teq_no rfl h)) (fun h => absurd h (by decide))
      · have m1 : 1 < valN m := by omega
        have hex := inv_some m1 h1
        obtain ⟨x, hx, ex⟩ := hex
        rw [invN_eq hx ex, v4 (n := x) (by omega)]
        have ex' : x * (valN a % valN m) % valN m = 1 := by rw [Nat.mul_mod, Nat.mod_mod, ← Nat.mul_mod, Nat.mul_comm]; exact ex
        have hp : valN a * x < 2 ^ 256 * 2 ^ 256 := Nat.mul_lt_mul'' A2 (by omega)
        have hg2 : Nat.gcd x (valN m) = 1 := gcd_of_inv ex'
        rw [v8 hp, ex, invN_eq (Nat.mod_lt _ M0) ex', invE_1 (by omega) hg2, Nat.mod_eq_of_lt (show 1 < valN m by omega), cmpI_lt hx]
        exact ifB_of (fun _ => ifB_of (fun _ => ifB_of (fun _ => ifB_of (fun _ => pbool (teq_of rfl)) (fun h => absurd h (by decide))) (fun h => absurd h (by decide))) (fun h => teq_no rfl h)) (fun h => absurd h (by decide))
end Go.Proofs.Ytninlahlmjhmhaa
