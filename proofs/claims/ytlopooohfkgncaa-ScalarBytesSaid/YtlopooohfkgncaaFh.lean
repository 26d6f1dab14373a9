import Derived.Test.YtlopooohfkgncaaB0
import Derived.Test.YtlopooohfkgncaaFg
namespace Go.Proofs.Ytlopooohfkgncaa.Lb
open Go.Ty
theorem fw6 (a : Sh.T (numS)) (P : SV → Prop) : FW F6 Try.f6.ntmps (LTab.look []) Try.f6 (argsOf [numS] (a, ())) P =
 (  ifB (!sqrtB (valN (wordsN 4 (valN a * valN a % PP)))) (P (SV.av (AV.val Sh.bool false)))
    (ifB (!decide (rd (Sh.int IntKind.u64) (wordsN 4 (sqrtN (valN (wordsN 4 (valN a * valN a % PP))))) 0 % 2#64 = 0#64))
      (P (SV.av (AV.val Sh.bool false)))
      (ifB
        (!teq (Sh.arr 4 (Sh.int IntKind.u64)) (wordsN 4 (sqrtN (valN (wordsN 4 (valN a * valN a % PP)))))
            (wordsN 4 (valN a % PP)))
        (ifB
          (!teq (Sh.arr 4 (Sh.int IntKind.u64)) (wordsN 4 (sqrtN (valN (wordsN 4 (valN a * valN a % PP)))))
              (wordsN 4 ((valN [0#64, 0#64, 0#64, 0#64] % PP + PP - valN a % PP) % PP)))
          (P (SV.av (AV.val Sh.bool false)))
          (ifB (sqrtB (valN a))
            (ifB
              (!teq (Sh.arr 4 (Sh.int IntKind.u64))
                  (wordsN 4 (valN (wordsN 4 (sqrtN (valN a))) * valN (wordsN 4 (sqrtN (valN a))) % PP))
                  (wordsN 4 (valN a % PP)))
              (P (SV.av (AV.val Sh.bool false)))
              (ifB (!decide (rd (Sh.int IntKind.u64) (wordsN 4 (sqrtN (valN a))) 0 % 2#64 = 0#64))
                (P (SV.av (AV.val Sh.bool false)))
                (ifB (!sqrtB (valN a))
                  (ifB (!teq (Sh.arr 4 (Sh.int IntKind.u64)) (wordsN 4 (sqrtN (valN a))) [0#64, 0#64, 0#64, 0#64])
                    (P (SV.av (AV.val Sh.bool false)))
                    (ifB
                      (sqrtB
                        (valN
                          (wordsN 4
                            ((valN [0#64, 0#64, 0#64, 0#64] % PP + PP - valN [1#64, 0#64, 0#64, 0#64] % PP) % PP))))
                      (P
                        (SV.av
                          (AV.val Sh.bool
                            (teq (Sh.arr 4 (Sh.int IntKind.u64))
                              (wordsN 4
                                (valN
                                      (wordsN 4
                                        (sqrtN
                                          (valN
                                            (wordsN 4
                                              ((valN [0#64, 0#64, 0#64, 0#64] % PP + PP -
                                                  valN [1#64, 0#64, 0#64, 0#64] % PP) %
                                                PP))))) *
                                    valN
                                      (wordsN 4
                                        (sqrtN
                                          (valN
                                            (wordsN 4
                                              ((valN [0#64, 0#64, 0#64, 0#64] % PP + PP -
                                                  valN [1#64, 0#64, 0#64, 0#64] % PP) %
                                                PP))))) %
                                  PP))
                              (wordsN 4
                                ((valN [0#64, 0#64, 0#64, 0#64] % PP + PP - valN [1#64, 0#64, 0#64, 0#64] % PP) % PP))))))
                      (P (SV.av (AV.val Sh.bool false)))))
                  (ifB
                    (sqrtB
                      (valN
                        (wordsN 4 ((valN [0#64, 0#64, 0#64, 0#64] % PP + PP - valN [1#64, 0#64, 0#64, 0#64] % PP) % PP))))
                    (P
                      (SV.av
                        (AV.val Sh.bool
                          (teq (Sh.arr 4 (Sh.int IntKind.u64))
                            (wordsN 4
                              (valN
                                    (wordsN 4
                                      (sqrtN
                                        (valN
                                          (wordsN 4
                                            ((valN [0#64, 0#64, 0#64, 0#64] % PP + PP -
                                                valN [1#64, 0#64, 0#64, 0#64] % PP) %
                                              PP))))) *
                                  valN
                                    (wordsN 4
                                      (sqrtN
                                        (valN
                                          (wordsN 4
                                            ((valN [0#64, 0#64, 0#64, 0#64] % PP + PP -
                                                valN [1#64, 0#64, 0#64, 0#64] % PP) %
                                              PP))))) %
                                PP))
                            (wordsN 4
                              ((valN [0#64, 0#64, 0#64, 0#64] % PP + PP - valN [1#64, 0#64, 0#64, 0#64] % PP) % PP))))))
                    (P (SV.av (AV.val Sh.bool false)))))))
            (ifB (!sqrtB (valN a))
              (ifB (!teq (Sh.arr 4 (Sh.int IntKind.u64)) (wordsN 4 (sqrtN (valN a))) [0#64, 0#64, 0#64, 0#64])
                (P (SV.av (AV.val Sh.bool false)))
                (ifB
                  (sqrtB
                    (valN
                      (wordsN 4 ((valN [0#64, 0#64, 0#64, 0#64] % PP + PP - valN [1#64, 0#64, 0#64, 0#64] % PP) % PP))))
                  (P
                    (SV.av
                      (AV.val Sh.bool
                        (teq (Sh.arr 4 (Sh.int IntKind.u64))
                          (wordsN 4
                            (valN
                                  (wordsN 4
                                    (sqrtN
                                      (valN
                                        (wordsN 4
                                          ((valN [0#64, 0#64, 0#64, 0#64] % PP + PP -
                                              valN [1#64, 0#64, 0#64, 0#64] % PP) %
                                            PP))))) *
                                valN
                                  (wordsN 4
                                    (sqrtN
                                      (valN
                                        (wordsN 4
                                          ((valN [0#64, 0#64, 0#64, 0#64] % PP + PP -
                                              valN [1#64, 0#64, 0#64, 0#64] % PP) %
                                            PP))))) %
                              PP))
                          (wordsN 4
                            ((valN [0#64, 0#64, 0#64, 0#64] % PP + PP - valN [1#64, 0#64, 0#64, 0#64] % PP) % PP))))))
                  (P (SV.av (AV.val Sh.bool false)))))
              (ifB
                (sqrtB
                  (valN (wordsN 4 ((valN [0#64, 0#64, 0#64, 0#64] % PP + PP - valN [1#64, 0#64, 0#64, 0#64] % PP) % PP))))
                (P
                  (SV.av
                    (AV.val Sh.bool
                      (teq (Sh.arr 4 (Sh.int IntKind.u64))
                        (wordsN 4
                          (valN
                                (wordsN 4
                                  (sqrtN
                                    (valN
                                      (wordsN 4
                                        ((valN [0#64, 0#64, 0#64, 0#64] % PP + PP - valN [1#64, 0#64, 0#64, 0#64] % PP) %
                                          PP))))) *
                              valN
                                (wordsN 4
                                  (sqrtN
                                    (valN
                                      (wordsN 4
                                        ((valN [0#64, 0#64, 0#64, 0#64] % PP + PP - valN [1#64, 0#64, 0#64, 0#64] % PP) %
                                          PP))))) %
                            PP))
                        (wordsN 4
                          ((valN [0#64, 0#64, 0#64, 0#64] % PP + PP - valN [1#64, 0#64, 0#64, 0#64] % PP) % PP))))))
                (P (SV.av (AV.val Sh.bool false)))))))
        (ifB (sqrtB (valN a))
          (ifB
            (!teq (Sh.arr 4 (Sh.int IntKind.u64))
                (wordsN 4 (valN (wordsN 4 (sqrtN (valN a))) * valN (wordsN 4 (sqrtN (valN a))) % PP))
                (wordsN 4 (valN a % PP)))
            (P (SV.av (AV.val Sh.bool false)))
            (ifB (!decide (rd (Sh.int IntKind.u64) (wordsN 4 (sqrtN (valN a))) 0 % 2#64 = 0#64))
              (P (SV.av (AV.val Sh.bool false)))
              (ifB (!sqrtB (valN a))
                (ifB (!teq (Sh.arr 4 (Sh.int IntKind.u64)) (wordsN 4 (sqrtN (valN a))) [0#64, 0#64, 0#64, 0#64])
                  (P (SV.av (AV.val Sh.bool false)))
                  (ifB
                    (sqrtB
                      (valN
                        (wordsN 4 ((valN [0#64, 0#64, 0#64, 0#64] % PP + PP - valN [1#64, 0#64, 0#64, 0#64] % PP) % PP))))
                    (P
                      (SV.av
                        (AV.val Sh.bool
                          (teq (Sh.arr 4 (Sh.int IntKind.u64))
                            (wordsN 4
                              (valN
                                    (wordsN 4
                                      (sqrtN
                                        (valN
                                          (wordsN 4
                                            ((valN [0#64, 0#64, 0#64, 0#64] % PP + PP -
                                                valN [1#64, 0#64, 0#64, 0#64] % PP) %
                                              PP))))) *
                                  valN
                                    (wordsN 4
                                      (sqrtN
                                        (valN
                                          (wordsN 4
                                            ((valN [0#64, 0#64, 0#64, 0#64] % PP + PP -
                                                valN [1#64, 0#64, 0#64, 0#64] % PP) %
                                              PP))))) %
                                PP))
                            (wordsN 4
                              ((valN [0#64, 0#64, 0#64, 0#64] % PP + PP - valN [1#64, 0#64, 0#64, 0#64] % PP) % PP))))))
                    (P (SV.av (AV.val Sh.bool false)))))
                (ifB
                  (sqrtB
                    (valN
                      (wordsN 4 ((valN [0#64, 0#64, 0#64, 0#64] % PP + PP - valN [1#64, 0#64, 0#64, 0#64] % PP) % PP))))
                  (P
                    (SV.av
                      (AV.val Sh.bool
                        (teq (Sh.arr 4 (Sh.int IntKind.u64))
                          (wordsN 4
                            (valN
                                  (wordsN 4
                                    (sqrtN
                                      (valN
                                        (wordsN 4
                                          ((valN [0#64, 0#64, 0#64, 0#64] % PP + PP -
                                              valN [1#64, 0#64, 0#64, 0#64] % PP) %
                                            PP))))) *
                                valN
                                  (wordsN 4
                                    (sqrtN
                                      (valN
                                        (wordsN 4
                                          ((valN [0#64, 0#64, 0#64, 0#64] % PP + PP -
                                              valN [1#64, 0#64, 0#64, 0#64] % PP) %
                                            PP))))) %
                              PP))
                          (wordsN 4
                            ((valN [0#64, 0#64, 0#64, 0#64] % PP + PP - valN [1#64, 0#64, 0#64, 0#64] % PP) % PP))))))
                  (P (SV.av (AV.val Sh.bool false)))))))
          (ifB (!sqrtB (valN a))
            (ifB (!teq (Sh.arr 4 (Sh.int IntKind.u64)) (wordsN 4 (sqrtN (valN a))) [0#64, 0#64, 0#64, 0#64])
              (P (SV.av (AV.val Sh.bool false)))
              (ifB
                (sqrtB
                  (valN (wordsN 4 ((valN [0#64, 0#64, 0#64, 0#64] % PP + PP - valN [1#64, 0#64, 0#64, 0#64] % PP) % PP))))
                (P
                  (SV.av
                    (AV.val Sh.bool
                      (teq (Sh.arr 4 (Sh.int IntKind.u64))
                        (wordsN 4
                          (valN
                                (wordsN 4
                                  (sqrtN
                                    (valN
                                      (wordsN 4
                                        ((valN [0#64, 0#64, 0#64, 0#64] % PP + PP - valN [1#64, 0#64, 0#64, 0#64] % PP) %
                                          PP))))) *
                              valN
                                (wordsN 4
                                  (sqrtN
                                    (valN
                                      (wordsN 4
                                        ((valN [0#64, 0#64, 0#64, 0#64] % PP + PP - valN [1#64, 0#64, 0#64, 0#64] % PP) %
                                          PP))))) %
                            PP))
                        (wordsN 4
                          ((valN [0#64, 0#64, 0#64, 0#64] % PP + PP - valN [1#64, 0#64, 0#64, 0#64] % PP) % PP))))))
                (P (SV.av (AV.val Sh.bool false)))))
            (ifB
              (sqrtB
                (valN (wordsN 4 ((valN [0#64, 0#64, 0#64, 0#64] % PP + PP - valN [1#64, 0#64, 0#64, 0#64] % PP) % PP))))
              (P
                (SV.av
                  (AV.val Sh.bool
                    (teq (Sh.arr 4 (Sh.int IntKind.u64))
                      (wordsN 4
                        (valN
                              (wordsN 4
                                (sqrtN
                                  (valN
                                    (wordsN 4
                                      ((valN [0#64, 0#64, 0#64, 0#64] % PP + PP - valN [1#64, 0#64, 0#64, 0#64] % PP) %
                                        PP))))) *
                            valN
                              (wordsN 4
                                (sqrtN
                                  (valN
                                    (wordsN 4
                                      ((valN [0#64, 0#64, 0#64, 0#64] % PP + PP - valN [1#64, 0#64, 0#64, 0#64] % PP) %
                                        PP))))) %
                          PP))
                      (wordsN 4 ((valN [0#64, 0#64, 0#64, 0#64] % PP + PP - valN [1#64, 0#64, 0#64, 0#64] % PP) % PP))))))
              (P (SV.av (AV.val Sh.bool false))))))))) := by kernel_rfl
theorem sqrtB_mod (A : Nat) : sqrtB (A % PP) = sqrtB A := by
  unfold sqrtB sqx powP
  simp only [← Nat.pow_mod, Nat.mod_mod]
theorem PP_3 : 3 ≤ PP := by rw [PP_eq] <;> decide
theorem neg_one_sq : (PP - 1) * (PP - 1) % PP = 1 := by
  obtain ⟨q, hq⟩ : ∃ q, PP = q + 2 := ⟨PP - 2, by have := PP_3; omega⟩
  rw [hq, show (q + 2 - 1) * (q + 2 - 1) = 1 + (q + 2) * q by rw [show q + 2 - 1 = q + 1 from rfl]; grind, Nat.add_mul_mod_self_left]
  exact Nat.mod_eq_of_lt (by have := PP_3; omega)
/-- of a product -/
theorem chi_mul (A B : Nat) : (A * B) ^ HH % PP = A ^ HH % PP * (B ^ HH % PP) % PP := by rw [Nat.mul_pow, Nat.mul_mod]
theorem mul_nz {A B : Nat} (ha : A % PP ≠ 0) (hb : B % PP ≠ 0) : A * B % PP ≠ 0 := by
  intro e
  rcases ferPP.dvd_mul (Nat.dvd_of_mod_eq_zero e) with c | c
  · exact ha (Nat.mod_eq_zero_of_dvd c)
  · exact hb (Nat.mod_eq_zero_of_dvd c)
theorem sqrt_mul {A B : Nat} (ha : A % PP ≠ 0) (hb : B % PP ≠ 0) : sqrtB (A * B % PP) = (sqrtB A == sqrtB B) := by
  have h3 := PP_3
  rw [sqrtB_mod, sqrtB_chi (mul_nz ha hb), sqrtB_chi ha, sqrtB_chi hb, chi_mul]
  rcases chi_or ha with a | a <;> rcases chi_or hb with b | b <;> rw [a, b]
  · rw [Nat.one_mul, Nat.mod_eq_of_lt (by omega)]; rfl
  · rw [Nat.one_mul, Nat.mod_eq_of_lt (by omega), decide_eq_false (by omega)]; rfl
  · rw [Nat.mul_one, Nat.mod_eq_of_lt (by omega), decide_eq_false (by omega)]; rfl
  · rw [neg_one_sq, decide_eq_false (show ¬ PP - 1 = 1 by omega)]; rfl
theorem sqrt_two {A : Nat} (ha : A % PP ≠ 0) : sqrtB ((A + A) % PP) = !sqrtB A := by
  have h3 := PP_3
  have h2 : 2 % PP ≠ 0 := by rw [Nat.mod_eq_of_lt (by omega)]; decide
  rw [show A + A = 2 * A by omega, sqrt_mul h2 ha, sqrtB_chi h2, two_chi, decide_eq_false (by omega)]
  cases sqrtB A <;> rfl
theorem ifB_true {p q : Prop} : ifB true p q = p := by rw [ifB]
theorem ifB_false {p q : Prop} : ifB false p q = q := by rw [ifB]
theorem sqrtN_lt (A : Nat) : sqrtN A < 2 ^ 256 := by
  have := PP_lt
  cases h : sqrtB A
  · rw [sqrtN_none h]; decide
  · have := (sqrtN_spec h).1; omega
theorem vs (A : Nat) : valN (wordsN 4 (sqrtN A)) = sqrtN A := v4 (sqrtN_lt A)
theorem even_s (A : Nat) : decide (rd (Sh.int IntKind.u64) (wordsN 4 (sqrtN A)) 0 % 2#64 = 0#64) = true := by
  have e : sqrtN A % 2 = 0 := by
    cases h : sqrtB A
    · rw [sqrtN_none h]
    · exact (sqrtN_spec h).2.1
  have h := valN_bit (wordsN 4 (sqrtN A)) 0 0 (by omega)
  rw [show 64 * 0 + 0 = 0 from rfl, Nat.pow_zero, Nat.div_one, Nat.div_one, vs, e] at h
  refine decide_eq_true (BitVec.eq_of_toNat_eq ?_)
  rw [BitVec.toNat_umod, show (2#64).toNat = 2 from rfl, show (0#64).toNat = 0 from rfl]
  exact h.symm
theorem minus_one : (0 % PP + PP - 1 % PP) % PP = PP - 1 := by
  have := PP_3
  rw [Nat.zero_mod, Nat.mod_eq_of_lt (show 1 < PP by omega), Nat.mod_eq_of_lt (by omega)]; omega
theorem sqrt_minus : sqrtB (PP - 1) = true := by
  have h3 := PP_3
  refine sqrtB_sq (y := 2 ^ E2) ?_
  rw [← Nat.pow_add, show E2 + E2 = HH by have := E2_2; omega, two_chi, Nat.mod_eq_of_lt (by omega)]
theorem walk6 (xs : HL [numS]) (h : okHL [numS] xs) : PC (bx Try.prog GL) 6 (argsOf [numS] xs) (.av (.val .bool true)) := by
  obtain ⟨a, ⟨⟩⟩ := xs
  refine PC_of_fw (t := []) shU_ok f6_ok mixed Try.func6 (c := Try.f6.body.getD .skip) rfl (by kernel_rfl) (by kernel_rfl) loopsNil rfl ?_
  have z0 : valN [0#64, 0#64, 0#64, 0#64] = 0 := rfl
  have z1 : valN [1#64, 0#64, 0#64, 0#64] = 1 := rfl
  have h3 := PP_3
  rw [show (PUnit.unit : HL []) = () from rfl, fw6]
  have e1 : sqrtB (valN a * valN a % PP) = true := sqrtB_sq (y := valN a) (by rw [Nat.mod_mod])
  have e2 := sqrtN_spec e1
  have e3 := sqrtN_spec sqrt_minus
  have e4 : sqrtN (PP - 1) * sqrtN (PP - 1) % PP = PP - 1 := by rw [e3.2.2, Nat.mod_eq_of_lt (by omega)]
  have tz : teq (Sh.arr 4 (Sh.int IntKind.u64)) (wordsN 4 (PP - 1)) (wordsN 4 (PP - 1)) = true := teq_of rfl
  have vm : valN (wordsN 4 (PP - 1)) = PP - 1 := v4 (by have := PP_lt; omega)
  simp only [z0, z1, vp, vs, e1, minus_one, vm, sqrt_minus, e4, tz, Bool.not_true, ifB_true, ifB_false, words_inj (sqrtN_lt _) (vlt _), words_inj (vlt _) (vlt _), teq_z (sqrtN_lt _)]
  rw [even_s]
  simp only [Bool.not_true, ifB_false]
  generalize valN a = A at *
  have hr : sqrtN (A * A % PP) = A % PP ∨ sqrtN (A * A % PP) = (0 % PP + PP - A % PP) % PP := by
    have e5 : sqrtN (A * A % PP) * sqrtN (A * A % PP) % PP = A * A % PP := by rw [e2.2.2, Nat.mod_mod]
    have hA := Nat.mod_lt A PP_pos
    rcases sq_eq ferPP e5 with c | c
    · left; rw [Nat.mod_eq_of_lt e2.1] at c; exact c
    · right
      rw [← Nat.add_mod_mod] at c
      generalize sqrtN (A * A % PP) = r at *
      generalize A % PP = x at *
      have hr := e2.1
      rw [Nat.zero_mod, Nat.zero_add]
      by_cases k : r + x < PP
      · rw [Nat.mod_eq_of_lt k] at c
        have r0 : r = 0 := by omega
        have x0 : x = 0 := by omega
        rw [r0, x0, Nat.sub_zero, Nat.mod_self]
      · rw [Nat.mod_eq_sub_mod (by omega), Nat.mod_eq_of_lt (by omega)] at c
        rw [Nat.mod_eq_of_lt (by omega)]; omega
  have rest : ∀ b : Bool, sqrtB A = b → (b = true → sqrtN A * sqrtN A % PP = A % PP) ∧ (b = false → sqrtN A = 0) := by
    intro b hb
    exact ⟨fun c => (sqrtN_spec (hb.trans c)).2.2, fun c => sqrtN_none (hb.trans c)⟩
  cases hb : sqrtB A
  · have k := (rest _ hb).2 rfl
    rcases hr with c | c
    · simp only [c, decide_true, Bool.not_true, Bool.not_false, k, ifB_true, ifB_false]
    · simp only [c, decide_true, Bool.not_true, Bool.not_false, k, ifB_true, ifB_false]
      exact ifB_of (fun _ => trivial) (fun _ => trivial)
  · have k := (rest _ hb).1 rfl
    rw [even_s]
    rcases hr with c | c
    · simp only [c, decide_true, Bool.not_true, k, ifB_true, ifB_false]
    · simp only [c, decide_true, Bool.not_true, k, ifB_true, ifB_false]
      exact ifB_of (fun _ => trivial) (fun _ => trivial)
end Go.Proofs.Ytlopooohfkgncaa.Lb
