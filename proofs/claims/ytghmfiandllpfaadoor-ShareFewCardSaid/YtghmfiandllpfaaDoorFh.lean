import Derived.Test.YtghmfiandllpfaaDoorFg
namespace Go.Proofs.YtghmfiandllpfaaDoor.Lb
open Go.Ty
theorem sqrtB_mod (A : Nat) : sqrtB (A % PP) = sqrtB A := by
  unfold sqrtB sqx powP
  simp only [← Nat.pow_mod, Nat.mod_mod]
theorem PP_3 : 3 ≤ PP := by rw [PP_eq] <;> decide
theorem neg_one_sq : (PP - 1) * (PP - 1) % PP = 1 := by
  obtain ⟨q, hq⟩ : ∃ q, PP = q + 2 := ⟨PP - 2, by have := PP_3; omega⟩
  rw [hq, show (q + 2 - 1) * (q + 2 - 1) = 1 + (q + 2) * q by rw [show q + 2 - 1 = q + 1 from rfl]; grind, Nat.add_mul_mod_self_left]
  exact Nat.mod_eq_of_lt (by have := PP_3; omega)
/-- of a product -/
theorem chi_mul (A B : Nat) : (A * B) ^ HH % PP = A ^ HH % PP * (B ^ HH % PP) % PP := by rw [Nat.mul_pow, Nat.mul_mod]
theorem mul_nz {A B : Nat} (ha : A % PP ≠ 0) (hb : B % PP ≠ 0) : A * B % PP ≠ 0 := by
  intro e
  rcases ferPP.dvd_mul (Nat.dvd_of_mod_eq_zero e) with c | c
  · exact ha (Nat.mod_eq_zero_of_dvd c)
  · exact hb (Nat.mod_eq_zero_of_dvd c)
theorem sqrt_mul {A B : Nat} (ha : A % PP ≠ 0) (hb : B % PP ≠ 0) : sqrtB (A * B % PP) = (sqrtB A == sqrtB B) := by
  have h3 := PP_3
  rw [sqrtB_mod, sqrtB_chi (mul_nz ha hb), sqrtB_chi ha, sqrtB_chi hb, chi_mul]
  rcases chi_or ha with a | a <;> rcases chi_or hb with b | b <;> rw [a, b]
  · rw [Nat.one_mul, Nat.mod_eq_of_lt (by omega)]; rfl
  · rw [Nat.one_mul, Nat.mod_eq_of_lt (by omega), decide_eq_false (by omega)]; rfl
  · rw [Nat.mul_one, Nat.mod_eq_of_lt (by omega), decide_eq_false (by omega)]; rfl
  · rw [neg_one_sq, decide_eq_false (show ¬ PP - 1 = 1 by omega)]; rfl
theorem sqrt_two {A : Nat} (ha : A % PP ≠ 0) : sqrtB ((A + A) % PP) = !sqrtB A := by
  have h3 := PP_3
  have h2 : 2 % PP ≠ 0 := by rw [Nat.mod_eq_of_lt (by omega)]; decide
  rw [show A + A = 2 * A by omega, sqrt_mul h2 ha, sqrtB_chi h2, two_chi, decide_eq_false (by omega)]
  cases sqrtB A <;> rfl
theorem ifB_true {p q : Prop} : ifB true p q = p := by rw [ifB]
theorem ifB_false {p q : Prop} : ifB false p q = q := by rw [ifB]
theorem sqrtN_lt (A : Nat) : sqrtN A < 2 ^ 256 := by
  have := PP_lt
  cases h : sqrtB A
  · rw [sqrtN_none h]; decide
  · have := (sqrtN_spec h).1; omega
theorem vs (A : Nat) : valN (wordsN 4 (sqrtN A)) = sqrtN A := v4 (sqrtN_lt A)
theorem even_s (A : Nat) : decide (rd (Sh.int IntKind.u64) (wordsN 4 (sqrtN A)) 0 % 2#64 = 0#64) = true := by
  have e : sqrtN A % 2 = 0 := by
    cases h : sqrtB A
    · rw [sqrtN_none h]
    · exact (sqrtN_spec h).2.1
  have h := valN_bit (wordsN 4 (sqrtN A)) 0 0 (by omega)
  rw [show 64 * 0 + 0 = 0 from rfl, Nat.pow_zero, Nat.div_one, Nat.div_one, vs, e] at h
  refine decide_eq_true (BitVec.eq_of_toNat_eq ?_)
  rw [BitVec.toNat_umod, show (2#64).toNat = 2 from rfl, show (0#64).toNat = 0 from rfl]
  exact h.symm
theorem minus_one : (0 % PP + PP - 1 % PP) % PP = PP - 1 := by
  have := PP_3
  rw [Nat.zero_mod, Nat.mod_eq_of_lt (show 1 < PP by omega), Nat.mod_eq_of_lt (by omega)]; omega
theorem sqrt_minus : sqrtB (PP - 1) = true := by
  have h3 := PP_3
  refine sqrtB_sq (y := 2 ^ E2) ?_
  rw [← Nat.pow_add, show E2 + E2 = HH by have := E2_2; omega, two_chi, Nat.mod_eq_of_lt (by omega)]
end Go.Proofs.YtghmfiandllpfaaDoor.Lb
