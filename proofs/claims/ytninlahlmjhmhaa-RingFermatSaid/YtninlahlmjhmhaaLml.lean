import Derived.Test.YtninlahlmjhmhaaLmj
namespace Go.Proofs.Ytninlahlmjhmhaa
open Go.Ab

/-! ### shifts, word by word -/
def wdN (X i : Nat) : Nat := X / 2 ^ (64 * i) % 2 ^ 64
theorem wdN_bit (X i j : Nat) : (wdN X i).testBit j = (decide (j < 64) && X.testBit (64 * i + j)) := by
  unfold wdN
  rw [Nat.testBit_mod_two_pow, Nat.testBit_div_two_pow, Nat.add_comm]
theorem shl_word (X q r i : Nat) (hr : r < 64) (hq : q ≤ i) :
    wdN (X * 2 ^ (64 * q + r)) i = (wdN X (i - q) * 2 ^ r % 2 ^ 64) ||| (if q < i then wdN X (i - q - 1) / 2 ^ (64 - r) else 0) := by
  apply Nat.eq_of_testBit_eq
  intro j
  rw [wdN_bit, Nat.testBit_mul_two_pow, Nat.testBit_or, Nat.testBit_mod_two_pow, Nat.testBit_mul_two_pow, wdN_bit]
  by_cases hj : j < 64
  · by_cases hjr : r ≤ j
    · have h2 : (if q < i then wdN X (i - q - 1) / 2 ^ (64 - r) else 0).testBit j = false := by
        split
        · rw [Nat.testBit_div_two_pow, wdN_bit]
          have : ¬ (j + (64 - r) < 64) := by omega
          simp [this]
        · exact Nat.zero_testBit j
      rw [h2]
      have e : 64 * i + j - (64 * q + r) = 64 * (i - q) + (j - r) := by omega
      rw [e]
      simp [hj, hjr, show 64 * q + r ≤ 64 * i + j by omega, show j - r < 64 by omega]
    · by_cases hqi : q < i
      · rw [if_pos hqi, Nat.testBit_div_two_pow, wdN_bit]
        have e : 64 * i + j - (64 * q + r) = 64 * (i - q - 1) + (j + (64 - r)) := by omega
        rw [e]
        simp [hj, hjr, show 64 * q + r ≤ 64 * i + j by omega, show j + (64 - r) < 64 by omega]
      · rw [if_neg hqi, Nat.zero_testBit]
        simp [hjr, show ¬ (64 * q + r ≤ 64 * i + j) by omega]
  · have h2 : (if q < i then wdN X (i - q - 1) / 2 ^ (64 - r) else 0).testBit j = false := by
      split
      · rw [Nat.testBit_div_two_pow, wdN_bit]
        have : ¬ (j + (64 - r) < 64) := by omega
        simp [this]
      · exact Nat.zero_testBit j
    rw [h2]
    simp [hj]
theorem shl_low (X q r i : Nat) (hi : i < q) : wdN (X * 2 ^ (64 * q + r)) i = 0 := by
  apply Nat.eq_of_testBit_eq
  intro j
  rw [wdN_bit, Nat.testBit_mul_two_pow, Nat.zero_testBit]
  by_cases hj : j < 64
  · simp [show ¬ (64 * q + r ≤ 64 * i + j) by omega]
  · simp [hj]
theorem shr_word (X q r i : Nat) (hr : r < 64) :
    wdN (X / 2 ^ (64 * q + r)) i = (wdN X (i + q) / 2 ^ r) ||| (wdN X (i + q + 1) * 2 ^ (64 - r) % 2 ^ 64) := by
  apply Nat.eq_of_testBit_eq
  intro j
  rw [wdN_bit, Nat.testBit_div_two_pow, Nat.testBit_or, Nat.testBit_mod_two_pow, Nat.testBit_mul_two_pow, Nat.testBit_div_two_pow, wdN_bit, wdN_bit]
  by_cases hj : j < 64
  · by_cases hjr : j + r < 64
    · have e : 64 * i + j + (64 * q + r) = 64 * (i + q) + (j + r) := by omega
      rw [e]
      simp [hj, hjr, show ¬ (64 - r ≤ j) by omega]
    · have e : 64 * i + j + (64 * q + r) = 64 * (i + q + 1) + (j - (64 - r)) := by omega
      rw [e]
      simp [hj, hjr, show 64 - r ≤ j by omega, show j - (64 - r) < 64 by omega]
  · have : ¬ (j + r < 64) := by omega
    simp [hj, this]
end Go.Proofs.Ytninlahlmjhmhaa
