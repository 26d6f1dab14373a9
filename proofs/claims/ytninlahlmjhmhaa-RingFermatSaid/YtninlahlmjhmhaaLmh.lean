import Derived.Test.YtninlahlmjhmhaaLmg
namespace Go.Proofs.Ytninlahlmjhmhaa
open Go.Ab

def vwS (n : Nat) : Nat := vw (w64 n 0) (w64 n 1) (w64 n 2) (w64 n 3) (w64 n 4) (w64 n 5) (w64 n 6) (w64 n 7)
theorem vwS_eq (n : Nat) : vwS n = n % 2 ^ 512 := vw_eq n
theorem w64_modk (a i k : Nat) (hi : i < k) : w64 (a % 2 ^ (64 * k)) i = w64 a i := by
  unfold w64
  obtain ⟨d, rfl⟩ : ∃ d, k = i + (1 + d) := ⟨k - i - 1, by omega⟩
  have h : 64 * (i + (1 + d)) = 64 * i + (64 + 64 * d) := by omega
  rw [h, Nat.pow_add 2 (64 * i), Nat.mod_mul_right_div_self, Nat.mod_mod_of_dvd]
  rw [Nat.pow_add 2 64 (64 * d), show (18446744073709551616 : Nat) = 2 ^ 64 from rfl]
  exact Nat.dvd_mul_right _ _
theorem w64_mod8 (a i : Nat) (hi : i < 8) : w64 (a % 2 ^ 512) i = w64 a i := by
  have h := w64_modk a i 8 hi
  rwa [show 64 * 8 = 512 from rfl] at h
theorem ws8_congr {m n : Nat} (h : m % 2 ^ 512 = n % 2 ^ 512) : ws8 m = ws8 n := by
  unfold ws8
  rw [← w64_mod8 m 0 (by omega), ← w64_mod8 m 1 (by omega), ← w64_mod8 m 2 (by omega), ← w64_mod8 m 3 (by omega), ← w64_mod8 m 4 (by omega), ← w64_mod8 m 5 (by omega), ← w64_mod8 m 6 (by omega), ← w64_mod8 m 7 (by omega), h,
    w64_mod8 n 0 (by omega), w64_mod8 n 1 (by omega), w64_mod8 n 2 (by omega), w64_mod8 n 3 (by omega), w64_mod8 n 4 (by omega), w64_mod8 n 5 (by omega), w64_mod8 n 6 (by omega), w64_mod8 n 7 (by omega)]
theorem w64_zero (i : Nat) : w64 0 i = 0 := by unfold w64; rw [Nat.zero_div]; rfl
theorem ws8_low {a : Nat} : ws8 (vlS a) = [w64 a 0, w64 a 1, w64 a 2, w64 a 3, 0, 0, 0, 0] := by
  have h : vlS a / 2 ^ 256 = 0 := Nat.div_eq_of_lt (vlS_lt a)
  have g : vlS (vlS a) = vlS a := vlS_of (vlS_lt a)
  unfold ws8
  rw [← w64_high _ 0, ← w64_high _ 1, ← w64_high _ 2, ← w64_high _ 3, h, w64_zero, w64_zero, w64_zero, w64_zero, w64_congr g 0 (by omega), w64_congr g 1 (by omega), w64_congr g 2 (by omega), w64_congr g 3 (by omega)]
theorem mul_lt {a b : Nat} (ha : a < 2 ^ 256) (hb : b < 2 ^ 256) : a * b < 2 ^ 512 := by
  have := Nat.mul_le_mul (Nat.le_of_lt_succ (by omega : a < (2 ^ 256 - 1) + 1)) (Nat.le_of_lt_succ (by omega : b < (2 ^ 256 - 1) + 1))
  omega
theorem vl_one : vl 1 0 0 0 = 1 := rfl
theorem vl_none : vl 0 0 0 0 = 0 := rfl

theorem times_call (a b c : Nat) : WCall Try.prog 8 [numV a, numV b, numV c] (.bool true) := by
  have ha := vlS_lt a
  have hb := vlS_lt b
  have hc := vlS_lt c
  have hab := mul_lt ha hb
  have hac := mul_lt ha hc
  have f1 : ws8 (vlS a * vlS b) = ws8 (vlS b * vlS a) := by rw [Nat.mul_comm]
  have f3 : ws8 (vlS a * vl 1 0 0 0) = [w64 a 0, w64 a 1, w64 a 2, w64 a 3, 0, 0, 0, 0] := by rw [vl_one, Nat.mul_one, ws8_low]
  have f4 : ws8 (vlS a * vl 0 0 0 0) = [0, 0, 0, 0, 0, 0, 0, 0] := by
    rw [vl_none, Nat.mul_zero]; unfold ws8; simp only [w64_zero]
  by_cases h : addN b c / 2 ^ 256 = 1
  · have g : vlS (addN b c) + 2 ^ 256 = vlS b + vlS c := by
      rw [vlS_eq (addN b c)]; unfold addN at *; omega
    have f2 : ws8 (vwS (vlS a * vlS b) + vwS (vlS a * vlS c)) = ws8 (vwS (vlS a * vlS (addN b c)) + vw 0 0 0 0 (w64 a 0) (w64 a 1) (w64 a 2) (w64 a 3)) := by
      apply ws8_congr
      have e1 : vw 0 0 0 0 (w64 a 0) (w64 a 1) (w64 a 2) (w64 a 3) = vlS a * 2 ^ 256 := by
        unfold vw; rw [vl_none]; rw [Nat.zero_add, Nat.mul_comm]; rfl
      have hs := mul_lt ha (vlS_lt (addN b c))
      rw [vwS_eq, vwS_eq, vwS_eq, Nat.mod_eq_of_lt hab, Nat.mod_eq_of_lt hac, Nat.mod_eq_of_lt hs, e1, ← Nat.mul_add, ← Nat.mul_add, g]
    exact WCall.of_tests mixed T8_ok 30 1 [(22, ((addN b c / 2 ^ 256 : Nat) : Int) == 1, true), (34, eqL (ws8 (vlS a * vlS b)) (ws8 (vlS b * vlS a)), true), (44, eqL (ws8 (vwS (vlS a * vlS b) + vwS (vlS a * vlS c))) (ws8 (vwS (vlS a * vlS (addN b c)) + vw 0 0 0 0 (w64 a 0) (w64 a 1) (w64 a 2) (w64 a 3))), true),
      (52, eqL (ws8 (vlS a * vl 1 0 0 0)) [w64 a 0, w64 a 1, w64 a 2, w64 a 3, 0, 0, 0, 0], true), (59, eqL (ws8 (vlS a * vl 0 0 0 0)) [0, 0, 0, 0, 0, 0, 0, 0], true)] (by kernel_rfl)
      (tests_cons (by rw [h]; rfl) (tests_cons (eqL_of f1) (tests_cons (eqL_of f2) (tests_cons (eqL_of f3) (tests_cons (eqL_of f4) tests_nil))))) rfl rfl
  · have g : vlS (addN b c) = vlS b + vlS c := by
      rw [vlS_eq (addN b c)]; unfold addN at *; omega
    have f2 : ws8 (vwS (vlS a * vlS b) + vwS (vlS a * vlS c)) = ws8 (vlS a * vlS (addN b c)) := by
      rw [vwS_eq, vwS_eq, Nat.mod_eq_of_lt hab, Nat.mod_eq_of_lt hac, ← Nat.mul_add, g]
    have h' : (((addN b c / 2 ^ 256 : Nat) : Int) == 1) = false := by
      have : ((addN b c / 2 ^ 256 : Nat) : Int) ≠ 1 := by omega
      simpa using this
    exact WCall.of_tests mixed T8_ok 30 1 [(22, ((addN b c / 2 ^ 256 : Nat) : Int) == 1, false), (34, eqL (ws8 (vlS a * vlS b)) (ws8 (vlS b * vlS a)), true), (44, eqL (ws8 (vwS (vlS a * vlS b) + vwS (vlS a * vlS c))) (ws8 (vlS a * vlS (addN b c))), true),
      (52, eqL (ws8 (vlS a * vl 1 0 0 0)) [w64 a 0, w64 a 1, w64 a 2, w64 a 3, 0, 0, 0, 0], true), (59, eqL (ws8 (vlS a * vl 0 0 0 0)) [0, 0, 0, 0, 0, 0, 0, 0], true)] (by kernel_rfl)
      (tests_cons h' (tests_cons (eqL_of f1) (tests_cons (eqL_of f2) (tests_cons (eqL_of f3) (tests_cons (eqL_of f4) tests_nil))))) rfl rfl
end Go.Proofs.Ytninlahlmjhmhaa
