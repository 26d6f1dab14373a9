import Derived.Test.YtghmfiandllpfaaDoorFc
import Derived.Test.YtghmfiandllpfaaDoorFerP
namespace Go.Proofs.YtghmfiandllpfaaDoor.Lb
open Go.Ty

theorem ferPP : Go.Fer.Fer PP := by rw [PP_eq]; exact Go.Fer.ferP
theorem vlt (X : Nat) : X % PP < 2 ^ 256 := by have := PP_lt; have := Nat.mod_lt X PP_pos; omega
theorem vpw (A n : Nat) : valN (wordsN 4 (powP A n)) = powP A n := vp _
theorem powP_lt (A n : Nat) : powP A n < 2 ^ 256 := vlt _
theorem inv_mul {A : Nat} (h : A % PP ≠ 0) : A * powP A (PP - 2) % PP = 1 := by
  have hp := PP_1
  have h3 : 3 ≤ PP := by rw [PP_eq] <;> decide
  unfold powP
  rw [Nat.mul_mod_mod, Nat.mul_comm, ← Nat.pow_succ, show (PP - 2).succ = PP - 1 by omega]
  exact ferPP.2 A h
end Go.Proofs.YtghmfiandllpfaaDoor.Lb
