import Derived.Test.YtbdggonpjndpiaaGfn
namespace Go.Proofs.Ytbdggonpjndpiaa
open Go.Ab

/-! ### powers of 3 -/
def pw3 : Nat → Nat → List Nat
  | 0, _ => []
  | n + 1, x => x :: pw3 n (mulN x 3)
theorem pw3_get : ∀ (n k : Nat) (i : Nat), i < n → (pw3 n (npow 3 k))[i]? = some (npow 3 (k + i)) := by
  intro n
  induction n with
  | zero => intro k i h; omega
  | succ n ih =>
    intro k i h
    cases i with
    | zero => simp [pw3]
    | succ i =>
      have : mulN (npow 3 k) 3 = npow 3 (k + 1) := rfl
      simp only [pw3, List.getElem?_cons_succ, this]
      rw [ih (k + 1) i (by omega)]
      congr 2; omega
theorem pw3_len : ∀ n x, (pw3 n x).length = n := by
  intro n; induction n with
  | zero => intro x; rfl
  | succ n ih => intro x; simp [pw3, ih]
theorem pw3_all : ∀ a : Fin 256, a.val ≠ 0 → (pw3 255 1).contains a.val = true := by decide +kernel
theorem pow3 (a : Nat) (ha : a < 256) (h : a ≠ 0) : ∃ n, n < 255 ∧ npow 3 n = a := by
  have h1 := pw3_all ⟨a, ha⟩ h
  rw [List.contains_iff_mem] at h1
  obtain ⟨i, hi, e⟩ := List.getElem_of_mem h1
  have hi' : i < 255 := by rw [pw3_len] at hi; exact hi
  refine ⟨i, hi', ?_⟩
  have := pw3_get 255 0 i hi'
  rw [show npow 3 0 = 1 from rfl, List.getElem?_eq_getElem hi, e] at this
  simpa using this.symm
theorem pow3_ne : ∀ n, npow 3 n ≠ 0 := by
  intro n
  induction n with
  | zero => decide
  | succ n ih =>
    intro h
    rcases mulN_ne (npow_lt (by omega) n) (by omega : 3 < 256) h with h | h
    · exact ih h
    · omega
theorem npow_255 {a : Nat} (ha : a < 256) (h : a ≠ 0) : npow a 255 = 1 := by
  show mulN (npow a 254) a = 1
  rw [mulN_comm _ _ (npow_lt ha 254) ha]
  exact inv_mul ⟨a, ha⟩ h
end Go.Proofs.Ytbdggonpjndpiaa
