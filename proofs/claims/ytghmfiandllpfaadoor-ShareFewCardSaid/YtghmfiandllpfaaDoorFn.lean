import Derived.Test.YtghmfiandllpfaaDoorB0
namespace Go.Proofs.YtghmfiandllpfaaDoor
open Go.Ty

/-! ## The first of so many -/
def firstN (f : Nat → Bool) : Nat → Option Nat
  | 0 => none
  | n + 1 => match firstN f n with
    | some i => some i
    | none => bif f n then some n else none
theorem first_some {f : Nat → Bool} : ∀ {n i : Nat}, firstN f n = some i → i < n ∧ f i = true ∧ ∀ j, j < i → f j = false
  | 0, i, h => by cases h
  | n + 1, i, h => by
    unfold firstN at h
    cases hf : firstN f n with
    | some k =>
      rw [hf] at h
      injection h with h; subst h
      obtain ⟨h1, h2, h3⟩ := first_some hf
      exact ⟨by omega, h2, h3⟩
    | none =>
      rw [hf] at h
      cases hb : f n with
      | false => rw [hb] at h; cases h
      | true =>
        rw [hb] at h
        injection h with h; subst h
        refine ⟨Nat.lt_succ_self _, hb, ?_⟩
        clear hb
        have key : ∀ {n : Nat}, firstN f n = none → ∀ j, j < n → f j = false := by
          intro n
          induction n with
          | zero => intro _ j hj; omega
          | succ n ih =>
            intro h j hj
            unfold firstN at h
            cases hf : firstN f n with
            | some k => rw [hf] at h; cases h
            | none =>
              rw [hf] at h
              by_cases e : j = n
              · subst e
                cases hb : f j with
                | false => rfl
                | true => rw [hb] at h; cases h
              · exact ih hf j (by omega)
        exact key hf
theorem first_none {f : Nat → Bool} : ∀ {n : Nat}, firstN f n = none → ∀ j, j < n → f j = false := by
  intro n
  induction n with
  | zero => intro _ j hj; omega
  | succ n ih =>
    intro h j hj
    unfold firstN at h
    cases hf : firstN f n with
    | some k => rw [hf] at h; cases h
    | none =>
      rw [hf] at h
      by_cases e : j = n
      · subst e
        cases hb : f j with
        | false => rfl
        | true => rw [hb] at h; cases h
      · exact ih hf j (by omega)
end Go.Proofs.YtghmfiandllpfaaDoor
