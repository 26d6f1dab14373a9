import Derived.Test.YtninlahlmjhmhaaLmh
import Derived.Test.YtninlahlmjhmhaaAbFork
namespace Go.Proofs.Ytninlahlmjhmhaa
open Go.Ab

theorem not_t {b : Bool} (h : b = false) : (!b) = true := by simp [h]
theorem not_f {b : Bool} (h : b = true) : (!b) = false := by simp [h]

@[reducible] noncomputable def X8 : Cx := cx Try.prog T8
abbrev hn : HOrc := fun _ _ _ => none
noncomputable def c7 : Code := match Try.f7.body with | some c => c | none => .skip
def o7 : List Nat := [0, 1, 2, 3, 4, 5, 6, 7, 8, 9]
def o7' : List Nat := [0, 1, 2, 3, 4, 5, 7, 6, 8, 9]
/-- behind the two products -/
noncomputable def s7 (a b c : Nat) (L : List Nat) : St :=
  let s1 := St.of3 (runCT X8 hn 38 30 [] (pre 2 c7) ⟨envOf [numV a, numV b, numV c], []⟩) ⟨envOf [numV a, numV b, numV c], []⟩
  St.of (runIx X8 hn (opsOf (headC (post 2 c7))) 38 L s1) s1

theorem rest7 (a b c : Nat) (L : List Nat) (hL : L = o7 ∨ L = o7') : ∃ s', Ru X8 hn 38 (tailC (post 2 c7)) (s7 a b c L) .ret s' ∧ aresults X8 Try.f7 s' = some (.bool true) := by
  have ha := vlS_lt a
  have hb := vlS_lt b
  have hc := vlS_lt c
  cases h1 : hi4 (vlS a * vlS b) with
  | false =>
    rcases hL with rfl | rfl
    · obtain ⟨s', r, e⟩ := Ru.tests (X := X8) (hc := hn) (N := 38) (c := tailC (post 2 c7)) (s := s7 a b c o7) [(22, !hi4 (vlS a * vlS b), true)] 30 (x := .ret) (by kernel_rfl) (tests_cons (not_t h1) tests_nil)
      exact ⟨s', r, by rw [e]; kernel_rfl⟩
    · obtain ⟨s', r, e⟩ := Ru.tests (X := X8) (hc := hn) (N := 38) (c := tailC (post 2 c7)) (s := s7 a b c o7') [(22, !hi4 (vlS a * vlS b), true)] 30 (x := .ret) (by kernel_rfl) (tests_cons (not_t h1) tests_nil)
      exact ⟨s', r, by rw [e]; kernel_rfl⟩
  | true =>
    cases h2 : hi4 (vlS b * vlS c) with
    | false =>
      rcases hL with rfl | rfl
      · obtain ⟨s', r, e⟩ := Ru.tests (X := X8) (hc := hn) (N := 38) (c := tailC (post 2 c7)) (s := s7 a b c o7) [(22, !hi4 (vlS a * vlS b), false), (27, !hi4 (vlS b * vlS c), true)] 30 (x := .ret) (by kernel_rfl) (tests_cons (not_f h1) (tests_cons (not_t h2) tests_nil))
        exact ⟨s', r, by rw [e]; kernel_rfl⟩
      · obtain ⟨s', r, e⟩ := Ru.tests (X := X8) (hc := hn) (N := 38) (c := tailC (post 2 c7)) (s := s7 a b c o7') [(22, !hi4 (vlS a * vlS b), false), (27, !hi4 (vlS b * vlS c), true)] 30 (x := .ret) (by kernel_rfl) (tests_cons (not_f h1) (tests_cons (not_t h2) tests_nil))
        exact ⟨s', r, by rw [e]; kernel_rfl⟩
    | true =>
      have g1 := hi4_zero h1
      have g2 := hi4_zero h2
      have k1 := mul_lt ha hb
      have k2 := mul_lt hb hc
      have e1 : vlS (vlS a * vlS b) = vlS a * vlS b := by rw [vlS_eq (vlS a * vlS b)]; omega
      have e2 : vlS (vlS b * vlS c) = vlS b * vlS c := by rw [vlS_eq (vlS b * vlS c)]; omega
      have f : ws8 (vlS (vlS a * vlS b) * vlS c) = ws8 (vlS a * vlS (vlS b * vlS c)) := by rw [e1, e2, Nat.mul_assoc]
      rcases hL with rfl | rfl
      · obtain ⟨s', r, e⟩ := Ru.tests (X := X8) (hc := hn) (N := 38) (c := tailC (post 2 c7)) (s := s7 a b c o7) [(22, !hi4 (vlS a * vlS b), false), (27, !hi4 (vlS b * vlS c), false), (37, eqL (ws8 (vlS (vlS a * vlS b) * vlS c)) (ws8 (vlS a * vlS (vlS b * vlS c))), true)] 30 (x := .ret) (by kernel_rfl) (tests_cons (not_f h1) (tests_cons (not_f h2) (tests_cons (eqL_of f) tests_nil)))
        exact ⟨s', r, by rw [e]; kernel_rfl⟩
      · obtain ⟨s', r, e⟩ := Ru.tests (X := X8) (hc := hn) (N := 38) (c := tailC (post 2 c7)) (s := s7 a b c o7') [(22, !hi4 (vlS a * vlS b), false), (27, !hi4 (vlS b * vlS c), false), (37, eqL (ws8 (vlS (vlS a * vlS b) * vlS c)) (ws8 (vlS a * vlS (vlS b * vlS c))), true)] 30 (x := .ret) (by kernel_rfl) (tests_cons (not_f h1) (tests_cons (not_f h2) (tests_cons (eqL_of f) tests_nil)))
        exact ⟨s', r, by rw [e]; kernel_rfl⟩

theorem thrice_call (a b c : Nat) : WCall Try.prog 7 [numV a, numV b, numV c] (.bool true) := by
  obtain ⟨s1, r1, e1⟩ := Ru.whole (X := X8) (hc := hn) (N := 38) (c := pre 2 c7) (s := ⟨envOf [numV a, numV b, numV c], []⟩) 30 (x := .normal) (by kernel_rfl)
  subst e1
  obtain ⟨s2, r2, v2⟩ := rest7 a b c o7 (.inl rfl)
  obtain ⟨s3, r3, v3⟩ := rest7 a b c o7' (.inr rfl)
  exact WCall.of_sem (t := T8) (c := c7) Try.func7 (by kernel_rfl) (by kernel_rfl) (by kernel_rfl) (SemW.cut mixed T8_ok 2 (by kernel_rfl) r1
    (SemW.fork_at mixed T8_ok 6 7 o7 o7' (by kernel_rfl) (by kernel_rfl) (by kernel_rfl) (by kernel_rfl) (by kernel_rfl) (by kernel_rfl) (by kernel_rfl) (by kernel_rfl)
      (.of_ru mixed T8_ok r2 ⟨by simp, v2⟩) (.of_ru mixed T8_ok r3 ⟨by simp, v3⟩))) T8_ok rfl rfl (.of_cell rfl)
end Go.Proofs.Ytninlahlmjhmhaa
