import Derived.Test.YtninlahlmjhmhaaLmc
namespace Go.Proofs.Ytninlahlmjhmhaa
open Go.Ab

theorem cmpI_cases (x y : Nat) : (x < y ∧ cmpI x y = -1) ∨ (y < x ∧ cmpI x y = 1) ∨ (x = y ∧ cmpI x y = 0) := by
  rcases Nat.lt_trichotomy x y with h | h | h
  · exact .inl ⟨h, cmpI_lt h⟩
  · exact .inr (.inr ⟨h, cmpI_eq h⟩)
  · exact .inr (.inl ⟨h, cmpI_gt h⟩)
theorem beq_of {a b : Bool} (h : a = b) : (a == b) = true := by simp [h]

theorem order_call (a b c : Nat) : WCall Try.prog 5 [numV a, numV b, numV c] (.bool true) := by
  have ha := vlS_lt a
  have hb := vlS_lt b
  have hc := vlS_lt c
  have f1 : (cmpI (vlS a) (vlS b) != IntKind.i64.wrap (0 - cmpI (vlS b) (vlS a))) = false := by
    have : cmpI (vlS a) (vlS b) = IntKind.i64.wrap (0 - cmpI (vlS b) (vlS a)) := by
      rcases Nat.lt_trichotomy (vlS a) (vlS b) with h | h | h
      · rw [cmpI_lt h, cmpI_gt h]; rfl
      · rw [cmpI_eq h, cmpI_eq h.symm]; rfl
      · rw [cmpI_gt h, cmpI_lt h]; rfl
    simpa using this
  have f2 : (!((cmpI (vlS a) (vlS b) == 0) == eq4 a b)) = false := by
    by_cases h : vlS a = vlS b
    · rw [cmpI_eq h, eq4_tt h]; rfl
    · rw [eq4_ff h]
      rcases cmpI_cases (vlS a) (vlS b) with ⟨_, e⟩ | ⟨_, e⟩ | ⟨e, _⟩
      · rw [e]; rfl
      · rw [e]; rfl
      · exact absurd e h
  have f3 : (!(decide (cmpI (vlS a) (vlS b) < 0) == (((ltN a b : Nat) : Int) == 1))) = false := by
    unfold ltN
    rcases cmpI_cases (vlS a) (vlS b) with ⟨h, e⟩ | ⟨h, e⟩ | ⟨h, e⟩
    · rw [e, if_pos h]; rfl
    · rw [e, if_neg (by omega)]; rfl
    · rw [e, if_neg (by omega)]; rfl
  have f4 : cmpI (vlS a) (vlS b) ≤ 0 → cmpI (vlS b) (vlS c) ≤ 0 → ¬ cmpI (vlS a) (vlS c) > 0 := by
    intro h1 h2 h3
    have g1 : vlS a ≤ vlS b := by rcases cmpI_cases (vlS a) (vlS b) with ⟨h, e⟩ | ⟨h, e⟩ | ⟨h, e⟩ <;> omega
    have g2 : vlS b ≤ vlS c := by rcases cmpI_cases (vlS b) (vlS c) with ⟨h, e⟩ | ⟨h, e⟩ | ⟨h, e⟩ <;> omega
    rcases cmpI_cases (vlS a) (vlS c) with ⟨h, e⟩ | ⟨h, e⟩ | ⟨h, e⟩ <;> omega
  have f5 : ¬ IntKind.u64.wrap (((addN a c / 2 ^ 256 : Nat) : Int) + ((addN b c / 2 ^ 256 : Nat) : Int)) > 0 → cmpI (vlS (addN a c)) (vlS (addN b c)) = cmpI (vlS a) (vlS b) := by
    intro h
    have g : vlS a + vlS c < 2 ^ 256 ∧ vlS b + vlS c < 2 ^ 256 := by
      rw [IntKind.wrap_u64] at h
      unfold addN at h
      generalize vlS a = x at *; generalize vlS b = y at *; generalize vlS c = z at *
      omega
    rw [show vlS (addN a c) = vlS a + vlS c from vlS_of g.1, show vlS (addN b c) = vlS b + vlS c from vlS_of g.2]
    rcases cmpI_cases (vlS a) (vlS b) with ⟨h, e⟩ | ⟨h, e⟩ | ⟨h, e⟩
    · rw [e, cmpI_lt (by omega)]
    · rw [e, cmpI_gt (by omega)]
    · rw [e, cmpI_eq (by omega)]
  by_cases p3 : IntKind.u64.wrap (((addN a c / 2 ^ 256 : Nat) : Int) + ((addN b c / 2 ^ 256 : Nat) : Int)) > 0
  · by_cases p1 : cmpI (vlS a) (vlS b) ≤ 0
    · by_cases p2 : cmpI (vlS b) (vlS c) ≤ 0
      · exact WCall.of_tests mixed T3_ok 30 1 [(28, cmpI (vlS a) (vlS b) != IntKind.i64.wrap (0 - cmpI (vlS b) (vlS a)), false), (35, !((cmpI (vlS a) (vlS b) == 0) == eq4 a b), false), (42, !(decide (cmpI (vlS a) (vlS b) < 0) == (((ltN a b : Nat) : Int) == 1)), false), (45, decide (cmpI (vlS a) (vlS b) ≤ 0), true), (50, decide (cmpI (vlS b) (vlS c) ≤ 0), true), (56, decide (cmpI (vlS a) (vlS c) > 0), false), (73, decide (IntKind.u64.wrap (((addN a c / 2 ^ 256 : Nat) : Int) + ((addN b c / 2 ^ 256 : Nat) : Int)) > 0), true)] (by kernel_rfl) (tests_cons (f1) (tests_cons (f2) (tests_cons (f3) (tests_cons (dec_t p1) (tests_cons (dec_t p2) (tests_cons (dec_f (f4 p1 p2)) (tests_cons (dec_t p3) (tests_nil)))))))) rfl rfl
      · exact WCall.of_tests mixed T3_ok 30 1 [(28, cmpI (vlS a) (vlS b) != IntKind.i64.wrap (0 - cmpI (vlS b) (vlS a)), false), (35, !((cmpI (vlS a) (vlS b) == 0) == eq4 a b), false), (42, !(decide (cmpI (vlS a) (vlS b) < 0) == (((ltN a b : Nat) : Int) == 1)), false), (45, decide (cmpI (vlS a) (vlS b) ≤ 0), true), (50, decide (cmpI (vlS b) (vlS c) ≤ 0), false), (73, decide (IntKind.u64.wrap (((addN a c / 2 ^ 256 : Nat) : Int) + ((addN b c / 2 ^ 256 : Nat) : Int)) > 0), true)] (by kernel_rfl) (tests_cons (f1) (tests_cons (f2) (tests_cons (f3) (tests_cons (dec_t p1) (tests_cons (dec_f p2) (tests_cons (dec_t p3) (tests_nil))))))) rfl rfl
    · exact WCall.of_tests mixed T3_ok 30 1 [(28, cmpI (vlS a) (vlS b) != IntKind.i64.wrap (0 - cmpI (vlS b) (vlS a)), false), (35, !((cmpI (vlS a) (vlS b) == 0) == eq4 a b), false), (42, !(decide (cmpI (vlS a) (vlS b) < 0) == (((ltN a b : Nat) : Int) == 1)), false), (45, decide (cmpI (vlS a) (vlS b) ≤ 0), false), (73, decide (IntKind.u64.wrap (((addN a c / 2 ^ 256 : Nat) : Int) + ((addN b c / 2 ^ 256 : Nat) : Int)) > 0), true)] (by kernel_rfl) (tests_cons (f1) (tests_cons (f2) (tests_cons (f3) (tests_cons (dec_f p1) (tests_cons (dec_t p3) (tests_nil)))))) rfl rfl
  · by_cases p1 : cmpI (vlS a) (vlS b) ≤ 0
    · by_cases p2 : cmpI (vlS b) (vlS c) ≤ 0
      · exact WCall.of_tests mixed T3_ok 30 1 [(28, cmpI (vlS a) (vlS b) != IntKind.i64.wrap (0 - cmpI (vlS b) (vlS a)), false), (35, !((cmpI (vlS a) (vlS b) == 0) == eq4 a b), false), (42, !(decide (cmpI (vlS a) (vlS b) < 0) == (((ltN a b : Nat) : Int) == 1)), false), (45, decide (cmpI (vlS a) (vlS b) ≤ 0), true), (50, decide (cmpI (vlS b) (vlS c) ≤ 0), true), (56, decide (cmpI (vlS a) (vlS c) > 0), false), (73, decide (IntKind.u64.wrap (((addN a c / 2 ^ 256 : Nat) : Int) + ((addN b c / 2 ^ 256 : Nat) : Int)) > 0), false), (79, cmpI (vlS (addN a c)) (vlS (addN b c)) == cmpI (vlS a) (vlS b), true)] (by kernel_rfl) (tests_cons (f1) (tests_cons (f2) (tests_cons (f3) (tests_cons (dec_t p1) (tests_cons (dec_t p2) (tests_cons (dec_f (f4 p1 p2)) (tests_cons (dec_f p3) (tests_cons (eqi (f5 p3)) (tests_nil))))))))) rfl rfl
      · exact WCall.of_tests mixed T3_ok 30 1 [(28, cmpI (vlS a) (vlS b) != IntKind.i64.wrap (0 - cmpI (vlS b) (vlS a)), false), (35, !((cmpI (vlS a) (vlS b) == 0) == eq4 a b), false), (42, !(decide (cmpI (vlS a) (vlS b) < 0) == (((ltN a b : Nat) : Int) == 1)), false), (45, decide (cmpI (vlS a) (vlS b) ≤ 0), true), (50, decide (cmpI (vlS b) (vlS c) ≤ 0), false), (73, decide (IntKind.u64.wrap (((addN a c / 2 ^ 256 : Nat) : Int) + ((addN b c / 2 ^ 256 : Nat) : Int)) > 0), false), (79, cmpI (vlS (addN a c)) (vlS (addN b c)) == cmpI (vlS a) (vlS b), true)] (by kernel_rfl) (tests_cons (f1) (tests_cons (f2) (tests_cons (f3) (tests_cons (dec_t p1) (tests_cons (dec_f p2) (tests_cons (dec_f p3) (tests_cons (eqi (f5 p3)) (tests_nil)))))))) rfl rfl
    · exact WCall.of_tests mixed T3_ok 30 1 [(28, cmpI (vlS a) (vlS b) != IntKind.i64.wrap (0 - cmpI (vlS b) (vlS a)), false), (35, !((cmpI (vlS a) (vlS b) == 0) == eq4 a b), false), (42, !(decide (cmpI (vlS a) (vlS b) < 0) == (((ltN a b : Nat) : Int) == 1)), false), (45, decide (cmpI (vlS a) (vlS b) ≤ 0), false), (73, decide (IntKind.u64.wrap (((addN a c / 2 ^ 256 : Nat) : Int) + ((addN b c / 2 ^ 256 : Nat) : Int)) > 0), false), (79, cmpI (vlS (addN a c)) (vlS (addN b c)) == cmpI (vlS a) (vlS b), true)] (by kernel_rfl) (tests_cons (f1) (tests_cons (f2) (tests_cons (f3) (tests_cons (dec_f p1) (tests_cons (dec_f p3) (tests_cons (eqi (f5 p3)) (tests_nil))))))) rfl rfl
end Go.Proofs.Ytninlahlmjhmhaa
