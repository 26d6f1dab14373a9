import Derived.Test.YtbdggonpjndpiaaGfm
import Derived.Test.YtbdggonpjndpiaaAbTake
namespace Go.Proofs.Ytbdggonpjndpiaa
open Go.Ab

def T4 : Tbl := (26, subG) :: (25, unsubG) :: T3
theorem T4_ok : ∀ p ∈ T4, Con Try.prog p.1 p.2 := Cons.cons sub_con (Cons.cons unsub_con T3_ok)

theorem eq_tt {a b : Int} (h : a = b) : (a == b) = true := by simpa using h
theorem eq_ff {a b : Int} (h : a ≠ b) : (a == b) = false := by simpa using h
theorem ne_tt {a b : Int} (h : a ≠ b) : (a != b) = true := by simpa using h
theorem ne_ff {a b : Int} (h : a = b) : (a != b) = false := by simpa using h

/-- the law GfField -/
theorem field_call (a b c : Nat) (ha : a < 256) (hb : b < 256) (hc : c < 256) : PCall (cx Try.prog []) 5 [.int .u8 a, .int .u8 b, .int .u8 c] (.bool true) := by
  have f1 : mulS a b = mulS b a := by rw [mulS_nat ha hb, mulS_nat hb ha, mulN_comm a b ha hb]
  have f2 : mulS (mulS a b) c = mulS a (mulS b c) := by
    rw [mulS_nat ha hb, mulS_nat hb hc, mulS_nat (mulN_lt ha) hc, mulS_nat ha (mulN_lt hb), mulN_assoc a b c ha hb hc]
  have f3 : mulS a (bx b c) = bx (mulS a b) (mulS a c) := by
    rw [bx_nat hb hc, mulS_nat ha (xor_lt hb hc), mulS_nat ha hb, mulS_nat ha hc, bx_nat (mulN_lt ha) (mulN_lt ha), mulN_add]
  have f4 : mulS a 1 = a := by
    have := mulS_nat (b := 1) ha (by omega)
    rw [mulN_one a ha] at this; exact this
  have f5 : mulS a 0 = 0 := by
    have := mulS_nat (b := 0) ha (by omega)
    rw [mulN_zero] at this; exact this
  have f6 : (a : Int) ≠ 0 → mulS a (invS a) = 1 := by
    intro h
    rw [invS_nat ha, mulS_nat ha (invN_lt ha), inv_mul ⟨a, ha⟩ (by simp; omega)]; rfl
  have f7 : invS (invS a) = a := by
    rw [invS_nat ha, invS_nat (invN_lt ha), inv_inv ⟨a, ha⟩]
  have f8 : mulS a b = 0 → (a : Int) = 0 ∨ (b : Int) = 0 := by
    intro h
    rw [mulS_nat ha hb] at h
    rcases mulN_ne ha hb (by omega) with h | h <;> omega
  by_cases h0 : (a : Int) = 0
  · have g8 : mulS a b = 0 := by rw [f1, h0]; have := mulS_nat (b := 0) hb (by omega); rw [mulN_zero] at this; exact this
    exact Con.of_tests mixed T4_ok 20 1 [(13, mulS a b == mulS b a, true), (25, mulS (mulS a b) c == mulS a (mulS b c), true), (40, mulS a (bx b c) == bx (mulS a b) (mulS a c), true), (46, mulS a 1 == a, true), (51, mulS a 0 == 0, true), (55, (a : Int) == 0, true), (69, invS (invS a) == a, true), (75, mulS a b != 0, false), (78, (a : Int) == 0, true)] (by kernel_rfl) (tests_cons (eq_tt f1) (tests_cons (eq_tt f2) (tests_cons (eq_tt f3) (tests_cons (eq_tt f4) (tests_cons (eq_tt f5) (tests_cons (eq_tt h0) (tests_cons (eq_tt f7) (tests_cons (ne_ff g8) (tests_cons (eq_tt h0) tests_nil))))))))) rfl rfl
  · by_cases h1 : mulS a b = 0
    · have h2 : (b : Int) = 0 := (f8 h1).resolve_left h0
      exact Con.of_tests mixed T4_ok 20 1 [(13, mulS a b == mulS b a, true), (25, mulS (mulS a b) c == mulS a (mulS b c), true), (40, mulS a (bx b c) == bx (mulS a b) (mulS a c), true), (46, mulS a 1 == a, true), (51, mulS a 0 == 0, true), (55, (a : Int) == 0, false), (61, mulS a (invS a) == 1, true), (69, invS (invS a) == a, true), (75, mulS a b != 0, false), (78, (a : Int) == 0, false), (82, (b : Int) == 0, true)] (by kernel_rfl) (tests_cons (eq_tt f1) (tests_cons (eq_tt f2) (tests_cons (eq_tt f3) (tests_cons (eq_tt f4) (tests_cons (eq_tt f5) (tests_cons (eq_ff h0) (tests_cons (eq_tt (f6 h0)) (tests_cons (eq_tt f7) (tests_cons (ne_ff h1) (tests_cons (eq_ff h0) (tests_cons (eq_tt h2) tests_nil))))))))))) rfl rfl
    · exact Con.of_tests mixed T4_ok 20 1 [(13, mulS a b == mulS b a, true), (25, mulS (mulS a b) c == mulS a (mulS b c), true), (40, mulS a (bx b c) == bx (mulS a b) (mulS a c), true), (46, mulS a 1 == a, true), (51, mulS a 0 == 0, true), (55, (a : Int) == 0, false), (61, mulS a (invS a) == 1, true), (69, invS (invS a) == a, true), (75, mulS a b != 0, true)] (by kernel_rfl) (tests_cons (eq_tt f1) (tests_cons (eq_tt f2) (tests_cons (eq_tt f3) (tests_cons (eq_tt f4) (tests_cons (eq_tt f5) (tests_cons (eq_ff h0) (tests_cons (eq_tt (f6 h0)) (tests_cons (eq_tt f7) (tests_cons (ne_tt h1) tests_nil))))))))) rfl rfl
end Go.Proofs.Ytbdggonpjndpiaa
