import Derived.Test.YtninlahlmjhmhaaLmb
namespace Go.Proofs.Ytninlahlmjhmhaa
open Go.Ab

def cmpI (x y : Nat) : Int := if x < y then -1 else if y < x then 1 else 0
def cmpG : List Value → Option Value
  | [.agg ⟨[.int .u64 a0, .int .u64 a1, .int .u64 a2, .int .u64 a3]⟩, .agg ⟨[.int .u64 b0, .int .u64 b1, .int .u64 b2, .int .u64 b3]⟩] => some (.int .i64 (cmpI (vl a0 a1 a2 a3) (vl b0 b1 b2 b3)))
  | _ => none
theorem cmpI_lt {x y : Nat} (h : x < y) : cmpI x y = -1 := by unfold cmpI; rw [if_pos h]
theorem cmpI_gt {x y : Nat} (h : y < x) : cmpI x y = 1 := by unfold cmpI; rw [if_neg (by omega), if_pos h]
theorem cmpI_eq {x y : Nat} (h : x = y) : cmpI x y = 0 := by unfold cmpI; rw [if_neg (by omega), if_neg (by omega)]
theorem vl_nat (x0 x1 x2 x3 : Nat) : vl x0 x1 x2 x3 = x0 + 2 ^ 64 * x1 + 2 ^ 128 * x2 + 2 ^ 192 * x3 := by unfold vl; simp only [Int.toNat_natCast]
theorem cmp_con : WCon Try.prog 29 cmpG := by
  intro l v h hw
  unfold cmpG at h
  split at h
  · rename_i a0 a1 a2 a3 b0 b1 b2 b3
    injection h with h; subst h
    obtain ⟨x0, x1, x2, x3, h0, h1, h2, h3, rfl, rfl, rfl, rfl⟩ := bits4 (hw (.agg ⟨[.int .u64 a0, .int .u64 a1, .int .u64 a2, .int .u64 a3]⟩) (by simp))
    obtain ⟨y0, y1, y2, y3, k0, k1, k2, k3, rfl, rfl, rfl, rfl⟩ := bits4 (hw (.agg ⟨[.int .u64 b0, .int .u64 b1, .int .u64 b2, .int .u64 b3]⟩) (by simp))
    have vx := vl_nat x0 x1 x2 x3
    have vy := vl_nat y0 y1 y2 y3
    revert hw
    by_cases p3 : (x3 : Int) < (y3 : Int)
    · rw [cmpI_lt (by rw [vx, vy]; omega)]
      exact WCall.of_tests mixed T0_ok 40 1 [(17, decide ((x3 : Int) < (y3 : Int)), true)] (by kernel_rfl) (tests_cons (dec_t p3) (tests_nil)) rfl rfl
    by_cases q3 : (x3 : Int) > (y3 : Int)
    · rw [cmpI_gt (by rw [vx, vy]; omega)]
      exact WCall.of_tests mixed T0_ok 40 1 [(17, decide ((x3 : Int) < (y3 : Int)), false), (25, decide ((x3 : Int) > (y3 : Int)), true)] (by kernel_rfl) (tests_cons (dec_f p3) (tests_cons (dec_t q3) (tests_nil))) rfl rfl
    by_cases p2 : (x2 : Int) < (y2 : Int)
    · rw [cmpI_lt (by rw [vx, vy]; omega)]
      exact WCall.of_tests mixed T0_ok 40 1 [(17, decide ((x3 : Int) < (y3 : Int)), false), (25, decide ((x3 : Int) > (y3 : Int)), false), (17, decide ((x2 : Int) < (y2 : Int)), true)] (by kernel_rfl) (tests_cons (dec_f p3) (tests_cons (dec_f q3) (tests_cons (dec_t p2) (tests_nil)))) rfl rfl
    by_cases q2 : (x2 : Int) > (y2 : Int)
    · rw [cmpI_gt (by rw [vx, vy]; omega)]
      exact WCall.of_tests mixed T0_ok 40 1 [(17, decide ((x3 : Int) < (y3 : Int)), false), (25, decide ((x3 : Int) > (y3 : Int)), false), (17, decide ((x2 : Int) < (y2 : Int)), false), (25, decide ((x2 : Int) > (y2 : Int)), true)] (by kernel_rfl) (tests_cons (dec_f p3) (tests_cons (dec_f q3) (tests_cons (dec_f p2) (tests_cons (dec_t q2) (tests_nil))))) rfl rfl
    by_cases p1 : (x1 : Int) < (y1 : Int)
    · rw [cmpI_lt (by rw [vx, vy]; omega)]
      exact WCall.of_tests mixed T0_ok 40 1 [(17, decide ((x3 : Int) < (y3 : Int)), false), (25, decide ((x3 : Int) > (y3 : Int)), false), (17, decide ((x2 : Int) < (y2 : Int)), false), (25, decide ((x2 : Int) > (y2 : Int)), false), (17, decide ((x1 : Int) < (y1 : Int)), true)] (by kernel_rfl) (tests_cons (dec_f p3) (tests_cons (dec_f q3) (tests_cons (dec_f p2) (tests_cons (dec_f q2) (tests_cons (dec_t p1) (tests_nil)))))) rfl rfl
    by_cases q1 : (x1 : Int) > (y1 : Int)
    · rw [cmpI_gt (by rw [vx, vy]; omega)]
      exact WCall.of_tests mixed T0_ok 40 1 [(17, decide ((x3 : Int) < (y3 : Int)), false), (25, decide ((x3 : Int) > (y3 : Int)), false), (17, decide ((x2 : Int) < (y2 : Int)), false), (25, decide ((x2 : Int) > (y2 : Int)), false), (17, decide ((x1 : Int) < (y1 : Int)), false), (25, decide ((x1 : Int) > (y1 : Int)), true)] (by kernel_rfl) (tests_cons (dec_f p3) (tests_cons (dec_f q3) (tests_cons (dec_f p2) (tests_cons (dec_f q2) (tests_cons (dec_f p1) (tests_cons (dec_t q1) (tests_nil))))))) rfl rfl
    by_cases p0 : (x0 : Int) < (y0 : Int)
    · rw [cmpI_lt (by rw [vx, vy]; omega)]
      exact WCall.of_tests mixed T0_ok 40 1 [(17, decide ((x3 : Int) < (y3 : Int)), false), (25, decide ((x3 : Int) > (y3 : Int)), false), (17, decide ((x2 : Int) < (y2 : Int)), false), (25, decide ((x2 : Int) > (y2 : Int)), false), (17, decide ((x1 : Int) < (y1 : Int)), false), (25, decide ((x1 : Int) > (y1 : Int)), false), (17, decide ((x0 : Int) < (y0 : Int)), true)] (by kernel_rfl) (tests_cons (dec_f p3) (tests_cons (dec_f q3) (tests_cons (dec_f p2) (tests_cons (dec_f q2) (tests_cons (dec_f p1) (tests_cons (dec_f q1) (tests_cons (dec_t p0) (tests_nil)))))))) rfl rfl
    by_cases q0 : (x0 : Int) > (y0 : Int)
    · rw [cmpI_gt (by rw [vx, vy]; omega)]
      exact WCall.of_tests mixed T0_ok 40 1 [(17, decide ((x3 : Int) < (y3 : Int)), false), (25, decide ((x3 : Int) > (y3 : Int)), false), (17, decide ((x2 : Int) < (y2 : Int)), false), (25, decide ((x2 : Int) > (y2 : Int)), false), (17, decide ((x1 : Int) < (y1 : Int)), false), (25, decide ((x1 : Int) > (y1 : Int)), false), (17, decide ((x0 : Int) < (y0 : Int)), false), (25, decide ((x0 : Int) > (y0 : Int)), true)] (by kernel_rfl) (tests_cons (dec_f p3) (tests_cons (dec_f q3) (tests_cons (dec_f p2) (tests_cons (dec_f q2) (tests_cons (dec_f p1) (tests_cons (dec_f q1) (tests_cons (dec_f p0) (tests_cons (dec_t q0) (tests_nil))))))))) rfl rfl
    rw [cmpI_eq (by rw [vx, vy]; omega)]
    exact WCall.of_tests mixed T0_ok 40 1 [(17, decide ((x3 : Int) < (y3 : Int)), false), (25, decide ((x3 : Int) > (y3 : Int)), false), (17, decide ((x2 : Int) < (y2 : Int)), false), (25, decide ((x2 : Int) > (y2 : Int)), false), (17, decide ((x1 : Int) < (y1 : Int)), false), (25, decide ((x1 : Int) > (y1 : Int)), false), (17, decide ((x0 : Int) < (y0 : Int)), false), (25, decide ((x0 : Int) > (y0 : Int)), false)] (by kernel_rfl) (tests_cons (dec_f p3) (tests_cons (dec_f q3) (tests_cons (dec_f p2) (tests_cons (dec_f q2) (tests_cons (dec_f p1) (tests_cons (dec_f q1) (tests_cons (dec_f p0) (tests_cons (dec_f q0) (tests_nil))))))))) rfl rfl
  · cases h
def T3 : Tbl := (29, cmpG) :: T2
theorem T3_ok : ∀ p ∈ T3, WCon Try.prog p.1 p.2 := WCons.cons cmp_con T2_ok
end Go.Proofs.Ytninlahlmjhmhaa
