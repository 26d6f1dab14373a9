import Derived.Test.YtninlahlmjhmhaaLmd
namespace Go.Proofs.Ytninlahlmjhmhaa
open Go.Ab

theorem and_low (x : Nat) (hx : x < 18446744073709551616) : IntKind.u64.wrap (BitVec.ofInt 64 (x : Int) &&& BitVec.ofInt 64 4294967295).toNat = ((x % 4294967296 : Nat) : Int) := by
  have h1 : (BitVec.ofInt 64 (x : Int)).toNat = x := by
    rw [BitVec.toNat_ofInt]; omega
  have h2 : (BitVec.ofInt 64 4294967295).toNat = 2 ^ 32 - 1 := by decide
  rw [BitVec.toNat_and, h1, h2, Nat.and_two_pow_sub_one_eq_mod, IntWalk.u64_in _ (by omega)]
theorem shr32 (x : Nat) : (x : Int).fdiv (2 ^ 32) = ((x / 4294967296 : Nat) : Int) := by
  rw [Int.fdiv_eq_ediv_of_nonneg _ (by omega)]
  omega
theorem wrap_is {a : Int} {n : Nat} (h : a = (n : Int)) (hn : n < 18446744073709551616) : IntKind.u64.wrap a = (n : Int) := by
  rw [h, IntWalk.u64_in _ (by omega)]

theorem mul_parts (x y : Nat) (hx : x < 18446744073709551616) (hy : y < 18446744073709551616) : ∃ p q r s : Nat, p = (x % 4294967296) * (y % 4294967296) ∧ q = (x / 4294967296) * (y % 4294967296) ∧ r = (x % 4294967296) * (y / 4294967296) ∧ s = (x / 4294967296) * (y / 4294967296) ∧
    p ≤ 18446744065119617025 ∧ q ≤ 18446744065119617025 ∧ r ≤ 18446744065119617025 ∧ s ≤ 18446744065119617025 ∧ x * y = s * 18446744073709551616 + (q + r) * 4294967296 + p := by
  have b (u v : Nat) (hu : u ≤ 4294967295) (hv : v ≤ 4294967295) : u * v ≤ 18446744065119617025 := Nat.mul_le_mul hu hv
  refine ⟨_, _, _, _, rfl, rfl, rfl, rfl, b _ _ (by omega) (by omega), b _ _ (by omega) (by omega), b _ _ (by omega) (by omega), b _ _ (by omega) (by omega), ?_⟩
  have ex : x = (x / 4294967296) * 4294967296 + x % 4294967296 := by omega
  have ey : y = (y / 4294967296) * 4294967296 + y % 4294967296 := by omega
  generalize x / 4294967296 = a at *
  generalize x % 4294967296 = c at *
  generalize y / 4294967296 = e at *
  generalize y % 4294967296 = d at *
  rw [ex, ey, Nat.add_mul, Nat.mul_add, Nat.mul_add]
  have h1 : a * 4294967296 * (e * 4294967296) = a * e * 18446744073709551616 := by
    rw [Nat.mul_assoc, Nat.mul_left_comm 4294967296 e, ← Nat.mul_assoc]
  have h2 : a * 4294967296 * d = a * d * 4294967296 := by rw [Nat.mul_assoc, Nat.mul_comm 4294967296 d, ← Nat.mul_assoc]
  have h3 : c * (e * 4294967296) = c * e * 4294967296 := by rw [← Nat.mul_assoc]
  rw [h1, h2, h3]; omega

def mul64G : List Value → Option Value
  | [.int .u64 x, .int .u64 y] => some (.tuple ⟨[u64 (x.toNat * y.toNat / 18446744073709551616), u64 (x.toNat * y.toNat % 18446744073709551616)]⟩)
  | _ => none
theorem mul64_con : WCon Try.prog 56 mul64G := by
  intro l v h hw
  unfold mul64G at h
  split at h
  · rename_i x y
    injection h with h; subst h
    obtain ⟨x, hx, rfl⟩ := of_u64 (wf_cellof (hw (.int .u64 x) (by simp)))
    obtain ⟨y, hy, rfl⟩ := of_u64 (wf_cellof (hw (.int .u64 y) (by simp)))
    obtain ⟨p, q, r, s, ep, eq, er, es, bp, bq, br, bs, exy⟩ := mul_parts x y hx hy
    revert hw
    simp only [Int.toNat_natCast]
    have g1 := and_low x hx
    have g2 := shr32 x
    have g3 := and_low y hy
    have g4 := shr32 y
    have g5 : IntKind.u64.wrap (((x % 4294967296 : Nat) : Int) * ((y % 4294967296 : Nat) : Int)) = (p : Int) := wrap_is (by rw [ep]; exact (Int.natCast_mul _ _).symm) (by omega)
    have g6 : IntKind.u64.wrap (((x / 4294967296 : Nat) : Int) * ((y % 4294967296 : Nat) : Int)) = (q : Int) := wrap_is (by rw [eq]; exact (Int.natCast_mul _ _).symm) (by omega)
    have g7 := shr32 p
    have g8 : IntKind.u64.wrap ((q : Int) + ((p / 4294967296 : Nat) : Int)) = ((q + p / 4294967296 : Nat) : Int) := wrap_is (by omega) (by omega)
    have g9 := and_low (q + p / 4294967296) (by omega)
    have g10 := shr32 (q + p / 4294967296)
    have g11 : IntKind.u64.wrap (((x % 4294967296 : Nat) : Int) * ((y / 4294967296 : Nat) : Int)) = (r : Int) := wrap_is (by rw [er]; exact (Int.natCast_mul _ _).symm) (by omega)
    have g12 : IntKind.u64.wrap ((((q + p / 4294967296) % 4294967296 : Nat) : Int) + (r : Int)) = (((q + p / 4294967296) % 4294967296 + r : Nat) : Int) := wrap_is (by omega) (by omega)
    have g13 : IntKind.u64.wrap (((x / 4294967296 : Nat) : Int) * ((y / 4294967296 : Nat) : Int)) = (s : Int) := wrap_is (by rw [es]; exact (Int.natCast_mul _ _).symm) (by omega)
    have g14 : IntKind.u64.wrap ((s : Int) + (((q + p / 4294967296) / 4294967296 : Nat) : Int)) = ((s + (q + p / 4294967296) / 4294967296 : Nat) : Int) := wrap_is (by omega) (by omega)
    have g15 := shr32 ((q + p / 4294967296) % 4294967296 + r)
    have g16 : IntKind.u64.wrap (((s + (q + p / 4294967296) / 4294967296 : Nat) : Int) + ((((q + p / 4294967296) % 4294967296 + r) / 4294967296 : Nat) : Int)) = ((x * y / 18446744073709551616 : Nat) : Int) := wrap_is (by rw [exy]; omega) (by rw [exy]; omega)
    have g17 : IntKind.u64.wrap ((x : Int) * (y : Int)) = ((x * y % 18446744073709551616 : Nat) : Int) := by
      rw [IntKind.wrap_u64, ← Int.natCast_mul]; omega
    exact WCall.of_taken mixed T0_ok [(15, u64 (x % 4294967296)), (17, u64 (x / 4294967296)), (19, u64 (y % 4294967296)), (21, u64 (y / 4294967296)), (24, u64 p), (27, u64 q), (29, u64 (p / 4294967296)), (30, u64 (q + p / 4294967296)),
        (32, u64 ((q + p / 4294967296) % 4294967296)), (34, u64 ((q + p / 4294967296) / 4294967296)), (38, u64 r), (39, u64 ((q + p / 4294967296) % 4294967296 + r)), (42, u64 s), (44, u64 (s + (q + p / 4294967296) / 4294967296)),
        (46, u64 (((q + p / 4294967296) % 4294967296 + r) / 4294967296)), (47, u64 (x * y / 18446744073709551616)), (50, u64 (x * y % 18446744073709551616))] 40 1 _ (by kernel_rfl)
      (om g1 (om g2 (om g3 (om g4 (om g5 (om g6 (om g7 (om g8 (om g9 (om g10 (om g11 (om g12 (om g13 (om g14 (om g15 (om g16 (om g17 .nil))))))))))))))))) rfl rfl
  · cases h
def T4 : Tbl := (56, mul64G) :: T3
theorem T4_ok : ∀ p ∈ T4, WCon Try.prog p.1 p.2 := WCons.cons mul64_con T3_ok

/-- a product, and two numbers more -/
def stepG : List Value → Option Value
  | [.int .u64 a, .int .u64 b, .int .u64 c, .int .u64 d] => some (.tuple ⟨[u64 ((a.toNat * b.toNat + c.toNat + d.toNat) % 18446744073709551616), u64 ((a.toNat * b.toNat + c.toNat + d.toNat) / 18446744073709551616)]⟩)
  | _ => none
theorem step_con : WCon Try.prog 54 stepG := by
  intro l v h hw
  unfold stepG at h
  split at h
  · rename_i a b c d
    injection h with h; subst h
    obtain ⟨a, ha, rfl⟩ := of_u64 (wf_cellof (hw (.int .u64 a) (by simp)))
    obtain ⟨b, hb, rfl⟩ := of_u64 (wf_cellof (hw (.int .u64 b) (by simp)))
    obtain ⟨c, hc, rfl⟩ := of_u64 (wf_cellof (hw (.int .u64 c) (by simp)))
    obtain ⟨d, hd, rfl⟩ := of_u64 (wf_cellof (hw (.int .u64 d) (by simp)))
    revert hw
    simp only [Int.toNat_natCast]
    have hab : a * b ≤ 18446744073709551615 * 18446744073709551615 := Nat.mul_le_mul (by omega) (by omega)
    obtain ⟨P, eP⟩ : ∃ P, P = a * b := ⟨_, rfl⟩
    rw [← eP] at hab ⊢
    have g1 : ((a * b / 18446744073709551616 : Nat) : Int) = ((P / 18446744073709551616 : Nat) : Int) := by rw [eP]
    have g2 : ((a * b % 18446744073709551616 : Nat) : Int) = ((P % 18446744073709551616 : Nat) : Int) := by rw [eP]
    have g3 : IntKind.u64.wrap (((P / 18446744073709551616 : Nat) : Int) + (((P % 18446744073709551616 + c + 0) / 18446744073709551616 : Nat) : Int)) = ((P / 18446744073709551616 + (P % 18446744073709551616 + c + 0) / 18446744073709551616 : Nat) : Int) := wrap_is (by omega) (by omega)
    have g4 : ((((P % 18446744073709551616 + c + 0) % 18446744073709551616 + d + 0) % 18446744073709551616 : Nat) : Int) = (((P + c + d) % 18446744073709551616 : Nat) : Int) := by omega
    have g5 : IntKind.u64.wrap (((P / 18446744073709551616 + (P % 18446744073709551616 + c + 0) / 18446744073709551616 : Nat) : Int) + ((((P % 18446744073709551616 + c + 0) % 18446744073709551616 + d + 0) / 18446744073709551616 : Nat) : Int)) = (((P + c + d) / 18446744073709551616 : Nat) : Int) := wrap_is (by omega) (by omega)
    exact WCall.of_taken mixed T4_ok [(17, u64 (P / 18446744073709551616)), (18, u64 (P % 18446744073709551616)), (27, u64 (P / 18446744073709551616 + (P % 18446744073709551616 + c + 0) / 18446744073709551616)),
      (32, u64 ((P + c + d) % 18446744073709551616)), (37, u64 ((P + c + d) / 18446744073709551616))] 40 1 _ (by kernel_rfl) (om g1 (om g2 (om g3 (om g4 (om g5 .nil))))) rfl rfl
  · cases h
def T5 : Tbl := (54, stepG) :: T4
theorem T5_ok : ∀ p ∈ T5, WCon Try.prog p.1 p.2 := WCons.cons step_con T4_ok
end Go.Proofs.Ytninlahlmjhmhaa
