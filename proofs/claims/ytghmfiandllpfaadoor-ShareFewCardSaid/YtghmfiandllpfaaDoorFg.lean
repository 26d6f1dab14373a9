import Derived.Test.YtghmfiandllpfaaDoorFe
namespace Go.Proofs.YtghmfiandllpfaaDoor.Lb
open Go.Ty

/-! ## Squares modulo P -/
theorem int_dvd {p : Nat} (hf : Go.Fer.Fer p) {u v : Int} (h : (p : Int) ∣ u * v) : (p : Int) ∣ u ∨ (p : Int) ∣ v := by
  have h := Int.natAbs_dvd_natAbs.2 h
  rw [Int.natAbs_mul, Int.natAbs_natCast] at h
  rcases hf.dvd_mul h with c | c
  · left; rw [← Int.natAbs_dvd_natAbs, Int.natAbs_natCast]; exact c
  · right; rw [← Int.natAbs_dvd_natAbs, Int.natAbs_natCast]; exact c
theorem int_mod {p a b : Nat} : (p : Int) ∣ (a : Int) - b ↔ a % p = b % p := by
  constructor
  · intro h
    have := Int.emod_eq_emod_iff_emod_sub_eq_zero.2 (Int.emod_eq_zero_of_dvd h)
    rw [← Int.natCast_emod, ← Int.natCast_emod] at this
    exact Int.ofNat.inj this
  · intro h
    refine Int.dvd_of_emod_eq_zero (Int.emod_eq_emod_iff_emod_sub_eq_zero.1 ?_)
    rw [← Int.natCast_emod, ← Int.natCast_emod, h]
theorem sq_eq {p x y : Nat} (hf : Go.Fer.Fer p) (h : x * x % p = y * y % p) : x % p = y % p ∨ (x + y) % p = 0 := by
  have h1 := int_mod.2 h
  have e : ((x * x : Nat) : Int) - ((y * y : Nat) : Int) = ((x : Int) - y) * ((x : Int) + y) := by rw [Int.natCast_mul, Int.natCast_mul]; grind
  rw [e] at h1
  rcases int_dvd hf h1 with c | c
  · exact .inl (int_mod.1 c)
  · right
    have c : (p : Int) ∣ ((x + y : Nat) : Int) := by rw [Int.natCast_add]; exact c
    exact Nat.mod_eq_zero_of_dvd (Int.natCast_dvd_natCast.1 c)

/-- (P - 1) / 2 -/
noncomputable def HH : Nat := Classical.choose (⟨2 ^ 254 - 10, rfl⟩ : ∃ n : Nat, n = 2 ^ 254 - 10)
theorem HH_eq : HH = 2 ^ 254 - 10 := Classical.choose_spec (⟨2 ^ 254 - 10, rfl⟩ : ∃ n : Nat, n = 2 ^ 254 - 10)
theorem HH_2 : PP = 2 * HH + 1 := by rw [PP_eq, HH_eq]
theorem E1_4 : 4 * E1 = HH + 2 := by rw [E1_eq, HH_eq]
theorem E2_2 : 2 * E2 = HH := by rw [E2_eq, HH_eq]
theorem pwm_chk : Go.Fer.pwm (2 ^ 255 - 19) 256 2 (2 ^ 254 - 10) 1 % (2 ^ 255 - 19) = 2 ^ 255 - 19 - 1 := by kernel_rfl
/-- 2 is no square -/
theorem two_chi : 2 ^ HH % PP = PP - 1 := by
  have h := Go.Fer.pwm_eq (p := PP) 256 2 HH 1 (by have := HH_2; have := PP_lt; omega)
  rw [Nat.one_mul] at h
  rw [← h, PP_eq, HH_eq]
  exact pwm_chk
theorem chi_or {A : Nat} (h : A % PP ≠ 0) : A ^ HH % PP = 1 ∨ A ^ HH % PP = PP - 1 := by
  have h1 := ferPP.2 A h
  have hp := PP_1
  have e : A ^ HH * A ^ HH % PP = 1 * 1 % PP := by
    rw [← Nat.pow_add, show HH + HH = PP - 1 by have := HH_2; omega, h1, Nat.mul_one, Nat.mod_eq_of_lt hp]
  rcases sq_eq ferPP e with c | c
  · left; rw [c, Nat.mod_eq_of_lt hp]
  · right
    have hl := Nat.mod_lt (A ^ HH) PP_pos
    rw [← Nat.mod_add_mod] at c
    generalize A ^ HH % PP = x at *
    by_cases c2 : x + 1 < PP
    · rw [Nat.mod_eq_of_lt c2] at c; omega
    · omega
/-- of a square it is 1 -/
theorem chi_sq {A y : Nat} (h : A % PP ≠ 0) (hy : y * y % PP = A % PP) : A ^ HH % PP = 1 := by
  have hy0 : y % PP ≠ 0 := fun c => by
    rw [Nat.mul_mod, c, Nat.zero_mul, Nat.zero_mod] at hy; exact h hy.symm
  have h1 := ferPP.2 y hy0
  rw [Nat.pow_mod, ← hy, ← Nat.pow_mod, Nat.mul_pow, ← Nat.pow_add, show HH + HH = PP - 1 by have := HH_2; omega, h1]
/-- where it is 1 there is a root -/
theorem sqrt_of {A : Nat} (h : A % PP = 0 ∨ A ^ HH % PP = 1) : sqx A * sqx A % PP = A % PP := by
  have hp := PP_1
  unfold sqx
  by_cases c : powP A E1 * powP A E1 % PP = A % PP
  · rw [decide_eq_true c]; exact c
  · rw [decide_eq_false c, cond_false]
    rcases h with h | h
    · exfalso; apply c
      have e0 : powP A E1 = 0 := by
        unfold powP
        rw [Nat.pow_mod, h, Nat.zero_pow (by have := E1_4; omega), Nat.zero_mod]
      rw [e0, h]; simp
    · have e1 : powP A E1 * powP A E1 * (powP A E1 * powP A E1) % PP = A * A % PP := by
        unfold powP
        rw [Nat.mul_mod, ← Nat.mul_mod (A ^ E1), ← Nat.mul_mod, ← Nat.pow_add, ← Nat.pow_add, show E1 + E1 + (E1 + E1) = HH + 2 by have := E1_4; omega, Nat.pow_add, Nat.mul_mod, h, Nat.one_mul, Nat.mod_mod, Nat.pow_two]
      rcases sq_eq ferPP e1 with d | d
      · exact absurd d c
      · have e2 : powP 2 E2 * powP 2 E2 % PP = PP - 1 := by
          unfold powP
          rw [← Nat.mul_mod, ← Nat.pow_add, show E2 + E2 = HH by have := E2_2; omega]
          exact two_chi
        rw [← Nat.mul_mod]
        generalize powP A E1 = x at *
        generalize powP 2 E2 = z at *
        rw [show x * z * (x * z) = x * x * (z * z) by grind, Nat.mul_mod, e2]
        have e3 : (x * x % PP + A % PP) % PP = 0 := by rw [← Nat.add_mod]; exact d
        have l1 := Nat.mod_lt (x * x) PP_pos
        have l2 := Nat.mod_lt A PP_pos
        generalize x * x % PP = u at *
        generalize A % PP = v at *
        have e4 : (u * (PP - 1) + u) % PP = 0 := by
          have : u * (PP - 1) + u = PP * u := by
            obtain ⟨q, hq⟩ : ∃ q, PP = q + 1 := ⟨PP - 1, by omega⟩
            rw [hq, Nat.add_sub_cancel]; grind
          rw [this, Nat.mul_mod_right]
        have l3 := Nat.mod_lt (u * (PP - 1)) PP_pos
        rw [← Nat.mod_add_mod] at e4
        generalize u * (PP - 1) % PP = w at *
        have a1 : u + v = 0 ∨ u + v = PP := by
          by_cases k : u + v < PP
          · rw [Nat.mod_eq_of_lt k] at e3; omega
          · right
            rw [Nat.mod_eq_sub_mod (by omega), Nat.mod_eq_of_lt (by omega)] at e3; omega
        have a2 : w + u = 0 ∨ w + u = PP := by
          by_cases k : w + u < PP
          · rw [Nat.mod_eq_of_lt k] at e4; omega
          · right
            rw [Nat.mod_eq_sub_mod (by omega), Nat.mod_eq_of_lt (by omega)] at e4; omega
        omega
theorem sqrtB_zero {A : Nat} (h : A % PP = 0) : sqrtB A = true := decide_eq_true (sqrt_of (.inl h))
theorem sqrtB_chi {A : Nat} (h : A % PP ≠ 0) : sqrtB A = decide (A ^ HH % PP = 1) := by
  by_cases c : A ^ HH % PP = 1
  · rw [decide_eq_true c]; exact decide_eq_true (sqrt_of (.inr c))
  · rw [decide_eq_false c]
    exact decide_eq_false fun e => c (chi_sq h e)
theorem sqrtB_sq {A y : Nat} (hy : y * y % PP = A % PP) : sqrtB A = true := by
  by_cases h : A % PP = 0
  · exact sqrtB_zero h
  · rw [sqrtB_chi h]; exact decide_eq_true (chi_sq h hy)
theorem sqx_lt (A : Nat) : sqx A < PP := by
  unfold sqx
  cases decide (powP A E1 * powP A E1 % PP = A % PP) <;> exact Nat.mod_lt _ PP_pos
/-- the root is even, below P, and its square is what it was of -/
theorem sqrtN_spec {A : Nat} (h : sqrtB A = true) : sqrtN A < PP ∧ sqrtN A % 2 = 0 ∧ sqrtN A * sqrtN A % PP = A % PP := by
  have hs : sqx A * sqx A % PP = A % PP := of_decide_eq_true h
  have hl := sqx_lt A
  have ho := PP_odd
  unfold sqrtN
  rw [h, cond_true]
  unfold evenP
  by_cases c : sqx A % 2 = 1
  · rw [decide_eq_true c, cond_true, Nat.mod_eq_of_lt hl, Nat.mod_eq_of_lt (show PP - sqx A < PP by omega)]
    refine ⟨by omega, by omega, ?_⟩
    have := neg_mul hl hl
    rw [Nat.mod_eq_of_lt (show PP - sqx A < PP by omega)] at this
    rw [this, hs]
  · rw [decide_eq_false c, cond_false]
    exact ⟨hl, by omega, hs⟩
theorem sqrtN_none {A : Nat} (h : sqrtB A = false) : sqrtN A = 0 := by unfold sqrtN; rw [h]; rfl
end Go.Proofs.YtghmfiandllpfaaDoor.Lb
