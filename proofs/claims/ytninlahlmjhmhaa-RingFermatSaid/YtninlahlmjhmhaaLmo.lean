import Derived.Test.YtninlahlmjhmhaaLmn
namespace Go.Proofs.Ytninlahlmjhmhaa
open Go.Ab

theorem ge_t {x m : Nat} (h : m ≤ x) : decide ((x : Int) ≥ (m : Int)) = true := decide_eq_true (by omega)
theorem ge_f {x m : Nat} (h : ¬ m ≤ x) : decide ((x : Int) ≥ (m : Int)) = false := decide_eq_false (by omega)
theorem len64_con : WCon Try.prog 55 len64G := by
  intro l v h hw
  unfold len64G at h
  split at h
  · rename_i x
    injection h with h; subst h
    obtain ⟨x, hx, rfl⟩ := of_u64 (wf_cellof (hw (.int .u64 x) (by simp)))
    rw [Int.toNat_natCast]
    revert hw
    by_cases p0 : 4294967296 ≤ x
    · have q0 : 2 ^ 32 ≤ x := p0
      by_cases p1 : 65536 ≤ (x / 2 ^ 32)
      · have q1 : 2 ^ 16 ≤ (x / 2 ^ 32) := p1
        by_cases p2 : 256 ≤ ((x / 2 ^ 32) / 2 ^ 16)
        · have q2 : 2 ^ 8 ≤ ((x / 2 ^ 32) / 2 ^ 16) := p2
          have hy : (((x / 2 ^ 32) / 2 ^ 16) / 2 ^ 8) < 256 := by omega
          have eb111_32 : blen x = 32 + blen (x / 2 ^ 32) := blen_shift (by omega)
          have eb111_16 : blen (x / 2 ^ 32) = 16 + blen ((x / 2 ^ 32) / 2 ^ 16) := blen_shift (by omega)
          have eb111_8 : blen ((x / 2 ^ 32) / 2 ^ 16) = 8 + blen (((x / 2 ^ 32) / 2 ^ 16) / 2 ^ 8) := blen_shift (by omega)
          have hv : ((blen x : Nat) : Int) = 56 + (blen (((x / 2 ^ 32) / 2 ^ 16) / 2 ^ 8) : Nat) := by rw [eb111_32, eb111_16, eb111_8]; omega
          rw [hv]
          exact WCall.of_taken mixed T0_ok _ 40 1 _ (all_of (len_111 x) hy) (ob (ge_t p0) (om (shr_is x 32) (ob (ge_t p1) (om (shr_is (x / 2 ^ 32) 16) (ob (ge_t p2) (om (shr_is ((x / 2 ^ 32) / 2 ^ 16) 8) (om (a := ((((x / 2 ^ 32) / 2 ^ 16) / 2 ^ 8) : Nat)) rfl .nil))))))) rfl rfl
        · have hy : ((x / 2 ^ 32) / 2 ^ 16) < 256 := by omega
          have eb110_32 : blen x = 32 + blen (x / 2 ^ 32) := blen_shift (by omega)
          have eb110_16 : blen (x / 2 ^ 32) = 16 + blen ((x / 2 ^ 32) / 2 ^ 16) := blen_shift (by omega)
          have hv : ((blen x : Nat) : Int) = 48 + (blen ((x / 2 ^ 32) / 2 ^ 16) : Nat) := by rw [eb110_32, eb110_16]; omega
          rw [hv]
          exact WCall.of_taken mixed T0_ok _ 40 1 _ (all_of (len_110 x) hy) (ob (ge_t p0) (om (shr_is x 32) (ob (ge_t p1) (om (shr_is (x / 2 ^ 32) 16) (ob (ge_f p2) (om (a := (((x / 2 ^ 32) / 2 ^ 16) : Nat)) rfl .nil)))))) rfl rfl
      · by_cases p2 : 256 ≤ (x / 2 ^ 32)
        · have q2 : 2 ^ 8 ≤ (x / 2 ^ 32) := p2
          have hy : ((x / 2 ^ 32) / 2 ^ 8) < 256 := by omega
          have eb101_32 : blen x = 32 + blen (x / 2 ^ 32) := blen_shift (by omega)
          have eb101_8 : blen (x / 2 ^ 32) = 8 + blen ((x / 2 ^ 32) / 2 ^ 8) := blen_shift (by omega)
          have hv : ((blen x : Nat) : Int) = 40 + (blen ((x / 2 ^ 32) / 2 ^ 8) : Nat) := by rw [eb101_32, eb101_8]; omega
          rw [hv]
          exact WCall.of_taken mixed T0_ok _ 40 1 _ (all_of (len_101 x) hy) (ob (ge_t p0) (om (shr_is x 32) (ob (ge_f p1) (ob (ge_t p2) (om (shr_is (x / 2 ^ 32) 8) (om (a := (((x / 2 ^ 32) / 2 ^ 8) : Nat)) rfl .nil)))))) rfl rfl
        · have hy : (x / 2 ^ 32) < 256 := by omega
          have eb100_32 : blen x = 32 + blen (x / 2 ^ 32) := blen_shift (by omega)
          have hv : ((blen x : Nat) : Int) = 32 + (blen (x / 2 ^ 32) : Nat) := by rw [eb100_32]; omega
          rw [hv]
          exact WCall.of_taken mixed T0_ok _ 40 1 _ (all_of (len_100 x) hy) (ob (ge_t p0) (om (shr_is x 32) (ob (ge_f p1) (ob (ge_f p2) (om (a := ((x / 2 ^ 32) : Nat)) rfl .nil))))) rfl rfl
    · by_cases p1 : 65536 ≤ x
      · have q1 : 2 ^ 16 ≤ x := p1
        by_cases p2 : 256 ≤ (x / 2 ^ 16)
        · have q2 : 2 ^ 8 ≤ (x / 2 ^ 16) := p2
          have hy : ((x / 2 ^ 16) / 2 ^ 8) < 256 := by omega
          have eb011_16 : blen x = 16 + blen (x / 2 ^ 16) := blen_shift (by omega)
          have eb011_8 : blen (x / 2 ^ 16) = 8 + blen ((x / 2 ^ 16) / 2 ^ 8) := blen_shift (by omega)
          have hv : ((blen x : Nat) : Int) = 24 + (blen ((x / 2 ^ 16) / 2 ^ 8) : Nat) := by rw [eb011_16, eb011_8]; omega
          rw [hv]
          exact WCall.of_taken mixed T0_ok _ 40 1 _ (all_of (len_011 x) hy) (ob (ge_f p0) (ob (ge_t p1) (om (shr_is x 16) (ob (ge_t p2) (om (shr_is (x / 2 ^ 16) 8) (om (a := (((x / 2 ^ 16) / 2 ^ 8) : Nat)) rfl .nil)))))) rfl rfl
        · have hy : (x / 2 ^ 16) < 256 := by omega
          have eb010_16 : blen x = 16 + blen (x / 2 ^ 16) := blen_shift (by omega)
          have hv : ((blen x : Nat) : Int) = 16 + (blen (x / 2 ^ 16) : Nat) := by rw [eb010_16]; omega
          rw [hv]
          exact WCall.of_taken mixed T0_ok _ 40 1 _ (all_of (len_010 x) hy) (ob (ge_f p0) (ob (ge_t p1) (om (shr_is x 16) (ob (ge_f p2) (om (a := ((x / 2 ^ 16) : Nat)) rfl .nil))))) rfl rfl
      · by_cases p2 : 256 ≤ x
        · have q2 : 2 ^ 8 ≤ x := p2
          have hy : (x / 2 ^ 8) < 256 := by omega
          have eb001_8 : blen x = 8 + blen (x / 2 ^ 8) := blen_shift (by omega)
          have hv : ((blen x : Nat) : Int) = 8 + (blen (x / 2 ^ 8) : Nat) := by rw [eb001_8]; omega
          rw [hv]
          exact WCall.of_taken mixed T0_ok _ 40 1 _ (all_of (len_001 x) hy) (ob (ge_f p0) (ob (ge_f p1) (ob (ge_t p2) (om (shr_is x 8) (om (a := ((x / 2 ^ 8) : Nat)) rfl .nil))))) rfl rfl
        · have hy : x < 256 := by omega
          have hv : ((blen x : Nat) : Int) = 0 + (blen x : Nat) := by omega
          rw [hv]
          exact WCall.of_taken mixed T0_ok _ 40 1 _ (all_of (len_000 x) hy) (ob (ge_f p0) (ob (ge_f p1) (ob (ge_f p2) (om (a := (x : Nat)) rfl .nil)))) rfl rfl
  · cases h
def T11 : Tbl := (55, len64G) :: T10
theorem T11_ok : ∀ p ∈ T11, WCon Try.prog p.1 p.2 := WCons.cons len64_con T10_ok
end Go.Proofs.Ytninlahlmjhmhaa
