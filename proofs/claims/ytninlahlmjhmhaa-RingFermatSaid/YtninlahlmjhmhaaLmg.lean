import Derived.Test.YtninlahlmjhmhaaLmf
namespace Go.Proofs.Ytninlahlmjhmhaa
open Go.Ab

def eqL : List Int → List Int → Bool
  | a :: l, b :: m => a == b && eqL l m
  | _, _ => true
theorem eqL_self : ∀ l : List Int, eqL l l = true := by
  intro l
  induction l with
  | nil => rfl
  | cons a l ih => simp [eqL, ih]
theorem eqL_of {l m : List Int} (h : l = m) : eqL l m = true := h ▸ eqL_self l
def ws8 (n : Nat) : List Int := [w64 n 0, w64 n 1, w64 n 2, w64 n 3, w64 n 4, w64 n 5, w64 n 6, w64 n 7]
def vw (a0 a1 a2 a3 a4 a5 a6 a7 : Int) : Nat := vl a0 a1 a2 a3 + 2 ^ 256 * vl a4 a5 a6 a7
theorem w64_high (n i : Nat) : w64 (n / 2 ^ 256) i = w64 n (i + 4) := by
  unfold w64
  have h : 64 * (i + 4) = 256 + 64 * i := by omega
  rw [h, Nat.pow_add, Nat.div_div_eq_div_mul]
theorem vw_eq (n : Nat) : vw (w64 n 0) (w64 n 1) (w64 n 2) (w64 n 3) (w64 n 4) (w64 n 5) (w64 n 6) (w64 n 7) = n % 2 ^ 512 := by
  have h1 := vlS_eq n
  have h2 := vlS_eq (n / 2 ^ 256)
  unfold vlS at h1 h2
  rw [w64_high, w64_high, w64_high, w64_high] at h2
  unfold vw
  rw [h1, h2]
  omega

def lowG : List Value → Option Value
  | [.agg ⟨[.int .u64 a0, .int .u64 a1, .int .u64 a2, .int .u64 a3, .int .u64 _, .int .u64 _, .int .u64 _, .int .u64 _]⟩] => some (.agg ⟨[.int .u64 a0, .int .u64 a1, .int .u64 a2, .int .u64 a3]⟩)
  | _ => none
theorem low_con : WCon Try.prog 27 lowG := by
  intro l v h
  unfold lowG at h
  split at h
  · injection h with h; subst h
    exact WCall.of_val mixed T6_ok 40 1 (by kernel_rfl) rfl rfl
  · cases h
def highG : List Value → Option Value
  | [.agg ⟨[.int .u64 _, .int .u64 _, .int .u64 _, .int .u64 _, .int .u64 a4, .int .u64 a5, .int .u64 a6, .int .u64 a7]⟩] => some (.agg ⟨[.int .u64 a4, .int .u64 a5, .int .u64 a6, .int .u64 a7]⟩)
  | _ => none
theorem high_con : WCon Try.prog 28 highG := by
  intro l v h
  unfold highG at h
  split at h
  · injection h with h; subst h
    exact WCall.of_val mixed T6_ok 40 1 (by kernel_rfl) rfl rfl
  · cases h
def wideG : List Value → Option Value
  | [.agg ⟨[.int .u64 a0, .int .u64 a1, .int .u64 a2, .int .u64 a3]⟩, .agg ⟨[.int .u64 a4, .int .u64 a5, .int .u64 a6, .int .u64 a7]⟩] => some (.agg ⟨[.int .u64 a0, .int .u64 a1, .int .u64 a2, .int .u64 a3, .int .u64 a4, .int .u64 a5, .int .u64 a6, .int .u64 a7]⟩)
  | _ => none
theorem wide_con : WCon Try.prog 26 wideG := by
  intro l v h
  unfold wideG at h
  split at h
  · injection h with h; subst h
    exact WCall.of_val mixed T6_ok 40 1 (by kernel_rfl) rfl rfl
  · cases h
def T7 : Tbl := (26, wideG) :: (27, lowG) :: (28, highG) :: T6
theorem T7_ok : ∀ p ∈ T7, WCon Try.prog p.1 p.2 := WCons.cons wide_con (WCons.cons low_con (WCons.cons high_con T6_ok))

def wide1G : List Value → Option Value
  | [.agg ⟨[.int .u64 a0, .int .u64 a1, .int .u64 a2, .int .u64 a3]⟩] => some (.agg ⟨[.int .u64 a0, .int .u64 a1, .int .u64 a2, .int .u64 a3, .int .u64 0, .int .u64 0, .int .u64 0, .int .u64 0]⟩)
  | _ => none
theorem wide1_con : WCon Try.prog 33 wide1G := by
  intro l v h
  unfold wide1G at h
  split at h
  · injection h with h; subst h
    exact WCall.of_val mixed T7_ok 40 1 (by kernel_rfl) rfl rfl
  · cases h

theorem plus_words (s h : Nat) : wideV (s + 2 ^ 256 * h) = .agg ⟨[.int .u64 (w64 s 0), .int .u64 (w64 s 1), .int .u64 (w64 s 2), .int .u64 (w64 s 3),
    .int .u64 (w64 (vlS h + vl ((s / 2 ^ 256 : Nat) : Int) 0 0 0) 0), .int .u64 (w64 (vlS h + vl ((s / 2 ^ 256 : Nat) : Int) 0 0 0) 1), .int .u64 (w64 (vlS h + vl ((s / 2 ^ 256 : Nat) : Int) 0 0 0) 2), .int .u64 (w64 (vlS h + vl ((s / 2 ^ 256 : Nat) : Int) 0 0 0) 3)]⟩ := by
  have h1 : vlS (s + 2 ^ 256 * h) = vlS s := by rw [vlS_eq, vlS_eq]; omega
  have h2 : vl ((s / 2 ^ 256 : Nat) : Int) 0 0 0 = s / 2 ^ 256 := by unfold vl; simp only [Int.toNat_natCast]; rfl
  have h3 : vlS ((s + 2 ^ 256 * h) / 2 ^ 256) = vlS (vlS h + vl ((s / 2 ^ 256 : Nat) : Int) 0 0 0) := by
    rw [h2, vlS_eq h, vlS_eq, vlS_eq]; omega
  unfold wideV
  rw [w64_congr h1 0 (by omega), w64_congr h1 1 (by omega), w64_congr h1 2 (by omega), w64_congr h1 3 (by omega)]
  rw [← w64_high _ 0, ← w64_high _ 1, ← w64_high _ 2, ← w64_high _ 3, w64_congr h3 0 (by omega), w64_congr h3 1 (by omega), w64_congr h3 2 (by omega), w64_congr h3 3 (by omega)]
def plusG : List Value → Option Value
  | [.agg ⟨[.int .u64 a0, .int .u64 a1, .int .u64 a2, .int .u64 a3, .int .u64 a4, .int .u64 a5, .int .u64 a6, .int .u64 a7]⟩, .agg ⟨[.int .u64 b0, .int .u64 b1, .int .u64 b2, .int .u64 b3, .int .u64 b4, .int .u64 b5, .int .u64 b6, .int .u64 b7]⟩] =>
    some (wideV (vw a0 a1 a2 a3 a4 a5 a6 a7 + vw b0 b1 b2 b3 b4 b5 b6 b7))
  | _ => none
theorem vl_lt4 {a0 a1 a2 a3 : Int} (h0 : wfcB (.int .u64 a0) = true) (h1 : wfcB (.int .u64 a1) = true) (h2 : wfcB (.int .u64 a2) = true) (h3 : wfcB (.int .u64 a3) = true) : vl a0 a1 a2 a3 < 2 ^ 256 := by
  obtain ⟨x0, g0, rfl⟩ := of_u64 h0
  obtain ⟨x1, g1, rfl⟩ := of_u64 h1
  obtain ⟨x2, g2, rfl⟩ := of_u64 h2
  obtain ⟨x3, g3, rfl⟩ := of_u64 h3
  rw [vl_nat]; omega
theorem plus_con : WCon Try.prog 32 plusG := by
  intro l v h hw
  unfold plusG at h
  split at h
  · rename_i a0 a1 a2 a3 a4 a5 a6 a7 b0 b1 b2 b3 b4 b5 b6 b7
    injection h with h; subst h
    have ha := hw (.agg ⟨[.int .u64 a0, .int .u64 a1, .int .u64 a2, .int .u64 a3, .int .u64 a4, .int .u64 a5, .int .u64 a6, .int .u64 a7]⟩) (by simp)
    have hb := hw (.agg ⟨[.int .u64 b0, .int .u64 b1, .int .u64 b2, .int .u64 b3, .int .u64 b4, .int .u64 b5, .int .u64 b6, .int .u64 b7]⟩) (by simp)
    have la := vl_lt4 (ha (.int .u64 a0) (by simp [vcells])) (ha (.int .u64 a1) (by simp [vcells])) (ha (.int .u64 a2) (by simp [vcells])) (ha (.int .u64 a3) (by simp [vcells]))
    have lb := vl_lt4 (hb (.int .u64 b0) (by simp [vcells])) (hb (.int .u64 b1) (by simp [vcells])) (hb (.int .u64 b2) (by simp [vcells])) (hb (.int .u64 b3) (by simp [vcells]))
    revert hw
    have e : vw a0 a1 a2 a3 a4 a5 a6 a7 + vw b0 b1 b2 b3 b4 b5 b6 b7 = (vl a0 a1 a2 a3 + vl b0 b1 b2 b3) + 2 ^ 256 * (vl a4 a5 a6 a7 + vl b4 b5 b6 b7) := by
      unfold vw
      rw [Nat.mul_add]; omega
    rw [e, plus_words]
    exact WCall.of_val mixed T7_ok 40 1 (by kernel_rfl) rfl rfl
  · cases h
def T8 : Tbl := (32, plusG) :: (33, wide1G) :: T7
theorem T8_ok : ∀ p ∈ T8, WCon Try.prog p.1 p.2 := WCons.cons plus_con (WCons.cons wide1_con T7_ok)

def hi4 (n : Nat) : Bool := eqL [w64 n 4, w64 n 5, w64 n 6, w64 n 7] [0, 0, 0, 0]
theorem hi4_zero {n : Nat} (h : hi4 n = true) : n / 2 ^ 256 % 2 ^ 256 = 0 := by
  unfold hi4 eqL eqL eqL eqL at h
  simp only [Bool.and_eq_true, beq_iff_eq] at h
  have h2 := vlS_eq (n / 2 ^ 256)
  unfold vlS at h2
  rw [w64_high, w64_high, w64_high, w64_high, h.1, h.2.1, h.2.2.1, h.2.2.2.1] at h2
  rw [← h2]; rfl

end Go.Proofs.Ytninlahlmjhmhaa
