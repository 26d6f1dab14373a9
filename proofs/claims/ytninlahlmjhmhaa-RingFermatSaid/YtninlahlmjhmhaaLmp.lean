import Derived.Test.YtninlahlmjhmhaaLmo
namespace Go.Proofs.Ytninlahlmjhmhaa
open Go.Ab

theorem blen_zero : blen 0 = 0 := rfl
theorem blen_lt {x : Nat} (h : x < 18446744073709551616) : blen x ≤ 64 := by
  unfold blen
  split
  · omega
  · rename_i h0
    have := (Nat.log2_lt h0 (k := 64)).2 h
    omega
def lenG : List Value → Option Value
  | [.agg ⟨[.int .u64 a0, .int .u64 a1, .int .u64 a2, .int .u64 a3]⟩] => some (.int .i64 (blen (vl a0 a1 a2 a3) : Nat))
  | _ => none
theorem len_con : WCon Try.prog 36 lenG := by
  intro l v h hw
  unfold lenG at h
  split at h
  · rename_i a0 a1 a2 a3
    injection h with h; subst h
    obtain ⟨x0, x1, x2, x3, h0, h1, h2, h3, rfl, rfl, rfl, rfl⟩ := bits4 (hw (.agg ⟨[.int .u64 a0, .int .u64 a1, .int .u64 a2, .int .u64 a3]⟩) (by simp))
    have vx := vl_nat x0 x1 x2 x3
    revert hw
    by_cases p3 : (x3 : Int) ≠ 0
    · have e : blen (vl x0 x1 x2 x3) = 192 + blen x3 := by
        have g := blen_shift (x := vl x0 x1 x2 x3) (k := 192) (by rw [vx]; omega)
        rwa [show vl x0 x1 x2 x3 / 2 ^ 192 = x3 by rw [vx]; omega] at g
      rw [e]
      exact WCall.of_taken mixed T11_ok [(11, .bool true), (18, .int .i64 ((192 + blen x3 : Nat) : Int))] 40 1 _ (by kernel_rfl) (ob (a := (x3 : Int) != 0) (b := true) (by simpa using p3) (oi (a := IntKind.i64.wrap (192 + ((blen x3 : Nat) : Int))) (b := ((192 + blen x3 : Nat) : Int)) (by have := blen_lt h3; rw [IntWalk.i64_in _ (by omega)]; omega) .nil)) rfl rfl
    by_cases p2 : (x2 : Int) ≠ 0
    · have e : blen (vl x0 x1 x2 x3) = 128 + blen x2 := by
        have g := blen_shift (x := vl x0 x1 x2 x3) (k := 128) (by rw [vx]; omega)
        rwa [show vl x0 x1 x2 x3 / 2 ^ 128 = x2 by rw [vx]; omega] at g
      rw [e]
      exact WCall.of_taken mixed T11_ok [(11, .bool false), (11, .bool true), (18, .int .i64 ((128 + blen x2 : Nat) : Int))] 40 1 _ (by kernel_rfl) (ob (a := (x3 : Int) != 0) (b := false) (by simpa using p3) (ob (a := (x2 : Int) != 0) (b := true) (by simpa using p2) (oi (a := IntKind.i64.wrap (128 + ((blen x2 : Nat) : Int))) (b := ((128 + blen x2 : Nat) : Int)) (by have := blen_lt h2; rw [IntWalk.i64_in _ (by omega)]; omega) .nil))) rfl rfl
    by_cases p1 : (x1 : Int) ≠ 0
    · have e : blen (vl x0 x1 x2 x3) = 64 + blen x1 := by
        have g := blen_shift (x := vl x0 x1 x2 x3) (k := 64) (by rw [vx]; omega)
        rwa [show vl x0 x1 x2 x3 / 2 ^ 64 = x1 by rw [vx]; omega] at g
      rw [e]
      exact WCall.of_taken mixed T11_ok [(11, .bool false), (11, .bool false), (11, .bool true), (18, .int .i64 ((64 + blen x1 : Nat) : Int))] 40 1 _ (by kernel_rfl) (ob (a := (x3 : Int) != 0) (b := false) (by simpa using p3) (ob (a := (x2 : Int) != 0) (b := false) (by simpa using p2) (ob (a := (x1 : Int) != 0) (b := true) (by simpa using p1) (oi (a := IntKind.i64.wrap (64 + ((blen x1 : Nat) : Int))) (b := ((64 + blen x1 : Nat) : Int)) (by have := blen_lt h1; rw [IntWalk.i64_in _ (by omega)]; omega) .nil)))) rfl rfl
    by_cases p0 : (x0 : Int) ≠ 0
    · have e : blen (vl x0 x1 x2 x3) = 0 + blen x0 := by
        rw [Nat.zero_add, show vl x0 x1 x2 x3 = x0 by rw [vx]; omega]
      rw [e]
      exact WCall.of_taken mixed T11_ok [(11, .bool false), (11, .bool false), (11, .bool false), (11, .bool true), (18, .int .i64 ((0 + blen x0 : Nat) : Int))] 40 1 _ (by kernel_rfl) (ob (a := (x3 : Int) != 0) (b := false) (by simpa using p3) (ob (a := (x2 : Int) != 0) (b := false) (by simpa using p2) (ob (a := (x1 : Int) != 0) (b := false) (by simpa using p1) (ob (a := (x0 : Int) != 0) (b := true) (by simpa using p0) (oi (a := IntKind.i64.wrap (0 + ((blen x0 : Nat) : Int))) (b := ((0 + blen x0 : Nat) : Int)) (by have := blen_lt h0; rw [IntWalk.i64_in _ (by omega)]; omega) .nil))))) rfl rfl
    rw [show vl x0 x1 x2 x3 = 0 by rw [vx]; omega, blen_zero]
    exact WCall.of_taken mixed T11_ok [(11, .bool false), (11, .bool false), (11, .bool false), (11, .bool false)] 40 1 _ (by kernel_rfl) (ob (a := (x3 : Int) != 0) (b := false) (by simpa using p3) (ob (a := (x2 : Int) != 0) (b := false) (by simpa using p2) (ob (a := (x1 : Int) != 0) (b := false) (by simpa using p1) (ob (a := (x0 : Int) != 0) (b := false) (by simpa using p0) .nil)))) rfl rfl
  · cases h
def T12 : Tbl := (36, lenG) :: T11
theorem T12_ok : ∀ p ∈ T12, WCon Try.prog p.1 p.2 := WCons.cons len_con T11_ok
end Go.Proofs.Ytninlahlmjhmhaa
