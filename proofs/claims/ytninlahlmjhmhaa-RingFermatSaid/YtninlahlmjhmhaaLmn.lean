import Derived.Test.YtninlahlmjhmhaaLmm
namespace Go.Proofs.Ytninlahlmjhmhaa
open Go.Ab

/-- how many bits a number has -/
def blen (x : Nat) : Nat := if x = 0 then 0 else x.log2 + 1
theorem blen_shift {x k : Nat} (h : 2 ^ k ≤ x) : blen x = k + blen (x / 2 ^ k) := by
  have hk : 0 < 2 ^ k := Nat.two_pow_pos k
  have h1 : x / 2 ^ k ≠ 0 := by
    have := Nat.div_pos h hk; omega
  have h0 : x ≠ 0 := by omega
  unfold blen
  rw [if_neg h0, if_neg h1]
  have e := (Nat.log2_eq_iff h1 (k := (x / 2 ^ k).log2)).1 rfl
  have : x.log2 = k + (x / 2 ^ k).log2 := by
    refine (Nat.log2_eq_iff h0).2 ⟨?_, ?_⟩
    · rw [Nat.pow_add]
      exact Nat.le_trans (Nat.mul_le_mul_left _ e.1) (Nat.mul_div_le _ _)
    · rw [Nat.add_assoc, Nat.pow_add, Nat.mul_comm]
      exact (Nat.div_lt_iff_lt_mul hk).1 e.2
  omega
theorem all_of {α : Type} {f g : Nat → α} {n : Nat} (h : (List.range n).map f = (List.range n).map g) {y : Nat} (hy : y < n) : f y = g y := by
  have := congrArg (fun l => l[y]?) h
  simpa [hy] using this
def len64G : List Value → Option Value
  | [.int .u64 x] => some (.int .i64 (blen x.toNat : Nat))
  | _ => none
theorem shr_is (x k : Nat) : (x : Int).fdiv (2 ^ k) = ((x / 2 ^ k : Nat) : Int) := fdiv_pow x k
theorem len_111 (x : Nat) : (List.range 256).map (fun y => shapeF (runFT (cx Try.prog T0) 40 1 [(4, .bool true), (6, u64 (x / 2 ^ 32)), (8, .bool true), (10, u64 ((x / 2 ^ 32) / 2 ^ 16)), (14, .bool true), (16, u64 (((x / 2 ^ 32) / 2 ^ 16) / 2 ^ 8)), (20, u64 y)] 55 [u64 x] [])) = (List.range 256).map (fun y => some (.int .i64 (56 + (blen y : Nat)), [(.bool (decide (((x : Nat) : Int) ≥ 4294967296)), .bool true), (.int .u64 (((x : Nat) : Int).fdiv (2 ^ 32)), u64 (x / 2 ^ 32)), (.bool (decide ((((x / 2 ^ 32) : Nat) : Int) ≥ 65536)), .bool true), (.int .u64 ((((x / 2 ^ 32) : Nat) : Int).fdiv (2 ^ 16)), u64 ((x / 2 ^ 32) / 2 ^ 16)), (.bool (decide (((((x / 2 ^ 32) / 2 ^ 16) : Nat) : Int) ≥ 256)), .bool true), (.int .u64 (((((x / 2 ^ 32) / 2 ^ 16) : Nat) : Int).fdiv (2 ^ 8)), u64 (((x / 2 ^ 32) / 2 ^ 16) / 2 ^ 8)), (u64 (((x / 2 ^ 32) / 2 ^ 16) / 2 ^ 8), u64 y)])) := by kernel_rfl
theorem len_110 (x : Nat) : (List.range 256).map (fun y => shapeF (runFT (cx Try.prog T0) 40 1 [(4, .bool true), (6, u64 (x / 2 ^ 32)), (8, .bool true), (10, u64 ((x / 2 ^ 32) / 2 ^ 16)), (14, .bool false), (20, u64 y)] 55 [u64 x] [])) = (List.range 256).map (fun y => some (.int .i64 (48 + (blen y : Nat)), [(.bool (decide (((x : Nat) : Int) ≥ 4294967296)), .bool true), (.int .u64 (((x : Nat) : Int).fdiv (2 ^ 32)), u64 (x / 2 ^ 32)), (.bool (decide ((((x / 2 ^ 32) : Nat) : Int) ≥ 65536)), .bool true), (.int .u64 ((((x / 2 ^ 32) : Nat) : Int).fdiv (2 ^ 16)), u64 ((x / 2 ^ 32) / 2 ^ 16)), (.bool (decide (((((x / 2 ^ 32) / 2 ^ 16) : Nat) : Int) ≥ 256)), .bool false), (u64 ((x / 2 ^ 32) / 2 ^ 16), u64 y)])) := by kernel_rfl
theorem len_101 (x : Nat) : (List.range 256).map (fun y => shapeF (runFT (cx Try.prog T0) 40 1 [(4, .bool true), (6, u64 (x / 2 ^ 32)), (8, .bool false), (14, .bool true), (16, u64 ((x / 2 ^ 32) / 2 ^ 8)), (20, u64 y)] 55 [u64 x] [])) = (List.range 256).map (fun y => some (.int .i64 (40 + (blen y : Nat)), [(.bool (decide (((x : Nat) : Int) ≥ 4294967296)), .bool true), (.int .u64 (((x : Nat) : Int).fdiv (2 ^ 32)), u64 (x / 2 ^ 32)), (.bool (decide ((((x / 2 ^ 32) : Nat) : Int) ≥ 65536)), .bool false), (.bool (decide ((((x / 2 ^ 32) : Nat) : Int) ≥ 256)), .bool true), (.int .u64 ((((x / 2 ^ 32) : Nat) : Int).fdiv (2 ^ 8)), u64 ((x / 2 ^ 32) / 2 ^ 8)), (u64 ((x / 2 ^ 32) / 2 ^ 8), u64 y)])) := by kernel_rfl
theorem len_100 (x : Nat) : (List.range 256).map (fun y => shapeF (runFT (cx Try.prog T0) 40 1 [(4, .bool true), (6, u64 (x / 2 ^ 32)), (8, .bool false), (14, .bool false), (20, u64 y)] 55 [u64 x] [])) = (List.range 256).map (fun y => some (.int .i64 (32 + (blen y : Nat)), [(.bool (decide (((x : Nat) : Int) ≥ 4294967296)), .bool true), (.int .u64 (((x : Nat) : Int).fdiv (2 ^ 32)), u64 (x / 2 ^ 32)), (.bool (decide ((((x / 2 ^ 32) : Nat) : Int) ≥ 65536)), .bool false), (.bool (decide ((((x / 2 ^ 32) : Nat) : Int) ≥ 256)), .bool false), (u64 (x / 2 ^ 32), u64 y)])) := by kernel_rfl
theorem len_011 (x : Nat) : (List.range 256).map (fun y => shapeF (runFT (cx Try.prog T0) 40 1 [(4, .bool false), (8, .bool true), (10, u64 (x / 2 ^ 16)), (14, .bool true), (16, u64 ((x / 2 ^ 16) / 2 ^ 8)), (20, u64 y)] 55 [u64 x] [])) = (List.range 256).map (fun y => some (.int .i64 (24 + (blen y : Nat)), [(.bool (decide (((x : Nat) : Int) ≥ 4294967296)), .bool false), (.bool (decide (((x : Nat) : Int) ≥ 65536)), .bool true), (.int .u64 (((x : Nat) : Int).fdiv (2 ^ 16)), u64 (x / 2 ^ 16)), (.bool (decide ((((x / 2 ^ 16) : Nat) : Int) ≥ 256)), .bool true), (.int .u64 ((((x / 2 ^ 16) : Nat) : Int).fdiv (2 ^ 8)), u64 ((x / 2 ^ 16) / 2 ^ 8)), (u64 ((x / 2 ^ 16) / 2 ^ 8), u64 y)])) := by kernel_rfl
theorem len_010 (x : Nat) : (List.range 256).map (fun y => shapeF (runFT (cx Try.prog T0) 40 1 [(4, .bool false), (8, .bool true), (10, u64 (x / 2 ^ 16)), (14, .bool false), (20, u64 y)] 55 [u64 x] [])) = (List.range 256).map (fun y => some (.int .i64 (16 + (blen y : Nat)), [(.bool (decide (((x : Nat) : Int) ≥ 4294967296)), .bool false), (.bool (decide (((x : Nat) : Int) ≥ 65536)), .bool true), (.int .u64 (((x : Nat) : Int).fdiv (2 ^ 16)), u64 (x / 2 ^ 16)), (.bool (decide ((((x / 2 ^ 16) : Nat) : Int) ≥ 256)), .bool false), (u64 (x / 2 ^ 16), u64 y)])) := by kernel_rfl
theorem len_001 (x : Nat) : (List.range 256).map (fun y => shapeF (runFT (cx Try.prog T0) 40 1 [(4, .bool false), (8, .bool false), (14, .bool true), (16, u64 (x / 2 ^ 8)), (20, u64 y)] 55 [u64 x] [])) = (List.range 256).map (fun y => some (.int .i64 (8 + (blen y : Nat)), [(.bool (decide (((x : Nat) : Int) ≥ 4294967296)), .bool false), (.bool (decide (((x : Nat) : Int) ≥ 65536)), .bool false), (.bool (decide (((x : Nat) : Int) ≥ 256)), .bool true), (.int .u64 (((x : Nat) : Int).fdiv (2 ^ 8)), u64 (x / 2 ^ 8)), (u64 (x / 2 ^ 8), u64 y)])) := by kernel_rfl
theorem len_000 (x : Nat) : (List.range 256).map (fun y => shapeF (runFT (cx Try.prog T0) 40 1 [(4, .bool false), (8, .bool false), (14, .bool false), (20, u64 y)] 55 [u64 x] [])) = (List.range 256).map (fun y => some (.int .i64 (0 + (blen y : Nat)), [(.bool (decide (((x : Nat) : Int) ≥ 4294967296)), .bool false), (.bool (decide (((x : Nat) : Int) ≥ 65536)), .bool false), (.bool (decide (((x : Nat) : Int) ≥ 256)), .bool false), (u64 x, u64 y)])) := by kernel_rfl
end Go.Proofs.Ytninlahlmjhmhaa
