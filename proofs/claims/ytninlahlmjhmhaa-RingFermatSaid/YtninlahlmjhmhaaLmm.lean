import Derived.Test.YtninlahlmjhmhaaLml
namespace Go.Proofs.Ytninlahlmjhmhaa
open Go.Ab

theorem w64_wdN (X i : Nat) : w64 X i = ((wdN X i : Nat) : Int) := rfl
theorem wdN_vl {x0 x1 x2 x3 : Nat} (h0 : x0 < 18446744073709551616) (h1 : x1 < 18446744073709551616) (h2 : x2 < 18446744073709551616) (h3 : x3 < 18446744073709551616) :
    wdN (vl x0 x1 x2 x3) 0 = x0 ∧ wdN (vl x0 x1 x2 x3) 1 = x1 ∧ wdN (vl x0 x1 x2 x3) 2 = x2 ∧ wdN (vl x0 x1 x2 x3) 3 = x3 ∧ wdN (vl x0 x1 x2 x3) 4 = 0 := by
  rw [vl_nat]
  unfold wdN
  refine ⟨?_, ?_, ?_, ?_, ?_⟩ <;> omega
theorem shl_one {x r : Nat} (hr : r < 64) : IntKind.u64.wrap ((x : Int) * 2 ^ (min r 64)) = ((x * 2 ^ r % 2 ^ 64 : Nat) : Int) := by
  rw [Nat.min_eq_left (by omega), IntKind.wrap_u64]
  have : (x : Int) * 2 ^ r = ((x * 2 ^ r : Nat) : Int) := by simp
  rw [this]; omega
theorem shl_top {x r : Nat} : IntKind.u64.wrap ((x : Int) * 2 ^ (min (64 - r) 64)) = ((x * 2 ^ (64 - r) % 2 ^ 64 : Nat) : Int) := by
  rw [Nat.min_eq_left (by omega), IntKind.wrap_u64]
  have : (x : Int) * 2 ^ (64 - r) = ((x * 2 ^ (64 - r) : Nat) : Int) := by simp
  rw [this]; omega
theorem fdiv_pow (x k : Nat) : (x : Int).fdiv (2 ^ k) = ((x / 2 ^ k : Nat) : Int) := by
  rw [Int.fdiv_eq_ediv_of_nonneg _ (Int.le_of_lt (Int.pow_pos (by omega)))]
  simp
theorem shr_one {x r : Nat} (hr : r < 64) : (x : Int).fdiv (2 ^ (min r 64)) = ((x / 2 ^ r : Nat) : Int) := by rw [Nat.min_eq_left (by omega), fdiv_pow]
theorem shr_top {x r : Nat} : (x : Int).fdiv (2 ^ (min (64 - r) 64)) = ((x / 2 ^ (64 - r) : Nat) : Int) := by rw [Nat.min_eq_left (by omega), fdiv_pow]
theorem div_lt64 {x k : Nat} (hx : x < 18446744073709551616) : x / 2 ^ k < 18446744073709551616 := Nat.lt_of_le_of_lt (Nat.div_le_self _ _) hx
theorem sub64r {r : Nat} (hr : r < 64) : IntKind.u64.wrap (64 - (r : Int)) = ((64 - r : Nat) : Int) := by rw [IntWalk.u64_in _ (by omega)]; omega
theorem oi {a b : Int} {l : Owe} (h : a = b) (hl : l.met) : Owe.met ((.int .i64 a, .int .i64 b) :: l) := .int h hl
theorem ob {a b : Bool} {l : Owe} (h : a = b) (hl : l.met) : Owe.met ((.bool a, .bool b) :: l) := .bool h hl
def upN (V : Nat) (k : Nat) : Nat := V * 2 ^ k
def dnN (V : Nat) (k : Nat) : Nat := V / 2 ^ k
/-- a number, shifted -/
def shiftN (V : Nat) (n : Int) : Nat := if n > 255 then 0 else if n < -255 then 0 else if 0 ≤ n then upN V n.toNat else dnN V (-n).toNat
def shiftG : List Value → Option Value
  | [.agg ⟨[.int .u64 a0, .int .u64 a1, .int .u64 a2, .int .u64 a3]⟩, .int .i64 n] => some (numV (shiftN (vl a0 a1 a2 a3) n))
  | _ => none
theorem up0 {x0 x1 x2 x3 r : Nat} (h0 : x0 < 18446744073709551616) (h1 : x1 < 18446744073709551616) (h2 : x2 < 18446744073709551616) (h3 : x3 < 18446744073709551616) (hr : r < 64) : WCall Try.prog 35 [.agg ⟨[.int .u64 (x0 : Nat), .int .u64 (x1 : Nat), .int .u64 (x2 : Nat), .int .u64 (x3 : Nat)]⟩, .int .i64 ((64 * 0 + r : Nat) : Int)] (numV (vl x0 x1 x2 x3 * 2 ^ (64 * 0 + r))) := by
  obtain ⟨e0, e1, e2, e3, _⟩ := wdN_vl h0 h1 h2 h3
  have w0 : w64 (vl x0 x1 x2 x3 * 2 ^ (64 * 0 + r)) 0 = ((x0 * 2 ^ r % 2 ^ 64 : Nat) : Int) := by rw [w64_wdN, shl_word _ _ _ _ hr (by omega), if_neg (by omega), Nat.or_zero, show 0 - 0 = 0 from rfl, e0]
  have w1 : w64 (vl x0 x1 x2 x3 * 2 ^ (64 * 0 + r)) 1 = (((x1 * 2 ^ r % 2 ^ 64) ||| (x0 / 2 ^ (64 - r)) : Nat) : Int) := by rw [w64_wdN, shl_word _ _ _ _ hr (by omega), if_pos (by omega), show 1 - 0 = 1 from rfl, show 1 - 1 = 0 from rfl, e1, e0]
  have w2 : w64 (vl x0 x1 x2 x3 * 2 ^ (64 * 0 + r)) 2 = (((x2 * 2 ^ r % 2 ^ 64) ||| (x1 / 2 ^ (64 - r)) : Nat) : Int) := by rw [w64_wdN, shl_word _ _ _ _ hr (by omega), if_pos (by omega), show 2 - 0 = 2 from rfl, show 2 - 1 = 1 from rfl, e2, e1]
  have w3 : w64 (vl x0 x1 x2 x3 * 2 ^ (64 * 0 + r)) 3 = (((x3 * 2 ^ r % 2 ^ 64) ||| (x2 / 2 ^ (64 - r)) : Nat) : Int) := by rw [w64_wdN, shl_word _ _ _ _ hr (by omega), if_pos (by omega), show 3 - 0 = 3 from rfl, show 3 - 1 = 2 from rfl, e3, e2]
  unfold numV
  rw [w0, w1, w2, w3]
  exact WCall.of_taken mixed T0_ok [(51, .bool false), (54, .bool false), (58, .bool true), (60, .int .i64 0), (62, .int .i64 (r : Nat)), (63, u64 r), (76, u64 (x0 * 2 ^ r % 2 ^ 64)), (76, u64 (x1 * 2 ^ r % 2 ^ 64)), (91, u64 (64 - r)), (92, u64 (x0 / 2 ^ (64 - r))), (93, u64 ((x1 * 2 ^ r % 2 ^ 64) ||| (x0 / 2 ^ (64 - r)))), (76, u64 (x2 * 2 ^ r % 2 ^ 64)), (91, u64 (64 - r)), (92, u64 (x1 / 2 ^ (64 - r))), (93, u64 ((x2 * 2 ^ r % 2 ^ 64) ||| (x1 / 2 ^ (64 - r)))), (76, u64 (x3 * 2 ^ r % 2 ^ 64)), (91, u64 (64 - r)), (92, u64 (x2 / 2 ^ (64 - r))), (93, u64 ((x3 * 2 ^ r % 2 ^ 64) ||| (x2 / 2 ^ (64 - r))))] 60 1 _ (by kernel_rfl) (ob (a := decide (((64 * 0 + r : Nat) : Int) > 255)) (dec_f (by omega)) (ob (a := decide (((64 * 0 + r : Nat) : Int) < -255)) (dec_f (by omega)) (ob (a := decide (((64 * 0 + r : Nat) : Int) ≥ 0)) (dec_t (by omega)) (oi (a := IntKind.i64.wrap (((64 * 0 + r : Nat) : Int).tdiv 64)) (b := 0) (by rw [Int.tdiv_eq_ediv_of_nonneg (by omega), IntWalk.i64_in _ (by omega)]; omega) (oi (a := ((64 * 0 + r : Nat) : Int).tmod 64) (b := (r : Nat)) (by rw [Int.tmod_eq_emod_of_nonneg (by omega)]; omega) (om (a := IntKind.u64.wrap (r : Int)) (b := (r : Nat)) (by rw [IntWalk.u64_in _ (by omega)]) (om (shl_one (x := x0) hr) (om (shl_one (x := x1) hr) (om (sub64r hr) (om (shr_top (x := x0) (r := r)) (om (bor64_nat (x := x1 * 2 ^ r % 2 ^ 64) (y := x0 / 2 ^ (64 - r)) (Nat.mod_lt _ (by omega)) (div_lt64 h0)) (om (shl_one (x := x2) hr) (om (sub64r hr) (om (shr_top (x := x1) (r := r)) (om (bor64_nat (x := x2 * 2 ^ r % 2 ^ 64) (y := x1 / 2 ^ (64 - r)) (Nat.mod_lt _ (by omega)) (div_lt64 h1)) (om (shl_one (x := x3) hr) (om (sub64r hr) (om (shr_top (x := x2) (r := r)) (om (bor64_nat (x := x3 * 2 ^ r % 2 ^ 64) (y := x2 / 2 ^ (64 - r)) (Nat.mod_lt _ (by omega)) (div_lt64 h2)) .nil))))))))))))))))))) rfl rfl
theorem up1 {x0 x1 x2 x3 r : Nat} (h0 : x0 < 18446744073709551616) (h1 : x1 < 18446744073709551616) (h2 : x2 < 18446744073709551616) (h3 : x3 < 18446744073709551616) (hr : r < 64) : WCall Try.prog 35 [.agg ⟨[.int .u64 (x0 : Nat), .int .u64 (x1 : Nat), .int .u64 (x2 : Nat), .int .u64 (x3 : Nat)]⟩, .int .i64 ((64 * 1 + r : Nat) : Int)] (numV (vl x0 x1 x2 x3 * 2 ^ (64 * 1 + r))) := by
  obtain ⟨e0, e1, e2, e3, _⟩ := wdN_vl h0 h1 h2 h3
  have w0 : w64 (vl x0 x1 x2 x3 * 2 ^ (64 * 1 + r)) 0 = 0 := by rw [w64_wdN, shl_low _ _ _ _ (by omega)]; rfl
  have w1 : w64 (vl x0 x1 x2 x3 * 2 ^ (64 * 1 + r)) 1 = ((x0 * 2 ^ r % 2 ^ 64 : Nat) : Int) := by rw [w64_wdN, shl_word _ _ _ _ hr (by omega), if_neg (by omega), Nat.or_zero, show 1 - 1 = 0 from rfl, e0]
  have w2 : w64 (vl x0 x1 x2 x3 * 2 ^ (64 * 1 + r)) 2 = (((x1 * 2 ^ r % 2 ^ 64) ||| (x0 / 2 ^ (64 - r)) : Nat) : Int) := by rw [w64_wdN, shl_word _ _ _ _ hr (by omega), if_pos (by omega), show 2 - 1 = 1 from rfl, show 1 - 1 = 0 from rfl, e1, e0]
  have w3 : w64 (vl x0 x1 x2 x3 * 2 ^ (64 * 1 + r)) 3 = (((x2 * 2 ^ r % 2 ^ 64) ||| (x1 / 2 ^ (64 - r)) : Nat) : Int) := by rw [w64_wdN, shl_word _ _ _ _ hr (by omega), if_pos (by omega), show 3 - 1 = 2 from rfl, show 2 - 1 = 1 from rfl, e2, e1]
  unfold numV
  rw [w0, w1, w2, w3]
  exact WCall.of_taken mixed T0_ok [(51, .bool false), (54, .bool false), (58, .bool true), (60, .int .i64 1), (62, .int .i64 (r : Nat)), (63, u64 r), (76, u64 (x0 * 2 ^ r % 2 ^ 64)), (76, u64 (x1 * 2 ^ r % 2 ^ 64)), (91, u64 (64 - r)), (92, u64 (x0 / 2 ^ (64 - r))), (93, u64 ((x1 * 2 ^ r % 2 ^ 64) ||| (x0 / 2 ^ (64 - r)))), (76, u64 (x2 * 2 ^ r % 2 ^ 64)), (91, u64 (64 - r)), (92, u64 (x1 / 2 ^ (64 - r))), (93, u64 ((x2 * 2 ^ r % 2 ^ 64) ||| (x1 / 2 ^ (64 - r))))] 60 1 _ (by kernel_rfl) (ob (a := decide (((64 * 1 + r : Nat) : Int) > 255)) (dec_f (by omega)) (ob (a := decide (((64 * 1 + r : Nat) : Int) < -255)) (dec_f (by omega)) (ob (a := decide (((64 * 1 + r : Nat) : Int) ≥ 0)) (dec_t (by omega)) (oi (a := IntKind.i64.wrap (((64 * 1 + r : Nat) : Int).tdiv 64)) (b := 1) (by rw [Int.tdiv_eq_ediv_of_nonneg (by omega), IntWalk.i64_in _ (by omega)]; omega) (oi (a := ((64 * 1 + r : Nat) : Int).tmod 64) (b := (r : Nat)) (by rw [Int.tmod_eq_emod_of_nonneg (by omega)]; omega) (om (a := IntKind.u64.wrap (r : Int)) (b := (r : Nat)) (by rw [IntWalk.u64_in _ (by omega)]) (om (shl_one (x := x0) hr) (om (shl_one (x := x1) hr) (om (sub64r hr) (om (shr_top (x := x0) (r := r)) (om (bor64_nat (x := x1 * 2 ^ r % 2 ^ 64) (y := x0 / 2 ^ (64 - r)) (Nat.mod_lt _ (by omega)) (div_lt64 h0)) (om (shl_one (x := x2) hr) (om (sub64r hr) (om (shr_top (x := x1) (r := r)) (om (bor64_nat (x := x2 * 2 ^ r % 2 ^ 64) (y := x1 / 2 ^ (64 - r)) (Nat.mod_lt _ (by omega)) (div_lt64 h1)) .nil))))))))))))))) rfl rfl
theorem up2 {x0 x1 x2 x3 r : Nat} (h0 : x0 < 18446744073709551616) (h1 : x1 < 18446744073709551616) (h2 : x2 < 18446744073709551616) (h3 : x3 < 18446744073709551616) (hr : r < 64) : WCall Try.prog 35 [.agg ⟨[.int .u64 (x0 : Nat), .int .u64 (x1 : Nat), .int .u64 (x2 : Nat), .int .u64 (x3 : Nat)]⟩, .int .i64 ((64 * 2 + r : Nat) : Int)] (numV (vl x0 x1 x2 x3 * 2 ^ (64 * 2 + r))) := by
  obtain ⟨e0, e1, e2, e3, _⟩ := wdN_vl h0 h1 h2 h3
  have w0 : w64 (vl x0 x1 x2 x3 * 2 ^ (64 * 2 + r)) 0 = 0 := by rw [w64_wdN, shl_low _ _ _ _ (by omega)]; rfl
  have w1 : w64 (vl x0 x1 x2 x3 * 2 ^ (64 * 2 + r)) 1 = 0 := by rw [w64_wdN, shl_low _ _ _ _ (by omega)]; rfl
  have w2 : w64 (vl x0 x1 x2 x3 * 2 ^ (64 * 2 + r)) 2 = ((x0 * 2 ^ r % 2 ^ 64 : Nat) : Int) := by rw [w64_wdN, shl_word _ _ _ _ hr (by omega), if_neg (by omega), Nat.or_zero, show 2 - 2 = 0 from rfl, e0]
  have w3 : w64 (vl x0 x1 x2 x3 * 2 ^ (64 * 2 + r)) 3 = (((x1 * 2 ^ r % 2 ^ 64) ||| (x0 / 2 ^ (64 - r)) : Nat) : Int) := by rw [w64_wdN, shl_word _ _ _ _ hr (by omega), if_pos (by omega), show 3 - 2 = 1 from rfl, show 1 - 1 = 0 from rfl, e1, e0]
  unfold numV
  rw [w0, w1, w2, w3]
  exact WCall.of_taken mixed T0_ok [(51, .bool false), (54, .bool false), (58, .bool true), (60, .int .i64 2), (62, .int .i64 (r : Nat)), (63, u64 r), (76, u64 (x0 * 2 ^ r % 2 ^ 64)), (76, u64 (x1 * 2 ^ r % 2 ^ 64)), (91, u64 (64 - r)), (92, u64 (x0 / 2 ^ (64 - r))), (93, u64 ((x1 * 2 ^ r % 2 ^ 64) ||| (x0 / 2 ^ (64 - r))))] 60 1 _ (by kernel_rfl) (ob (a := decide (((64 * 2 + r : Nat) : Int) > 255)) (dec_f (by omega)) (ob (a := decide (((64 * 2 + r : Nat) : Int) < -255)) (dec_f (by omega)) (ob (a := decide (((64 * 2 + r : Nat) : Int) ≥ 0)) (dec_t (by omega)) (oi (a := IntKind.i64.wrap (((64 * 2 + r : Nat) : Int).tdiv 64)) (b := 2) (by rw [Int.tdiv_eq_ediv_of_nonneg (by omega), IntWalk.i64_in _ (by omega)]; omega) (oi (a := ((64 * 2 + r : Nat) : Int).tmod 64) (b := (r : Nat)) (by rw [Int.tmod_eq_emod_of_nonneg (by omega)]; omega) (om (a := IntKind.u64.wrap (r : Int)) (b := (r : Nat)) (by rw [IntWalk.u64_in _ (by omega)]) (om (shl_one (x := x0) hr) (om (shl_one (x := x1) hr) (om (sub64r hr) (om (shr_top (x := x0) (r := r)) (om (bor64_nat (x := x1 * 2 ^ r % 2 ^ 64) (y := x0 / 2 ^ (64 - r)) (Nat.mod_lt _ (by omega)) (div_lt64 h0)) .nil))))))))))) rfl rfl
theorem up3 {x0 x1 x2 x3 r : Nat} (h0 : x0 < 18446744073709551616) (h1 : x1 < 18446744073709551616) (h2 : x2 < 18446744073709551616) (h3 : x3 < 18446744073709551616) (hr : r < 64) : WCall Try.prog 35 [.agg ⟨[.int .u64 (x0 : Nat), .int .u64 (x1 : Nat), .int .u64 (x2 : Nat), .int .u64 (x3 : Nat)]⟩, .int .i64 ((64 * 3 + r : Nat) : Int)] (numV (vl x0 x1 x2 x3 * 2 ^ (64 * 3 + r))) := by
  obtain ⟨e0, e1, e2, e3, _⟩ := wdN_vl h0 h1 h2 h3
  have w0 : w64 (vl x0 x1 x2 x3 * 2 ^ (64 * 3 + r)) 0 = 0 := by rw [w64_wdN, shl_low _ _ _ _ (by omega)]; rfl
  have w1 : w64 (vl x0 x1 x2 x3 * 2 ^ (64 * 3 + r)) 1 = 0 := by rw [w64_wdN, shl_low _ _ _ _ (by omega)]; rfl
  have w2 : w64 (vl x0 x1 x2 x3 * 2 ^ (64 * 3 + r)) 2 = 0 := by rw [w64_wdN, shl_low _ _ _ _ (by omega)]; rfl
  have w3 : w64 (vl x0 x1 x2 x3 * 2 ^ (64 * 3 + r)) 3 = ((x0 * 2 ^ r % 2 ^ 64 : Nat) : Int) := by rw [w64_wdN, shl_word _ _ _ _ hr (by omega), if_neg (by omega), Nat.or_zero, show 3 - 3 = 0 from rfl, e0]
  unfold numV
  rw [w0, w1, w2, w3]
  exact WCall.of_taken mixed T0_ok [(51, .bool false), (54, .bool false), (58, .bool true), (60, .int .i64 3), (62, .int .i64 (r : Nat)), (63, u64 r), (76, u64 (x0 * 2 ^ r % 2 ^ 64))] 60 1 _ (by kernel_rfl) (ob (a := decide (((64 * 3 + r : Nat) : Int) > 255)) (dec_f (by omega)) (ob (a := decide (((64 * 3 + r : Nat) : Int) < -255)) (dec_f (by omega)) (ob (a := decide (((64 * 3 + r : Nat) : Int) ≥ 0)) (dec_t (by omega)) (oi (a := IntKind.i64.wrap (((64 * 3 + r : Nat) : Int).tdiv 64)) (b := 3) (by rw [Int.tdiv_eq_ediv_of_nonneg (by omega), IntWalk.i64_in _ (by omega)]; omega) (oi (a := ((64 * 3 + r : Nat) : Int).tmod 64) (b := (r : Nat)) (by rw [Int.tmod_eq_emod_of_nonneg (by omega)]; omega) (om (a := IntKind.u64.wrap (r : Int)) (b := (r : Nat)) (by rw [IntWalk.u64_in _ (by omega)]) (om (shl_one (x := x0) hr) .nil))))))) rfl rfl
theorem wdN_high {x0 x1 x2 x3 : Nat} (h0 : x0 < 18446744073709551616) (h1 : x1 < 18446744073709551616) (h2 : x2 < 18446744073709551616) (h3 : x3 < 18446744073709551616) (i : Nat) (hi : 4 ≤ i) : wdN (vl x0 x1 x2 x3) i = 0 := by
  have hV : vl x0 x1 x2 x3 < 2 ^ 256 := by rw [vl_nat]; omega
  unfold wdN
  rw [Nat.div_eq_of_lt (Nat.lt_of_lt_of_le hV (Nat.pow_le_pow_right (by omega) (by omega))), Nat.zero_mod]
theorem dn0 {x0 x1 x2 x3 r : Nat} (h0 : x0 < 18446744073709551616) (h1 : x1 < 18446744073709551616) (h2 : x2 < 18446744073709551616) (h3 : x3 < 18446744073709551616) (hr : r < 64) (hp : 0 < 64 * 0 + r) : WCall Try.prog 35 [.agg ⟨[.int .u64 (x0 : Nat), .int .u64 (x1 : Nat), .int .u64 (x2 : Nat), .int .u64 (x3 : Nat)]⟩, .int .i64 (-((64 * 0 + r : Nat) : Int))] (numV (vl x0 x1 x2 x3 / 2 ^ (64 * 0 + r))) := by
  obtain ⟨e0, e1, e2, e3, e4⟩ := wdN_vl h0 h1 h2 h3
  have ez : ∀ i, 4 ≤ i → wdN (vl x0 x1 x2 x3) i = 0 := wdN_high h0 h1 h2 h3
  have w0 : w64 (vl x0 x1 x2 x3 / 2 ^ (64 * 0 + r)) 0 = (((x0 / 2 ^ r) ||| (x1 * 2 ^ (64 - r) % 2 ^ 64) : Nat) : Int) := by rw [w64_wdN, shr_word _ _ _ _ hr, show 0 + 0 + 1 = 1 from rfl, show 0 + 0 = 0 from rfl, e0, e1]
  have w1 : w64 (vl x0 x1 x2 x3 / 2 ^ (64 * 0 + r)) 1 = (((x1 / 2 ^ r) ||| (x2 * 2 ^ (64 - r) % 2 ^ 64) : Nat) : Int) := by rw [w64_wdN, shr_word _ _ _ _ hr, show 1 + 0 + 1 = 2 from rfl, show 1 + 0 = 1 from rfl, e1, e2]
  have w2 : w64 (vl x0 x1 x2 x3 / 2 ^ (64 * 0 + r)) 2 = (((x2 / 2 ^ r) ||| (x3 * 2 ^ (64 - r) % 2 ^ 64) : Nat) : Int) := by rw [w64_wdN, shr_word _ _ _ _ hr, show 2 + 0 + 1 = 3 from rfl, show 2 + 0 = 2 from rfl, e2, e3]
  have w3 : w64 (vl x0 x1 x2 x3 / 2 ^ (64 * 0 + r)) 3 = ((x3 / 2 ^ r : Nat) : Int) := by rw [w64_wdN, shr_word _ _ _ _ hr, ez (3 + 0 + 1) (by omega), show 3 + 0 = 3 from rfl, e3, Nat.zero_mul, Nat.zero_mod, Nat.or_zero]
  unfold numV
  rw [w0, w1, w2, w3]
  exact WCall.of_taken mixed T0_ok [(51, .bool false), (54, .bool false), (58, .bool false), (13, .int .i64 ((64 * 0 + r : Nat) : Int)), (14, .int .i64 0), (16, .int .i64 ((64 * 0 + r : Nat) : Int)), (17, .int .i64 (r : Nat)), (18, u64 r), (31, u64 (x0 / 2 ^ r)), (45, u64 (64 - r)), (46, u64 (x1 * 2 ^ (64 - r) % 2 ^ 64)), (47, u64 ((x0 / 2 ^ r) ||| (x1 * 2 ^ (64 - r) % 2 ^ 64))), (31, u64 (x1 / 2 ^ r)), (45, u64 (64 - r)), (46, u64 (x2 * 2 ^ (64 - r) % 2 ^ 64)), (47, u64 ((x1 / 2 ^ r) ||| (x2 * 2 ^ (64 - r) % 2 ^ 64))), (31, u64 (x2 / 2 ^ r)), (45, u64 (64 - r)), (46, u64 (x3 * 2 ^ (64 - r) % 2 ^ 64)), (47, u64 ((x2 / 2 ^ r) ||| (x3 * 2 ^ (64 - r) % 2 ^ 64))), (31, u64 (x3 / 2 ^ r))] 60 1 _ (by kernel_rfl) (ob (a := decide (-((64 * 0 + r : Nat) : Int) > 255)) (dec_f (by omega)) (ob (a := decide (-((64 * 0 + r : Nat) : Int) < -255)) (dec_f (by omega)) (ob (a := decide (-((64 * 0 + r : Nat) : Int) ≥ 0)) (dec_f (by omega)) (oi (a := IntKind.i64.wrap (0 - -((64 * 0 + r : Nat) : Int))) (b := ((64 * 0 + r : Nat) : Int)) (by rw [IntWalk.i64_in _ (by omega)]; omega) (oi (a := IntKind.i64.wrap (((64 * 0 + r : Nat) : Int).tdiv 64)) (b := 0) (by rw [Int.tdiv_eq_ediv_of_nonneg (by omega), IntWalk.i64_in _ (by omega)]; omega) (oi (a := IntKind.i64.wrap (0 - -((64 * 0 + r : Nat) : Int))) (b := ((64 * 0 + r : Nat) : Int)) (by rw [IntWalk.i64_in _ (by omega)]; omega) (oi (a := ((64 * 0 + r : Nat) : Int).tmod 64) (b := (r : Nat)) (by rw [Int.tmod_eq_emod_of_nonneg (by omega)]; omega) (om (a := IntKind.u64.wrap (r : Int)) (b := (r : Nat)) (by rw [IntWalk.u64_in _ (by omega)]) (om (shr_one (x := x0) hr) (om (sub64r hr) (om (shl_top (x := x1) (r := r)) (om (bor64_nat (x := x0 / 2 ^ r) (y := x1 * 2 ^ (64 - r) % 2 ^ 64) (div_lt64 h0) (Nat.mod_lt _ (by omega))) (om (shr_one (x := x1) hr) (om (sub64r hr) (om (shl_top (x := x2) (r := r)) (om (bor64_nat (x := x1 / 2 ^ r) (y := x2 * 2 ^ (64 - r) % 2 ^ 64) (div_lt64 h1) (Nat.mod_lt _ (by omega))) (om (shr_one (x := x2) hr) (om (sub64r hr) (om (shl_top (x := x3) (r := r)) (om (bor64_nat (x := x2 / 2 ^ r) (y := x3 * 2 ^ (64 - r) % 2 ^ 64) (div_lt64 h2) (Nat.mod_lt _ (by omega))) (om (shr_one (x := x3) hr) .nil))))))))))))))))))))) rfl rfl
theorem dn1 {x0 x1 x2 x3 r : Nat} (h0 : x0 < 18446744073709551616) (h1 : x1 < 18446744073709551616) (h2 : x2 < 18446744073709551616) (h3 : x3 < 18446744073709551616) (hr : r < 64) : WCall Try.prog 35 [.agg ⟨[.int .u64 (x0 : Nat), .int .u64 (x1 : Nat), .int .u64 (x2 : Nat), .int .u64 (x3 : Nat)]⟩, .int .i64 (-((64 * 1 + r : Nat) : Int))] (numV (vl x0 x1 x2 x3 / 2 ^ (64 * 1 + r))) := by
  obtain ⟨e0, e1, e2, e3, e4⟩ := wdN_vl h0 h1 h2 h3
  have ez : ∀ i, 4 ≤ i → wdN (vl x0 x1 x2 x3) i = 0 := wdN_high h0 h1 h2 h3
  have w0 : w64 (vl x0 x1 x2 x3 / 2 ^ (64 * 1 + r)) 0 = (((x1 / 2 ^ r) ||| (x2 * 2 ^ (64 - r) % 2 ^ 64) : Nat) : Int) := by rw [w64_wdN, shr_word _ _ _ _ hr, show 0 + 1 + 1 = 2 from rfl, show 0 + 1 = 1 from rfl, e1, e2]
  have w1 : w64 (vl x0 x1 x2 x3 / 2 ^ (64 * 1 + r)) 1 = (((x2 / 2 ^ r) ||| (x3 * 2 ^ (64 - r) % 2 ^ 64) : Nat) : Int) := by rw [w64_wdN, shr_word _ _ _ _ hr, show 1 + 1 + 1 = 3 from rfl, show 1 + 1 = 2 from rfl, e2, e3]
  have w2 : w64 (vl x0 x1 x2 x3 / 2 ^ (64 * 1 + r)) 2 = ((x3 / 2 ^ r : Nat) : Int) := by rw [w64_wdN, shr_word _ _ _ _ hr, ez (2 + 1 + 1) (by omega), show 2 + 1 = 3 from rfl, e3, Nat.zero_mul, Nat.zero_mod, Nat.or_zero]
  have w3 : w64 (vl x0 x1 x2 x3 / 2 ^ (64 * 1 + r)) 3 = 0 := by rw [w64_wdN, shr_word _ _ _ _ hr, ez _ (by omega), ez _ (by omega), Nat.zero_div, Nat.zero_mul]; rfl
  unfold numV
  rw [w0, w1, w2, w3]
  exact WCall.of_taken mixed T0_ok [(51, .bool false), (54, .bool false), (58, .bool false), (13, .int .i64 ((64 * 1 + r : Nat) : Int)), (14, .int .i64 1), (16, .int .i64 ((64 * 1 + r : Nat) : Int)), (17, .int .i64 (r : Nat)), (18, u64 r), (31, u64 (x1 / 2 ^ r)), (45, u64 (64 - r)), (46, u64 (x2 * 2 ^ (64 - r) % 2 ^ 64)), (47, u64 ((x1 / 2 ^ r) ||| (x2 * 2 ^ (64 - r) % 2 ^ 64))), (31, u64 (x2 / 2 ^ r)), (45, u64 (64 - r)), (46, u64 (x3 * 2 ^ (64 - r) % 2 ^ 64)), (47, u64 ((x2 / 2 ^ r) ||| (x3 * 2 ^ (64 - r) % 2 ^ 64))), (31, u64 (x3 / 2 ^ r))] 60 1 _ (by kernel_rfl) (ob (a := decide (-((64 * 1 + r : Nat) : Int) > 255)) (dec_f (by omega)) (ob (a := decide (-((64 * 1 + r : Nat) : Int) < -255)) (dec_f (by omega)) (ob (a := decide (-((64 * 1 + r : Nat) : Int) ≥ 0)) (dec_f (by omega)) (oi (a := IntKind.i64.wrap (0 - -((64 * 1 + r : Nat) : Int))) (b := ((64 * 1 + r : Nat) : Int)) (by rw [IntWalk.i64_in _ (by omega)]; omega) (oi (a := IntKind.i64.wrap (((64 * 1 + r : Nat) : Int).tdiv 64)) (b := 1) (by rw [Int.tdiv_eq_ediv_of_nonneg (by omega), IntWalk.i64_in _ (by omega)]; omega) (oi (a := IntKind.i64.wrap (0 - -((64 * 1 + r : Nat) : Int))) (b := ((64 * 1 + r : Nat) : Int)) (by rw [IntWalk.i64_in _ (by omega)]; omega) (oi (a := ((64 * 1 + r : Nat) : Int).tmod 64) (b := (r : Nat)) (by rw [Int.tmod_eq_emod_of_nonneg (by omega)]; omega) (om (a := IntKind.u64.wrap (r : Int)) (b := (r : Nat)) (by rw [IntWalk.u64_in _ (by omega)]) (om (shr_one (x := x1) hr) (om (sub64r hr) (om (shl_top (x := x2) (r := r)) (om (bor64_nat (x := x1 / 2 ^ r) (y := x2 * 2 ^ (64 - r) % 2 ^ 64) (div_lt64 h1) (Nat.mod_lt _ (by omega))) (om (shr_one (x := x2) hr) (om (sub64r hr) (om (shl_top (x := x3) (r := r)) (om (bor64_nat (x := x2 / 2 ^ r) (y := x3 * 2 ^ (64 - r) % 2 ^ 64) (div_lt64 h2) (Nat.mod_lt _ (by omega))) (om (shr_one (x := x3) hr) .nil))))))))))))))))) rfl rfl
theorem dn2 {x0 x1 x2 x3 r : Nat} (h0 : x0 < 18446744073709551616) (h1 : x1 < 18446744073709551616) (h2 : x2 < 18446744073709551616) (h3 : x3 < 18446744073709551616) (hr : r < 64) : WCall Try.prog 35 [.agg ⟨[.int .u64 (x0 : Nat), .int .u64 (x1 : Nat), .int .u64 (x2 : Nat), .int .u64 (x3 : Nat)]⟩, .int .i64 (-((64 * 2 + r : Nat) : Int))] (numV (vl x0 x1 x2 x3 / 2 ^ (64 * 2 + r))) := by
  obtain ⟨e0, e1, e2, e3, e4⟩ := wdN_vl h0 h1 h2 h3
  have ez : ∀ i, 4 ≤ i → wdN (vl x0 x1 x2 x3) i = 0 := wdN_high h0 h1 h2 h3
  have w0 : w64 (vl x0 x1 x2 x3 / 2 ^ (64 * 2 + r)) 0 = (((x2 / 2 ^ r) ||| (x3 * 2 ^ (64 - r) % 2 ^ 64) : Nat) : Int) := by rw [w64_wdN, shr_word _ _ _ _ hr, show 0 + 2 + 1 = 3 from rfl, show 0 + 2 = 2 from rfl, e2, e3]
  have w1 : w64 (vl x0 x1 x2 x3 / 2 ^ (64 * 2 + r)) 1 = ((x3 / 2 ^ r : Nat) : Int) := by rw [w64_wdN, shr_word _ _ _ _ hr, ez (1 + 2 + 1) (by omega), show 1 + 2 = 3 from rfl, e3, Nat.zero_mul, Nat.zero_mod, Nat.or_zero]
  have w2 : w64 (vl x0 x1 x2 x3 / 2 ^ (64 * 2 + r)) 2 = 0 := by rw [w64_wdN, shr_word _ _ _ _ hr, ez _ (by omega), ez _ (by omega), Nat.zero_div, Nat.zero_mul]; rfl
  have w3 : w64 (vl x0 x1 x2 x3 / 2 ^ (64 * 2 + r)) 3 = 0 := by rw [w64_wdN, shr_word _ _ _ _ hr, ez _ (by omega), ez _ (by omega), Nat.zero_div, Nat.zero_mul]; rfl
  unfold numV
  rw [w0, w1, w2, w3]
  exact WCall.of_taken mixed T0_ok [(51, .bool false), (54, .bool false), (58, .bool false), (13, .int .i64 ((64 * 2 + r : Nat) : Int)), (14, .int .i64 2), (16, .int .i64 ((64 * 2 + r : Nat) : Int)), (17, .int .i64 (r : Nat)), (18, u64 r), (31, u64 (x2 / 2 ^ r)), (45, u64 (64 - r)), (46, u64 (x3 * 2 ^ (64 - r) % 2 ^ 64)), (47, u64 ((x2 / 2 ^ r) ||| (x3 * 2 ^ (64 - r) % 2 ^ 64))), (31, u64 (x3 / 2 ^ r))] 60 1 _ (by kernel_rfl) (ob (a := decide (-((64 * 2 + r : Nat) : Int) > 255)) (dec_f (by omega)) (ob (a := decide (-((64 * 2 + r : Nat) : Int) < -255)) (dec_f (by omega)) (ob (a := decide (-((64 * 2 + r : Nat) : Int) ≥ 0)) (dec_f (by omega)) (oi (a := IntKind.i64.wrap (0 - -((64 * 2 + r : Nat) : Int))) (b := ((64 * 2 + r : Nat) : Int)) (by rw [IntWalk.i64_in _ (by omega)]; omega) (oi (a := IntKind.i64.wrap (((64 * 2 + r : Nat) : Int).tdiv 64)) (b := 2) (by rw [Int.tdiv_eq_ediv_of_nonneg (by omega), IntWalk.i64_in _ (by omega)]; omega) (oi (a := IntKind.i64.wrap (0 - -((64 * 2 + r : Nat) : Int))) (b := ((64 * 2 + r : Nat) : Int)) (by rw [IntWalk.i64_in _ (by omega)]; omega) (oi (a := ((64 * 2 + r : Nat) : Int).tmod 64) (b := (r : Nat)) (by rw [Int.tmod_eq_emod_of_nonneg (by omega)]; omega) (om (a := IntKind.u64.wrap (r : Int)) (b := (r : Nat)) (by rw [IntWalk.u64_in _ (by omega)]) (om (shr_one (x := x2) hr) (om (sub64r hr) (om (shl_top (x := x3) (r := r)) (om (bor64_nat (x := x2 / 2 ^ r) (y := x3 * 2 ^ (64 - r) % 2 ^ 64) (div_lt64 h2) (Nat.mod_lt _ (by omega))) (om (shr_one (x := x3) hr) .nil))))))))))))) rfl rfl
theorem dn3 {x0 x1 x2 x3 r : Nat} (h0 : x0 < 18446744073709551616) (h1 : x1 < 18446744073709551616) (h2 : x2 < 18446744073709551616) (h3 : x3 < 18446744073709551616) (hr : r < 64) : WCall Try.prog 35 [.agg ⟨[.int .u64 (x0 : Nat), .int .u64 (x1 : Nat), .int .u64 (x2 : Nat), .int .u64 (x3 : Nat)]⟩, .int .i64 (-((64 * 3 + r : Nat) : Int))] (numV (vl x0 x1 x2 x3 / 2 ^ (64 * 3 + r))) := by
  obtain ⟨e0, e1, e2, e3, e4⟩ := wdN_vl h0 h1 h2 h3
  have ez : ∀ i, 4 ≤ i → wdN (vl x0 x1 x2 x3) i = 0 := wdN_high h0 h1 h2 h3
  have w0 : w64 (vl x0 x1 x2 x3 / 2 ^ (64 * 3 + r)) 0 = ((x3 / 2 ^ r : Nat) : Int) := by rw [w64_wdN, shr_word _ _ _ _ hr, ez (0 + 3 + 1) (by omega), show 0 + 3 = 3 from rfl, e3, Nat.zero_mul, Nat.zero_mod, Nat.or_zero]
  have w1 : w64 (vl x0 x1 x2 x3 / 2 ^ (64 * 3 + r)) 1 = 0 := by rw [w64_wdN, shr_word _ _ _ _ hr, ez _ (by omega), ez _ (by omega), Nat.zero_div, Nat.zero_mul]; rfl
  have w2 : w64 (vl x0 x1 x2 x3 / 2 ^ (64 * 3 + r)) 2 = 0 := by rw [w64_wdN, shr_word _ _ _ _ hr, ez _ (by omega), ez _ (by omega), Nat.zero_div, Nat.zero_mul]; rfl
  have w3 : w64 (vl x0 x1 x2 x3 / 2 ^ (64 * 3 + r)) 3 = 0 := by rw [w64_wdN, shr_word _ _ _ _ hr, ez _ (by omega), ez _ (by omega), Nat.zero_div, Nat.zero_mul]; rfl
  unfold numV
  rw [w0, w1, w2, w3]
  exact WCall.of_taken mixed T0_ok [(51, .bool false), (54, .bool false), (58, .bool false), (13, .int .i64 ((64 * 3 + r : Nat) : Int)), (14, .int .i64 3), (16, .int .i64 ((64 * 3 + r : Nat) : Int)), (17, .int .i64 (r : Nat)), (18, u64 r), (31, u64 (x3 / 2 ^ r))] 60 1 _ (by kernel_rfl) (ob (a := decide (-((64 * 3 + r : Nat) : Int) > 255)) (dec_f (by omega)) (ob (a := decide (-((64 * 3 + r : Nat) : Int) < -255)) (dec_f (by omega)) (ob (a := decide (-((64 * 3 + r : Nat) : Int) ≥ 0)) (dec_f (by omega)) (oi (a := IntKind.i64.wrap (0 - -((64 * 3 + r : Nat) : Int))) (b := ((64 * 3 + r : Nat) : Int)) (by rw [IntWalk.i64_in _ (by omega)]; omega) (oi (a := IntKind.i64.wrap (((64 * 3 + r : Nat) : Int).tdiv 64)) (b := 3) (by rw [Int.tdiv_eq_ediv_of_nonneg (by omega), IntWalk.i64_in _ (by omega)]; omega) (oi (a := IntKind.i64.wrap (0 - -((64 * 3 + r : Nat) : Int))) (b := ((64 * 3 + r : Nat) : Int)) (by rw [IntWalk.i64_in _ (by omega)]; omega) (oi (a := ((64 * 3 + r : Nat) : Int).tmod 64) (b := (r : Nat)) (by rw [Int.tmod_eq_emod_of_nonneg (by omega)]; omega) (om (a := IntKind.u64.wrap (r : Int)) (b := (r : Nat)) (by rw [IntWalk.u64_in _ (by omega)]) (om (shr_one (x := x3) hr) .nil))))))))) rfl rfl
theorem shift_con : WCon Try.prog 35 shiftG := by
  intro l v h hw
  unfold shiftG at h
  split at h
  · rename_i a0 a1 a2 a3 n
    injection h with h; subst h
    obtain ⟨x0, x1, x2, x3, h0, h1, h2, h3, rfl, rfl, rfl, rfl⟩ := bits4 (hw (.agg ⟨[.int .u64 a0, .int .u64 a1, .int .u64 a2, .int .u64 a3]⟩) (by simp))
    revert hw
    have z : numV 0 = .agg ⟨[.int .u64 0, .int .u64 0, .int .u64 0, .int .u64 0]⟩ := by unfold numV; simp only [w64_zero]
    unfold shiftN
    by_cases g1 : n > 255
    · rw [if_pos g1, z]
      exact WCall.of_tests mixed T0_ok 60 1 [(51, decide (n > 255), true)] (by kernel_rfl) (tests_cons (dec_t g1) tests_nil) rfl rfl
    by_cases g2 : n < -255
    · rw [if_neg g1, if_pos g2, z]
      exact WCall.of_tests mixed T0_ok 60 1 [(51, decide (n > 255), false), (54, decide (n < -255), true)] (by kernel_rfl) (tests_cons (dec_f g1) (tests_cons (dec_t g2) tests_nil)) rfl rfl
    rw [if_neg g1, if_neg g2]
    by_cases g3 : 0 ≤ n
    · rw [if_pos g3]
      obtain ⟨q, r, hq, hr, hn⟩ : ∃ q r : Nat, q < 4 ∧ r < 64 ∧ n = ((64 * q + r : Nat) : Int) := ⟨n.toNat / 64, n.toNat % 64, by omega, by omega, by omega⟩
      subst hn
      rw [Int.toNat_natCast]
      unfold upN
      obtain rfl | rfl | rfl | rfl : q = 0 ∨ q = 1 ∨ q = 2 ∨ q = 3 := by omega
      · exact up0 h0 h1 h2 h3 hr
      · exact up1 h0 h1 h2 h3 hr
      · exact up2 h0 h1 h2 h3 hr
      · exact up3 h0 h1 h2 h3 hr
    · rw [if_neg g3]
      obtain ⟨q, r, hq, hr, hn⟩ : ∃ q r : Nat, q < 4 ∧ r < 64 ∧ n = -((64 * q + r : Nat) : Int) := ⟨(-n).toNat / 64, (-n).toNat % 64, by omega, by omega, by omega⟩
      have hp : 0 < 64 * q + r := by omega
      subst hn
      rw [Int.neg_neg, Int.toNat_natCast]
      unfold dnN
      obtain rfl | rfl | rfl | rfl : q = 0 ∨ q = 1 ∨ q = 2 ∨ q = 3 := by omega
      · exact dn0 h0 h1 h2 h3 hr hp
      · exact dn1 h0 h1 h2 h3 hr
      · exact dn2 h0 h1 h2 h3 hr
      · exact dn3 h0 h1 h2 h3 hr
  · cases h
def T10 : Tbl := (35, shiftG) :: T9
theorem T10_ok : ∀ p ∈ T10, WCon Try.prog p.1 p.2 := WCons.cons shift_con T9_ok
end Go.Proofs.Ytninlahlmjhmhaa
