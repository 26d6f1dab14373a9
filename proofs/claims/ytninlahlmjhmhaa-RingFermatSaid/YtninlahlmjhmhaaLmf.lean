import Derived.Test.YtninlahlmjhmhaaLme
namespace Go.Proofs.Ytninlahlmjhmhaa
open Go.Ab

theorem stepL {x y o c : Nat} (hx : x < 18446744073709551616) (hy : y < 18446744073709551616) (ho : o < 18446744073709551616) (hc : c < 18446744073709551616) :
    ∃ lo k : Nat, lo < 18446744073709551616 ∧ k < 18446744073709551616 ∧ x * y + o + c = lo + 18446744073709551616 * k ∧ (((x * y + o + c) % 18446744073709551616 : Nat) : Int) = (lo : Int) ∧ (((x * y + o + c) / 18446744073709551616 : Nat) : Int) = (k : Int) := by
  have h : x * y ≤ 18446744073709551615 * 18446744073709551615 := Nat.mul_le_mul (by omega) (by omega)
  generalize x * y = P at *
  exact ⟨(P + o + c) % 18446744073709551616, (P + o + c) / 18446744073709551616, by omega, by omega, by omega, rfl, rfl⟩
theorem w64_head {d V : Nat} (hd : d < 18446744073709551616) : w64 (d + 18446744073709551616 * V) 0 = (d : Int) := by
  unfold w64; congr 1; omega
theorem w64_tail {d V : Nat} (hd : d < 18446744073709551616) (k : Nat) : w64 (d + 18446744073709551616 * V) (k + 1) = w64 V k := by
  unfold w64
  have h : 64 * (k + 1) = 64 + 64 * k := by omega
  have h2 : (d + 18446744073709551616 * V) / 18446744073709551616 = V := by omega
  rw [h, Nat.pow_add, ← Nat.div_div_eq_div_mul, show (2 : Nat) ^ 64 = 18446744073709551616 from rfl, h2]
theorem wide_words {d0 d1 d2 d3 d4 d5 d6 d7 V : Nat} (h0 : d0 < 18446744073709551616) (h1 : d1 < 18446744073709551616) (h2 : d2 < 18446744073709551616) (h3 : d3 < 18446744073709551616) (h4 : d4 < 18446744073709551616) (h5 : d5 < 18446744073709551616) (h6 : d6 < 18446744073709551616) (h7 : d7 < 18446744073709551616)
    (hV : V = d0 + 18446744073709551616 * (d1 + 18446744073709551616 * (d2 + 18446744073709551616 * (d3 + 18446744073709551616 * (d4 + 18446744073709551616 * (d5 + 18446744073709551616 * (d6 + 18446744073709551616 * (d7 + 18446744073709551616 * 0)))))))) :
    wideV V = .agg ⟨[u64 d0, u64 d1, u64 d2, u64 d3, u64 d4, u64 d5, u64 d6, u64 d7]⟩ := by
  unfold wideV
  rw [hV]
  simp only [w64_head h0, w64_head h1, w64_head h2, w64_head h3, w64_head h4, w64_head h5, w64_head h6, w64_head h7, w64_tail h0, w64_tail h1, w64_tail h2, w64_tail h3, w64_tail h4, w64_tail h5, w64_tail h6]
theorem mul4 (x y0 y1 y2 y3 : Nat) : x * (y0 + 2 ^ 64 * y1 + 2 ^ 128 * y2 + 2 ^ 192 * y3) = x * y0 + 2 ^ 64 * (x * y1) + 2 ^ 128 * (x * y2) + 2 ^ 192 * (x * y3) := by
  rw [Nat.mul_add, Nat.mul_add, Nat.mul_add, Nat.mul_left_comm x, Nat.mul_left_comm x, Nat.mul_left_comm x]

theorem mul_row {x y0 y1 y2 y3 o0 o1 o2 o3 l0 l1 l2 l3 c0 c1 c2 c3 : Nat} (e0 : x * y0 + o0 + 0 = l0 + 18446744073709551616 * c0) (e1 : x * y1 + o1 + c0 = l1 + 18446744073709551616 * c1) (e2 : x * y2 + o2 + c1 = l2 + 18446744073709551616 * c2) (e3 : x * y3 + o3 + c2 = l3 + 18446744073709551616 * c3) :
    x * (y0 + 2 ^ 64 * y1 + 2 ^ 128 * y2 + 2 ^ 192 * y3) + (o0 + 2 ^ 64 * o1 + 2 ^ 128 * o2 + 2 ^ 192 * o3) = l0 + 18446744073709551616 * (l1 + 2 ^ 64 * l2 + 2 ^ 128 * l3 + 2 ^ 192 * c3) := by
  rw [mul4]
  generalize x * y0 = p0 at *
  generalize x * y1 = p1 at *
  generalize x * y2 = p2 at *
  generalize x * y3 = p3 at *
  omega
theorem rows4 {x0 x1 x2 x3 Y l00 l10 l20 l30 l31 l32 l33 c33 r0 r1 r2 : Nat} (e0 : x0 * Y + (0 + 2 ^ 64 * 0 + 2 ^ 128 * 0 + 2 ^ 192 * 0) = l00 + 18446744073709551616 * r0) (e1 : x1 * Y + r0 = l10 + 18446744073709551616 * r1) (e2 : x2 * Y + r1 = l20 + 18446744073709551616 * r2)
    (e3 : x3 * Y + r2 = l30 + 18446744073709551616 * (l31 + 2 ^ 64 * l32 + 2 ^ 128 * l33 + 2 ^ 192 * c33)) :
    (x0 + 2 ^ 64 * x1 + 2 ^ 128 * x2 + 2 ^ 192 * x3) * Y = l00 + 18446744073709551616 * (l10 + 18446744073709551616 * (l20 + 18446744073709551616 * (l30 + 18446744073709551616 * (l31 + 18446744073709551616 * (l32 + 18446744073709551616 * (l33 + 18446744073709551616 * (c33 + 18446744073709551616 * 0))))))) := by
  rw [Nat.add_mul, Nat.add_mul, Nat.add_mul, Nat.mul_assoc, Nat.mul_assoc, Nat.mul_assoc]
  generalize x0 * Y = q0 at *
  generalize x1 * Y = q1 at *
  generalize x2 * Y = q2 at *
  generalize x3 * Y = q3 at *
  omega

def mulG : List Value → Option Value
  | [.agg ⟨[.int .u64 a0, .int .u64 a1, .int .u64 a2, .int .u64 a3]⟩, .agg ⟨[.int .u64 b0, .int .u64 b1, .int .u64 b2, .int .u64 b3]⟩] => some (wideV (vl a0 a1 a2 a3 * vl b0 b1 b2 b3))
  | _ => none
theorem mul_con : WCon Try.prog 31 mulG := by
  intro l v h hw
  unfold mulG at h
  split at h
  · rename_i a0 a1 a2 a3 b0 b1 b2 b3
    injection h with h; subst h
    obtain ⟨x0, x1, x2, x3, h0, h1, h2, h3, rfl, rfl, rfl, rfl⟩ := bits4 (hw (.agg ⟨[.int .u64 a0, .int .u64 a1, .int .u64 a2, .int .u64 a3]⟩) (by simp))
    obtain ⟨y0, y1, y2, y3, k0, k1, k2, k3, rfl, rfl, rfl, rfl⟩ := bits4 (hw (.agg ⟨[.int .u64 b0, .int .u64 b1, .int .u64 b2, .int .u64 b3]⟩) (by simp))
    revert hw
    have hz : 0 < 18446744073709551616 := by omega
    obtain ⟨l00, c00, b00, d00, e00, f00, g00⟩ := stepL (x := x0) (y := y0) (o := 0) (c := 0) h0 k0 hz hz
    obtain ⟨l01, c01, b01, d01, e01, f01, g01⟩ := stepL (x := x0) (y := y1) (o := 0) (c := c00) h0 k1 hz d00
    obtain ⟨l02, c02, b02, d02, e02, f02, g02⟩ := stepL (x := x0) (y := y2) (o := 0) (c := c01) h0 k2 hz d01
    obtain ⟨l03, c03, b03, d03, e03, f03, g03⟩ := stepL (x := x0) (y := y3) (o := 0) (c := c02) h0 k3 hz d02
    obtain ⟨l10, c10, b10, d10, e10, f10, g10⟩ := stepL (x := x1) (y := y0) (o := l01) (c := 0) h1 k0 b01 hz
    obtain ⟨l11, c11, b11, d11, e11, f11, g11⟩ := stepL (x := x1) (y := y1) (o := l02) (c := c10) h1 k1 b02 d10
    obtain ⟨l12, c12, b12, d12, e12, f12, g12⟩ := stepL (x := x1) (y := y2) (o := l03) (c := c11) h1 k2 b03 d11
    obtain ⟨l13, c13, b13, d13, e13, f13, g13⟩ := stepL (x := x1) (y := y3) (o := c03) (c := c12) h1 k3 d03 d12
    obtain ⟨l20, c20, b20, d20, e20, f20, g20⟩ := stepL (x := x2) (y := y0) (o := l11) (c := 0) h2 k0 b11 hz
    obtain ⟨l21, c21, b21, d21, e21, f21, g21⟩ := stepL (x := x2) (y := y1) (o := l12) (c := c20) h2 k1 b12 d20
    obtain ⟨l22, c22, b22, d22, e22, f22, g22⟩ := stepL (x := x2) (y := y2) (o := l13) (c := c21) h2 k2 b13 d21
    obtain ⟨l23, c23, b23, d23, e23, f23, g23⟩ := stepL (x := x2) (y := y3) (o := c13) (c := c22) h2 k3 d13 d22
    obtain ⟨l30, c30, b30, d30, e30, f30, g30⟩ := stepL (x := x3) (y := y0) (o := l21) (c := 0) h3 k0 b21 hz
    obtain ⟨l31, c31, b31, d31, e31, f31, g31⟩ := stepL (x := x3) (y := y1) (o := l22) (c := c30) h3 k1 b22 d30
    obtain ⟨l32, c32, b32, d32, e32, f32, g32⟩ := stepL (x := x3) (y := y2) (o := l23) (c := c31) h3 k2 b23 d31
    obtain ⟨l33, c33, b33, d33, e33, f33, g33⟩ := stepL (x := x3) (y := y3) (o := c23) (c := c32) h3 k3 d23 d32
    have hV : vl x0 x1 x2 x3 * vl y0 y1 y2 y3 = l00 + 18446744073709551616 * (l10 + 18446744073709551616 * (l20 + 18446744073709551616 * (l30 + 18446744073709551616 * (l31 + 18446744073709551616 * (l32 + 18446744073709551616 * (l33 + 18446744073709551616 * (c33 + 18446744073709551616 * 0))))))) := by
      rw [vl_nat, vl_nat]
      exact rows4 (mul_row e00 e01 e02 e03) (mul_row e10 e11 e12 e13) (mul_row e20 e21 e22 e23) (mul_row e30 e31 e32 e33)
    rw [wide_words b00 b10 b20 b30 b31 b32 b33 d33 hV]
    clear hV e00 e01 e02 e03 e10 e11 e12 e13 e20 e21 e22 e23 e30 e31 e32 e33
    exact WCall.of_taken mixed T5_ok [(32, u64 l00), (33, u64 c00), (32, u64 l01), (33, u64 c01), (32, u64 l02), (33, u64 c02), (32, u64 l03), (33, u64 c03), (32, u64 l10), (33, u64 c10), (32, u64 l11), (33, u64 c11), (32, u64 l12), (33, u64 c12), (32, u64 l13), (33, u64 c13), (32, u64 l20), (33, u64 c20), (32, u64 l21), (33, u64 c21), (32, u64 l22), (33, u64 c22), (32, u64 l23), (33, u64 c23), (32, u64 l30), (33, u64 c30), (32, u64 l31), (33, u64 c31), (32, u64 l32), (33, u64 c32), (32, u64 l33), (33, u64 c33)] 40 1 _ (by kernel_rfl) (om f00 (om g00 (om f01 (om g01 (om f02 (om g02 (om f03 (om g03 (om f10 (om g10 (om f11 (om g11 (om f12 (om g12 (om f13 (om g13 (om f20 (om g20 (om f21 (om g21 (om f22 (om g22 (om f23 (om g23 (om f30 (om g30 (om f31 (om g31 (om f32 (om g32 (om f33 (om g33 .nil)))))))))))))))))))))))))))))))) rfl rfl
  · cases h
def T6 : Tbl := (31, mulG) :: T5
theorem T6_ok : ∀ p ∈ T6, WCon Try.prog p.1 p.2 := WCons.cons mul_con T5_ok
end Go.Proofs.Ytninlahlmjhmhaa
