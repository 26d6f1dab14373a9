import Derived.Test.YtninlahlmjhmhaaLmh
namespace Go.Proofs.Ytninlahlmjhmhaa
open Go.Ab

/-! ### a pick -/
def bxor64 (a b : Int) : Int := IntKind.u64.wrap (BitVec.ofInt 64 a ^^^ BitVec.ofInt 64 b).toNat
def band64 (a b : Int) : Int := IntKind.u64.wrap (BitVec.ofInt 64 a &&& BitVec.ofInt 64 b).toNat
def bor64 (a b : Int) : Int := IntKind.u64.wrap (BitVec.ofInt 64 a ||| BitVec.ofInt 64 b).toNat
theorem ofInt64 {x : Nat} (hx : x < 18446744073709551616) : (BitVec.ofInt 64 (x : Int)).toNat = x := by rw [BitVec.toNat_ofInt]; omega
theorem bxor64_nat {x y : Nat} (hx : x < 18446744073709551616) (hy : y < 18446744073709551616) : bxor64 x y = ((x ^^^ y : Nat) : Int) := by
  have : x ^^^ y < 2 ^ 64 := Nat.xor_lt_two_pow hx hy
  unfold bxor64; rw [BitVec.toNat_xor, ofInt64 hx, ofInt64 hy, IntWalk.u64_in _ (by omega)]
theorem band64_nat {x y : Nat} (hx : x < 18446744073709551616) (hy : y < 18446744073709551616) : band64 x y = ((x &&& y : Nat) : Int) := by
  have : x &&& y < 2 ^ 64 := Nat.and_lt_two_pow x hy
  unfold band64; rw [BitVec.toNat_and, ofInt64 hx, ofInt64 hy, IntWalk.u64_in _ (by omega)]
theorem bor64_nat {x y : Nat} (hx : x < 18446744073709551616) (hy : y < 18446744073709551616) : bor64 x y = ((x ||| y : Nat) : Int) := by
  have : x ||| y < 2 ^ 64 := Nat.or_lt_two_pow hx hy
  unfold bor64; rw [BitVec.toNat_or, ofInt64 hx, ofInt64 hy, IntWalk.u64_in _ (by omega)]
theorem pick0 {x y : Nat} (hx : x < 18446744073709551616) (hy : y < 18446744073709551616) : bxor64 x (band64 0 (bxor64 x y)) = (x : Int) := by
  have h := Nat.xor_lt_two_pow (n := 64) hx hy
  rw [bxor64_nat hx hy]
  have h0 := band64_nat (x := 0) (y := x ^^^ y) (by omega) h
  rw [Nat.zero_and] at h0
  have h1 := bxor64_nat (x := x) (y := 0) hx (by omega)
  rw [Nat.xor_zero] at h1
  exact (congrArg (bxor64 x) h0).trans h1
theorem pick1 {x y : Nat} (hx : x < 18446744073709551616) (hy : y < 18446744073709551616) : bxor64 x (band64 18446744073709551615 (bxor64 x y)) = (y : Int) := by
  have h := Nat.xor_lt_two_pow (n := 64) hx hy
  rw [bxor64_nat hx hy]
  have h0 := band64_nat (x := 18446744073709551615) (y := x ^^^ y) (by omega) h
  rw [show (18446744073709551615 : Nat) = 2 ^ 64 - 1 from rfl, Nat.and_comm, Nat.and_two_pow_sub_one_eq_mod, Nat.mod_eq_of_lt h] at h0
  have h1 := bxor64_nat (x := x) (y := x ^^^ y) hx h
  rw [← Nat.xor_assoc, Nat.xor_self, Nat.zero_xor] at h1
  exact (congrArg (bxor64 x) h0).trans h1
def pk (c a b : Int) : Int := if c.toNat % 2 = 1 then b else a
theorem pk0 {c a b : Int} (h : c.toNat % 2 = 0) : pk c a b = a := by unfold pk; rw [if_neg (by omega)]
theorem pk1 {c a b : Int} (h : c.toNat % 2 = 1) : pk c a b = b := by unfold pk; rw [if_pos h]
def pickG : List Value → Option Value
  | [.int .u64 c, .agg ⟨[.int .u64 a0, .int .u64 a1, .int .u64 a2, .int .u64 a3]⟩, .agg ⟨[.int .u64 b0, .int .u64 b1, .int .u64 b2, .int .u64 b3]⟩] => some (.agg ⟨[.int .u64 (pk c a0 b0), .int .u64 (pk c a1 b1), .int .u64 (pk c a2 b2), .int .u64 (pk c a3 b3)]⟩)
  | _ => none
theorem pick_con : WCon Try.prog 23 pickG := by
  intro l v h hw
  unfold pickG at h
  split at h
  · rename_i c a0 a1 a2 a3 b0 b1 b2 b3
    injection h with h; subst h
    obtain ⟨c, hc, rfl⟩ := of_u64 (wf_cellof (hw (.int .u64 c) (by simp)))
    obtain ⟨x0, x1, x2, x3, h0, h1, h2, h3, rfl, rfl, rfl, rfl⟩ := bits4 (hw (.agg ⟨[.int .u64 a0, .int .u64 a1, .int .u64 a2, .int .u64 a3]⟩) (by simp))
    obtain ⟨y0, y1, y2, y3, k0, k1, k2, k3, rfl, rfl, rfl, rfl⟩ := bits4 (hw (.agg ⟨[.int .u64 b0, .int .u64 b1, .int .u64 b2, .int .u64 b3]⟩) (by simp))
    revert hw
    have hand : band64 c 1 = ((c % 2 : Nat) : Int) := by
      have := band64_nat (x := c) (y := 1) hc (by omega)
      rw [Nat.and_one_is_mod] at this; exact this
    rcases Nat.mod_two_eq_zero_or_one c with p | p
    · rw [pk0 (by simpa using p), pk0 (by simpa using p), pk0 (by simpa using p), pk0 (by simpa using p)]
      rw [p] at hand
      exact WCall.of_taken mixed T0_ok [(10, u64 0), (27, u64 x0), (27, u64 x1), (27, u64 x2), (27, u64 x3)] 40 1 _ (by kernel_rfl) (om hand (om (pick0 h0 k0) (om (pick0 h1 k1) (om (pick0 h2 k2) (om (pick0 h3 k3) .nil))))) rfl rfl
    · rw [pk1 (by simpa using p), pk1 (by simpa using p), pk1 (by simpa using p), pk1 (by simpa using p)]
      rw [p] at hand
      exact WCall.of_taken mixed T0_ok [(10, u64 1), (27, u64 y0), (27, u64 y1), (27, u64 y2), (27, u64 y3)] 40 1 _ (by kernel_rfl) (om hand (om (pick1 h0 k0) (om (pick1 h1 k1) (om (pick1 h2 k2) (om (pick1 h3 k3) .nil))))) rfl rfl
  · cases h

/-! ### bytes -/
def byt (a : Int) (j : Nat) : Int := ((a.toNat / 2 ^ (8 * j) % 256 : Nat) : Int)
theorem byt_eq (x j : Nat) : IntKind.u8.wrap ((x : Int).fdiv (2 ^ (8 * j))) = byt x j := by
  unfold byt
  have h : (x : Int).fdiv (2 ^ (8 * j)) = ((x / 2 ^ (8 * j) : Nat) : Int) := by
    rw [Int.fdiv_eq_ediv_of_nonneg _ (Int.le_of_lt (Int.pow_pos (by omega)))]
    simp
  rw [h, IntKind.wrap_u8, Int.toNat_natCast]; omega
theorem om8 {a b : Int} {l : Owe} (h : a = b) (hl : l.met) : Owe.met ((.int .u8 a, .int .u8 b) :: l) := .int h hl
def bytesG : List Value → Option Value
  | [.agg ⟨[.int .u64 a0, .int .u64 a1, .int .u64 a2, .int .u64 a3]⟩] => some (.agg ⟨[.int .u8 (byt a0 0), .int .u8 (byt a0 1), .int .u8 (byt a0 2), .int .u8 (byt a0 3), .int .u8 (byt a0 4), .int .u8 (byt a0 5), .int .u8 (byt a0 6), .int .u8 (byt a0 7), .int .u8 (byt a1 0), .int .u8 (byt a1 1), .int .u8 (byt a1 2), .int .u8 (byt a1 3), .int .u8 (byt a1 4), .int .u8 (byt a1 5), .int .u8 (byt a1 6), .int .u8 (byt a1 7), .int .u8 (byt a2 0), .int .u8 (byt a2 1), .int .u8 (byt a2 2), .int .u8 (byt a2 3), .int .u8 (byt a2 4), .int .u8 (byt a2 5), .int .u8 (byt a2 6), .int .u8 (byt a2 7), .int .u8 (byt a3 0), .int .u8 (byt a3 1), .int .u8 (byt a3 2), .int .u8 (byt a3 3), .int .u8 (byt a3 4), .int .u8 (byt a3 5), .int .u8 (byt a3 6), .int .u8 (byt a3 7)]⟩)
  | _ => none
theorem bytes_con : WCon Try.prog 25 bytesG := by
  intro l v h hw
  unfold bytesG at h
  split at h
  · rename_i a0 a1 a2 a3
    injection h with h; subst h
    obtain ⟨x0, x1, x2, x3, h0, h1, h2, h3, rfl, rfl, rfl, rfl⟩ := bits4 (hw (.agg ⟨[.int .u64 a0, .int .u64 a1, .int .u64 a2, .int .u64 a3]⟩) (by simp))
    revert hw
    exact WCall.of_taken mixed T0_ok [(18, .int .u8 (byt x0 0)), (18, .int .u8 (byt x0 1)), (18, .int .u8 (byt x0 2)), (18, .int .u8 (byt x0 3)), (18, .int .u8 (byt x0 4)), (18, .int .u8 (byt x0 5)), (18, .int .u8 (byt x0 6)), (18, .int .u8 (byt x0 7)), (18, .int .u8 (byt x1 0)), (18, .int .u8 (byt x1 1)), (18, .int .u8 (byt x1 2)), (18, .int .u8 (byt x1 3)), (18, .int .u8 (byt x1 4)), (18, .int .u8 (byt x1 5)), (18, .int .u8 (byt x1 6)), (18, .int .u8 (byt x1 7)), (18, .int .u8 (byt x2 0)), (18, .int .u8 (byt x2 1)), (18, .int .u8 (byt x2 2)), (18, .int .u8 (byt x2 3)), (18, .int .u8 (byt x2 4)), (18, .int .u8 (byt x2 5)), (18, .int .u8 (byt x2 6)), (18, .int .u8 (byt x2 7)), (18, .int .u8 (byt x3 0)), (18, .int .u8 (byt x3 1)), (18, .int .u8 (byt x3 2)), (18, .int .u8 (byt x3 3)), (18, .int .u8 (byt x3 4)), (18, .int .u8 (byt x3 5)), (18, .int .u8 (byt x3 6)), (18, .int .u8 (byt x3 7))] 80 1 _ (by kernel_rfl) (om8 (byt_eq x0 0) (om8 (byt_eq x0 1) (om8 (byt_eq x0 2) (om8 (byt_eq x0 3) (om8 (byt_eq x0 4) (om8 (byt_eq x0 5) (om8 (byt_eq x0 6) (om8 (byt_eq x0 7) (om8 (byt_eq x1 0) (om8 (byt_eq x1 1) (om8 (byt_eq x1 2) (om8 (byt_eq x1 3) (om8 (byt_eq x1 4) (om8 (byt_eq x1 5) (om8 (byt_eq x1 6) (om8 (byt_eq x1 7) (om8 (byt_eq x2 0) (om8 (byt_eq x2 1) (om8 (byt_eq x2 2) (om8 (byt_eq x2 3) (om8 (byt_eq x2 4) (om8 (byt_eq x2 5) (om8 (byt_eq x2 6) (om8 (byt_eq x2 7) (om8 (byt_eq x3 0) (om8 (byt_eq x3 1) (om8 (byt_eq x3 2) (om8 (byt_eq x3 3) (om8 (byt_eq x3 4) (om8 (byt_eq x3 5) (om8 (byt_eq x3 6) (om8 (byt_eq x3 7) (.nil))))))))))))))))))))))))))))))))) rfl rfl
  · cases h

def wd (s0 s1 s2 s3 s4 s5 s6 s7 : Int) : Nat := s0.toNat + 2 ^ 8 * s1.toNat + 2 ^ 16 * s2.toNat + 2 ^ 24 * s3.toNat + 2 ^ 32 * s4.toNat + 2 ^ 40 * s5.toNat + 2 ^ 48 * s6.toNat + 2 ^ 56 * s7.toNat
theorem or_step {p s j : Nat} (hj : j < 8) (hp : p < 2 ^ (8 * j)) (hs : s < 256) : bor64 p (IntKind.u64.wrap (IntKind.u64.wrap (s : Int) * 2 ^ (8 * j))) = ((p + 2 ^ (8 * j) * s : Nat) : Int) := by
  have hb : 2 ^ (8 * j) * s < 18446744073709551616 := by
    have h1 : 2 ^ (8 * j) * s ≤ 2 ^ (8 * j) * 255 := Nat.mul_le_mul_left _ (by omega)
    have h2 : 2 ^ (8 * j) ≤ 2 ^ 56 := Nat.pow_le_pow_right (by omega) (by omega)
    omega
  have hq : p < 18446744073709551616 := by
    have h2 : 2 ^ (8 * j) ≤ 2 ^ 56 := Nat.pow_le_pow_right (by omega) (by omega)
    omega
  have e : IntKind.u64.wrap (IntKind.u64.wrap (s : Int) * 2 ^ (8 * j)) = ((2 ^ (8 * j) * s : Nat) : Int) := by
    rw [IntWalk.u64_in (s : Int) (by omega)]
    have : (s : Int) * 2 ^ (8 * j) = ((2 ^ (8 * j) * s : Nat) : Int) := by rw [Int.mul_comm]; simp
    rw [this, IntWalk.u64_in _ (by omega)]
  rw [e, bor64_nat hq hb, Nat.or_comm, ← Nat.two_pow_add_eq_or_of_lt hp, Nat.add_comm]
theorem of_u8 {a : Int} (h : wfcB (.int .u8 a) = true) : ∃ n : Nat, n < 256 ∧ a = (n : Int) := by
  have := wfcB_int.1 h rfl
  simp [IntKind.max, IntKind.bits, IntKind.signed] at this
  exact ⟨a.toNat, by omega, by omega⟩
theorem word_met {t0 t1 t2 t3 t4 t5 t6 t7 : Nat} (h0 : t0 < 256) (h1 : t1 < 256) (h2 : t2 < 256) (h3 : t3 < 256) (h4 : t4 < 256) (h5 : t5 < 256) (h6 : t6 < 256) (h7 : t7 < 256) {l : Owe} (hl : l.met) : Owe.met ((.int .u64 (bor64 ((0 : Nat) : Int) (IntKind.u64.wrap (IntKind.u64.wrap (t0 : Int) * 2 ^ (8 * 0)))), u64 (t0)) :: (.int .u64 (bor64 ((t0 : Nat) : Int) (IntKind.u64.wrap (IntKind.u64.wrap (t1 : Int) * 2 ^ (8 * 1)))), u64 (t0 + 2 ^ 8 * t1)) :: (.int .u64 (bor64 ((t0 + 2 ^ 8 * t1 : Nat) : Int) (IntKind.u64.wrap (IntKind.u64.wrap (t2 : Int) * 2 ^ (8 * 2)))), u64 (t0 + 2 ^ 8 * t1 + 2 ^ 16 * t2)) :: (.int .u64 (bor64 ((t0 + 2 ^ 8 * t1 + 2 ^ 16 * t2 : Nat) : Int) (IntKind.u64.wrap (IntKind.u64.wrap (t3 : Int) * 2 ^ (8 * 3)))), u64 (t0 + 2 ^ 8 * t1 + 2 ^ 16 * t2 + 2 ^ 24 * t3)) :: (.int .u64 (bor64 ((t0 + 2 ^ 8 * t1 + 2 ^ 16 * t2 + 2 ^ 24 * t3 : Nat) : Int) (IntKind.u64.wrap (IntKind.u64.wrap (t4 : Int) * 2 ^ (8 * 4)))), u64 (t0 + 2 ^ 8 * t1 + 2 ^ 16 * t2 + 2 ^ 24 * t3 + 2 ^ 32 * t4)) :: (.int .u64 (bor64 ((t0 + 2 ^ 8 * t1 + 2 ^ 16 * t2 + 2 ^ 24 * t3 + 2 ^ 32 * t4 : Nat) : Int) (IntKind.u64.wrap (IntKind.u64.wrap (t5 : Int) * 2 ^ (8 * 5)))), u64 (t0 + 2 ^ 8 * t1 + 2 ^ 16 * t2 + 2 ^ 24 * t3 + 2 ^ 32 * t4 + 2 ^ 40 * t5)) :: (.int .u64 (bor64 ((t0 + 2 ^ 8 * t1 + 2 ^ 16 * t2 + 2 ^ 24 * t3 + 2 ^ 32 * t4 + 2 ^ 40 * t5 : Nat) : Int) (IntKind.u64.wrap (IntKind.u64.wrap (t6 : Int) * 2 ^ (8 * 6)))), u64 (t0 + 2 ^ 8 * t1 + 2 ^ 16 * t2 + 2 ^ 24 * t3 + 2 ^ 32 * t4 + 2 ^ 40 * t5 + 2 ^ 48 * t6)) :: (.int .u64 (bor64 ((t0 + 2 ^ 8 * t1 + 2 ^ 16 * t2 + 2 ^ 24 * t3 + 2 ^ 32 * t4 + 2 ^ 40 * t5 + 2 ^ 48 * t6 : Nat) : Int) (IntKind.u64.wrap (IntKind.u64.wrap (t7 : Int) * 2 ^ (8 * 7)))), u64 (t0 + 2 ^ 8 * t1 + 2 ^ 16 * t2 + 2 ^ 24 * t3 + 2 ^ 32 * t4 + 2 ^ 40 * t5 + 2 ^ 48 * t6 + 2 ^ 56 * t7)) :: l) := om ((or_step (p := 0) (s := t0) (j := 0) (by omega) (by omega) h0).trans (by simp)) (om ((or_step (p := t0) (s := t1) (j := 1) (by omega) (by omega) h1)) (om ((or_step (p := t0 + 2 ^ 8 * t1) (s := t2) (j := 2) (by omega) (by omega) h2)) (om ((or_step (p := t0 + 2 ^ 8 * t1 + 2 ^ 16 * t2) (s := t3) (j := 3) (by omega) (by omega) h3)) (om ((or_step (p := t0 + 2 ^ 8 * t1 + 2 ^ 16 * t2 + 2 ^ 24 * t3) (s := t4) (j := 4) (by omega) (by omega) h4)) (om ((or_step (p := t0 + 2 ^ 8 * t1 + 2 ^ 16 * t2 + 2 ^ 24 * t3 + 2 ^ 32 * t4) (s := t5) (j := 5) (by omega) (by omega) h5)) (om ((or_step (p := t0 + 2 ^ 8 * t1 + 2 ^ 16 * t2 + 2 ^ 24 * t3 + 2 ^ 32 * t4 + 2 ^ 40 * t5) (s := t6) (j := 6) (by omega) (by omega) h6)) (om ((or_step (p := t0 + 2 ^ 8 * t1 + 2 ^ 16 * t2 + 2 ^ 24 * t3 + 2 ^ 32 * t4 + 2 ^ 40 * t5 + 2 ^ 48 * t6) (s := t7) (j := 7) (by omega) (by omega) h7)) (hl))))))))
def ofG : List Value → Option Value
  | [.agg ⟨[.int .u8 s0, .int .u8 s1, .int .u8 s2, .int .u8 s3, .int .u8 s4, .int .u8 s5, .int .u8 s6, .int .u8 s7, .int .u8 s8, .int .u8 s9, .int .u8 s10, .int .u8 s11, .int .u8 s12, .int .u8 s13, .int .u8 s14, .int .u8 s15, .int .u8 s16, .int .u8 s17, .int .u8 s18, .int .u8 s19, .int .u8 s20, .int .u8 s21, .int .u8 s22, .int .u8 s23, .int .u8 s24, .int .u8 s25, .int .u8 s26, .int .u8 s27, .int .u8 s28, .int .u8 s29, .int .u8 s30, .int .u8 s31]⟩] => some (.agg ⟨[u64 (wd s0 s1 s2 s3 s4 s5 s6 s7), u64 (wd s8 s9 s10 s11 s12 s13 s14 s15), u64 (wd s16 s17 s18 s19 s20 s21 s22 s23), u64 (wd s24 s25 s26 s27 s28 s29 s30 s31)]⟩)
  | _ => none
theorem of_con : WCon Try.prog 24 ofG := by
  intro l v h hw
  unfold ofG at h
  split at h
  · rename_i s0 s1 s2 s3 s4 s5 s6 s7 s8 s9 s10 s11 s12 s13 s14 s15 s16 s17 s18 s19 s20 s21 s22 s23 s24 s25 s26 s27 s28 s29 s30 s31
    injection h with h; subst h
    have hb := hw (.agg ⟨[.int .u8 s0, .int .u8 s1, .int .u8 s2, .int .u8 s3, .int .u8 s4, .int .u8 s5, .int .u8 s6, .int .u8 s7, .int .u8 s8, .int .u8 s9, .int .u8 s10, .int .u8 s11, .int .u8 s12, .int .u8 s13, .int .u8 s14, .int .u8 s15, .int .u8 s16, .int .u8 s17, .int .u8 s18, .int .u8 s19, .int .u8 s20, .int .u8 s21, .int .u8 s22, .int .u8 s23, .int .u8 s24, .int .u8 s25, .int .u8 s26, .int .u8 s27, .int .u8 s28, .int .u8 s29, .int .u8 s30, .int .u8 s31]⟩) (by simp)
    obtain ⟨t0, h0, rfl⟩ := of_u8 (hb (.int .u8 s0) (by simp [vcells]))
    obtain ⟨t1, h1, rfl⟩ := of_u8 (hb (.int .u8 s1) (by simp [vcells]))
    obtain ⟨t2, h2, rfl⟩ := of_u8 (hb (.int .u8 s2) (by simp [vcells]))
    obtain ⟨t3, h3, rfl⟩ := of_u8 (hb (.int .u8 s3) (by simp [vcells]))
    obtain ⟨t4, h4, rfl⟩ := of_u8 (hb (.int .u8 s4) (by simp [vcells]))
    obtain ⟨t5, h5, rfl⟩ := of_u8 (hb (.int .u8 s5) (by simp [vcells]))
    obtain ⟨t6, h6, rfl⟩ := of_u8 (hb (.int .u8 s6) (by simp [vcells]))
    obtain ⟨t7, h7, rfl⟩ := of_u8 (hb (.int .u8 s7) (by simp [vcells]))
    obtain ⟨t8, h8, rfl⟩ := of_u8 (hb (.int .u8 s8) (by simp [vcells]))
    obtain ⟨t9, h9, rfl⟩ := of_u8 (hb (.int .u8 s9) (by simp [vcells]))
    obtain ⟨t10, h10, rfl⟩ := of_u8 (hb (.int .u8 s10) (by simp [vcells]))
    obtain ⟨t11, h11, rfl⟩ := of_u8 (hb (.int .u8 s11) (by simp [vcells]))
    obtain ⟨t12, h12, rfl⟩ := of_u8 (hb (.int .u8 s12) (by simp [vcells]))
    obtain ⟨t13, h13, rfl⟩ := of_u8 (hb (.int .u8 s13) (by simp [vcells]))
    obtain ⟨t14, h14, rfl⟩ := of_u8 (hb (.int .u8 s14) (by simp [vcells]))
    obtain ⟨t15, h15, rfl⟩ := of_u8 (hb (.int .u8 s15) (by simp [vcells]))
    obtain ⟨t16, h16, rfl⟩ := of_u8 (hb (.int .u8 s16) (by simp [vcells]))
    obtain ⟨t17, h17, rfl⟩ := of_u8 (hb (.int .u8 s17) (by simp [vcells]))
    obtain ⟨t18, h18, rfl⟩ := of_u8 (hb (.int .u8 s18) (by simp [vcells]))
    obtain ⟨t19, h19, rfl⟩ := of_u8 (hb (.int .u8 s19) (by simp [vcells]))
    obtain ⟨t20, h20, rfl⟩ := of_u8 (hb (.int .u8 s20) (by simp [vcells]))
    obtain ⟨t21, h21, rfl⟩ := of_u8 (hb (.int .u8 s21) (by simp [vcells]))
    obtain ⟨t22, h22, rfl⟩ := of_u8 (hb (.int .u8 s22) (by simp [vcells]))
    obtain ⟨t23, h23, rfl⟩ := of_u8 (hb (.int .u8 s23) (by simp [vcells]))
    obtain ⟨t24, h24, rfl⟩ := of_u8 (hb (.int .u8 s24) (by simp [vcells]))
    obtain ⟨t25, h25, rfl⟩ := of_u8 (hb (.int .u8 s25) (by simp [vcells]))
    obtain ⟨t26, h26, rfl⟩ := of_u8 (hb (.int .u8 s26) (by simp [vcells]))
    obtain ⟨t27, h27, rfl⟩ := of_u8 (hb (.int .u8 s27) (by simp [vcells]))
    obtain ⟨t28, h28, rfl⟩ := of_u8 (hb (.int .u8 s28) (by simp [vcells]))
    obtain ⟨t29, h29, rfl⟩ := of_u8 (hb (.int .u8 s29) (by simp [vcells]))
    obtain ⟨t30, h30, rfl⟩ := of_u8 (hb (.int .u8 s30) (by simp [vcells]))
    obtain ⟨t31, h31, rfl⟩ := of_u8 (hb (.int .u8 s31) (by simp [vcells]))
    clear hb
    revert hw
    exact WCall.of_taken mixed T0_ok [(22, u64 (t0)), (22, u64 (t0 + 2 ^ 8 * t1)), (22, u64 (t0 + 2 ^ 8 * t1 + 2 ^ 16 * t2)), (22, u64 (t0 + 2 ^ 8 * t1 + 2 ^ 16 * t2 + 2 ^ 24 * t3)), (22, u64 (t0 + 2 ^ 8 * t1 + 2 ^ 16 * t2 + 2 ^ 24 * t3 + 2 ^ 32 * t4)), (22, u64 (t0 + 2 ^ 8 * t1 + 2 ^ 16 * t2 + 2 ^ 24 * t3 + 2 ^ 32 * t4 + 2 ^ 40 * t5)), (22, u64 (t0 + 2 ^ 8 * t1 + 2 ^ 16 * t2 + 2 ^ 24 * t3 + 2 ^ 32 * t4 + 2 ^ 40 * t5 + 2 ^ 48 * t6)), (22, u64 (t0 + 2 ^ 8 * t1 + 2 ^ 16 * t2 + 2 ^ 24 * t3 + 2 ^ 32 * t4 + 2 ^ 40 * t5 + 2 ^ 48 * t6 + 2 ^ 56 * t7)), (22, u64 (t8)), (22, u64 (t8 + 2 ^ 8 * t9)), (22, u64 (t8 + 2 ^ 8 * t9 + 2 ^ 16 * t10)), (22, u64 (t8 + 2 ^ 8 * t9 + 2 ^ 16 * t10 + 2 ^ 24 * t11)), (22, u64 (t8 + 2 ^ 8 * t9 + 2 ^ 16 * t10 + 2 ^ 24 * t11 + 2 ^ 32 * t12)), (22, u64 (t8 + 2 ^ 8 * t9 + 2 ^ 16 * t10 + 2 ^ 24 * t11 + 2 ^ 32 * t12 + 2 ^ 40 * t13)), (22, u64 (t8 + 2 ^ 8 * t9 + 2 ^ 16 * t10 + 2 ^ 24 * t11 + 2 ^ 32 * t12 + 2 ^ 40 * t13 + 2 ^ 48 * t14)), (22, u64 (t8 + 2 ^ 8 * t9 + 2 ^ 16 * t10 + 2 ^ 24 * t11 + 2 ^ 32 * t12 + 2 ^ 40 * t13 + 2 ^ 48 * t14 + 2 ^ 56 * t15)), (22, u64 (t16)), (22, u64 (t16 + 2 ^ 8 * t17)), (22, u64 (t16 + 2 ^ 8 * t17 + 2 ^ 16 * t18)), (22, u64 (t16 + 2 ^ 8 * t17 + 2 ^ 16 * t18 + 2 ^ 24 * t19)), (22, u64 (t16 + 2 ^ 8 * t17 + 2 ^ 16 * t18 + 2 ^ 24 * t19 + 2 ^ 32 * t20)), (22, u64 (t16 + 2 ^ 8 * t17 + 2 ^ 16 * t18 + 2 ^ 24 * t19 + 2 ^ 32 * t20 + 2 ^ 40 * t21)), (22, u64 (t16 + 2 ^ 8 * t17 + 2 ^ 16 * t18 + 2 ^ 24 * t19 + 2 ^ 32 * t20 + 2 ^ 40 * t21 + 2 ^ 48 * t22)), (22, u64 (t16 + 2 ^ 8 * t17 + 2 ^ 16 * t18 + 2 ^ 24 * t19 + 2 ^ 32 * t20 + 2 ^ 40 * t21 + 2 ^ 48 * t22 + 2 ^ 56 * t23)), (22, u64 (t24)), (22, u64 (t24 + 2 ^ 8 * t25)), (22, u64 (t24 + 2 ^ 8 * t25 + 2 ^ 16 * t26)), (22, u64 (t24 + 2 ^ 8 * t25 + 2 ^ 16 * t26 + 2 ^ 24 * t27)), (22, u64 (t24 + 2 ^ 8 * t25 + 2 ^ 16 * t26 + 2 ^ 24 * t27 + 2 ^ 32 * t28)), (22, u64 (t24 + 2 ^ 8 * t25 + 2 ^ 16 * t26 + 2 ^ 24 * t27 + 2 ^ 32 * t28 + 2 ^ 40 * t29)), (22, u64 (t24 + 2 ^ 8 * t25 + 2 ^ 16 * t26 + 2 ^ 24 * t27 + 2 ^ 32 * t28 + 2 ^ 40 * t29 + 2 ^ 48 * t30)), (22, u64 (t24 + 2 ^ 8 * t25 + 2 ^ 16 * t26 + 2 ^ 24 * t27 + 2 ^ 32 * t28 + 2 ^ 40 * t29 + 2 ^ 48 * t30 + 2 ^ 56 * t31))] 80 1 _ (by kernel_rfl) (word_met h0 h1 h2 h3 h4 h5 h6 h7 (word_met h8 h9 h10 h11 h12 h13 h14 h15 (word_met h16 h17 h18 h19 h20 h21 h22 h23 (word_met h24 h25 h26 h27 h28 h29 h30 h31 (.nil))))) rfl rfl
  · cases h
def T9 : Tbl := (23, pickG) :: (24, ofG) :: (25, bytesG) :: T8
theorem T9_ok : ∀ p ∈ T9, WCon Try.prog p.1 p.2 := WCons.cons pick_con (WCons.cons of_con (WCons.cons bytes_con T8_ok))
end Go.Proofs.Ytninlahlmjhmhaa
