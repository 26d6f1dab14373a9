import Derived.Test.YtghmfiandllpfaaDoorKa
namespace Go.Proofs.YtghmfiandllpfaaDoor.Lb
open Go.Ab

/-! ### a pick -/
def bxor64 (a b : Int) : Int := IntKind.u64.wrap (BitVec.ofInt 64 a ^^^ BitVec.ofInt 64 b).toNat
def band64 (a b : Int) : Int := IntKind.u64.wrap (BitVec.ofInt 64 a &&& BitVec.ofInt 64 b).toNat
def bor64 (a b : Int) : Int := IntKind.u64.wrap (BitVec.ofInt 64 a ||| BitVec.ofInt 64 b).toNat
theorem ofInt64 {x : Nat} (hx : x < 18446744073709551616) : (BitVec.ofInt 64 (x : Int)).toNat = x := by rw [BitVec.toNat_ofInt]; omega
theorem bxor64_nat {x y : Nat} (hx : x < 18446744073709551616) (hy : y < 18446744073709551616) : bxor64 x y = ((x ^^^ y : Nat) : Int) := by
  have : x ^^^ y < 2 ^ 64 := Nat.xor_lt_two_pow hx hy
  unfold bxor64; rw [BitVec.toNat_xor, ofInt64 hx, ofInt64 hy, IntWalk.u64_in _ (by omega)]
theorem band64_nat {x y : Nat} (hx : x < 18446744073709551616) (hy : y < 18446744073709551616) : band64 x y = ((x &&& y : Nat) : Int) := by
  have : x &&& y < 2 ^ 64 := Nat.and_lt_two_pow x hy
  unfold band64; rw [BitVec.toNat_and, ofInt64 hx, ofInt64 hy, IntWalk.u64_in _ (by omega)]
theorem bor64_nat {x y : Nat} (hx : x < 18446744073709551616) (hy : y < 18446744073709551616) : bor64 x y = ((x ||| y : Nat) : Int) := by
  have : x ||| y < 2 ^ 64 := Nat.or_lt_two_pow hx hy
  unfold bor64; rw [BitVec.toNat_or, ofInt64 hx, ofInt64 hy, IntWalk.u64_in _ (by omega)]
theorem pick0 {x y : Nat} (hx : x < 18446744073709551616) (hy : y < 18446744073709551616) : bxor64 x (band64 0 (bxor64 x y)) = (x : Int) := by
  have h := Nat.xor_lt_two_pow (n := 64) hx hy
  rw [bxor64_nat hx hy]
  have h0 := band64_nat (x := 0) (y := x ^^^ y) (by omega) h
  rw [Nat.zero_and] at h0
  have h1 := bxor64_nat (x := x) (y := 0) hx (by omega)
  rw [Nat.xor_zero] at h1
  exact (congrArg (bxor64 x) h0).trans h1
theorem pick1 {x y : Nat} (hx : x < 18446744073709551616) (hy : y < 18446744073709551616) : bxor64 x (band64 18446744073709551615 (bxor64 x y)) = (y : Int) := by
  have h := Nat.xor_lt_two_pow (n := 64) hx hy
  rw [bxor64_nat hx hy]
  have h0 := band64_nat (x := 18446744073709551615) (y := x ^^^ y) (by omega) h
  rw [show (18446744073709551615 : Nat) = 2 ^ 64 - 1 from rfl, Nat.and_comm, Nat.and_two_pow_sub_one_eq_mod, Nat.mod_eq_of_lt h] at h0
  have h1 := bxor64_nat (x := x) (y := x ^^^ y) hx h
  rw [← Nat.xor_assoc, Nat.xor_self, Nat.zero_xor] at h1
  exact (congrArg (bxor64 x) h0).trans h1
def pk (c a b : Int) : Int := if c.toNat % 2 = 1 then b else a
theorem pk0 {c a b : Int} (h : c.toNat % 2 = 0) : pk c a b = a := by unfold pk; rw [if_neg (by omega)]
theorem pk1 {c a b : Int} (h : c.toNat % 2 = 1) : pk c a b = b := by unfold pk; rw [if_pos h]
def pickG : List Value → Option Value
  | [.int .u64 c, .agg ⟨[.int .u64 a0, .int .u64 a1, .int .u64 a2, .int .u64 a3]⟩, .agg ⟨[.int .u64 b0, .int .u64 b1, .int .u64 b2, .int .u64 b3]⟩] => some (.agg ⟨[.int .u64 (pk c a0 b0), .int .u64 (pk c a1 b1), .int .u64 (pk c a2 b2), .int .u64 (pk c a3 b3)]⟩)
  | _ => none
def byt (a : Int) (j : Nat) : Int := ((a.toNat / 2 ^ (8 * j) % 256 : Nat) : Int)
theorem byt_eq (x j : Nat) : IntKind.u8.wrap ((x : Int).fdiv (2 ^ (8 * j))) = byt x j := by
  unfold byt
  have h : (x : Int).fdiv (2 ^ (8 * j)) = ((x / 2 ^ (8 * j) : Nat) : Int) := by
    rw [Int.fdiv_eq_ediv_of_nonneg _ (Int.le_of_lt (Int.pow_pos (by omega)))]
    simp
  rw [h, IntKind.wrap_u8, Int.toNat_natCast]; omega
theorem om8 {a b : Int} {l : Owe} (h : a = b) (hl : l.met) : Owe.met ((.int .u8 a, .int .u8 b) :: l) := .int h hl
def bytesG : List Value → Option Value
  | [.agg ⟨[.int .u64 a0, .int .u64 a1, .int .u64 a2, .int .u64 a3]⟩] => some (.agg ⟨[.int .u8 (byt a0 0), .int .u8 (byt a0 1), .int .u8 (byt a0 2), .int .u8 (byt a0 3), .int .u8 (byt a0 4), .int .u8 (byt a0 5), .int .u8 (byt a0 6), .int .u8 (byt a0 7), .int .u8 (byt a1 0), .int .u8 (byt a1 1), .int .u8 (byt a1 2), .int .u8 (byt a1 3), .int .u8 (byt a1 4), .int .u8 (byt a1 5), .int .u8 (byt a1 6), .int .u8 (byt a1 7), .int .u8 (byt a2 0), .int .u8 (byt a2 1), .int .u8 (byt a2 2), .int .u8 (byt a2 3), .int .u8 (byt a2 4), .int .u8 (byt a2 5), .int .u8 (byt a2 6), .int .u8 (byt a2 7), .int .u8 (byt a3 0), .int .u8 (byt a3 1), .int .u8 (byt a3 2), .int .u8 (byt a3 3), .int .u8 (byt a3 4), .int .u8 (byt a3 5), .int .u8 (byt a3 6), .int .u8 (byt a3 7)]⟩)
  | _ => none
theorem bytes_con : WCon Tryd.prog 43 bytesG := by
  intro l v h hw
  unfold bytesG at h
  split at h
  · rename_i a0 a1 a2 a3
    injection h with h; subst h
    obtain ⟨x0, x1, x2, x3, h0, h1, h2, h3, rfl, rfl, rfl, rfl⟩ := bits4 (hw (.agg ⟨[.int .u64 a0, .int .u64 a1, .int .u64 a2, .int .u64 a3]⟩) (by simp))
    revert hw
    exact WCall.of_taken mixed T0_ok [(18, .int .u8 (byt x0 0)), (18, .int .u8 (byt x0 1)), (18, .int .u8 (byt x0 2)), (18, .int .u8 (byt x0 3)), (18, .int .u8 (byt x0 4)), (18, .int .u8 (byt x0 5)), (18, .int .u8 (byt x0 6)), (18, .int .u8 (byt x0 7)), (18, .int .u8 (byt x1 0)), (18, .int .u8 (byt x1 1)), (18, .int .u8 (byt x1 2)), (18, .int .u8 (byt x1 3)), (18, .int .u8 (byt x1 4)), (18, .int .u8 (byt x1 5)), (18, .int .u8 (byt x1 6)), (18, .int .u8 (byt x1 7)), (18, .int .u8 (byt x2 0)), (18, .int .u8 (byt x2 1)), (18, .int .u8 (byt x2 2)), (18, .int .u8 (byt x2 3)), (18, .int .u8 (byt x2 4)), (18, .int .u8 (byt x2 5)), (18, .int .u8 (byt x2 6)), (18, .int .u8 (byt x2 7)), (18, .int .u8 (byt x3 0)), (18, .int .u8 (byt x3 1)), (18, .int .u8 (byt x3 2)), (18, .int .u8 (byt x3 3)), (18, .int .u8 (byt x3 4)), (18, .int .u8 (byt x3 5)), (18, .int .u8 (byt x3 6)), (18, .int .u8 (byt x3 7))] 80 1 _ (by kernel_rfl) (om8 (byt_eq x0 0) (om8 (byt_eq x0 1) (om8 (byt_eq x0 2) (om8 (byt_eq x0 3) (om8 (byt_eq x0 4) (om8 (byt_eq x0 5) (om8 (byt_eq x0 6) (om8 (byt_eq x0 7) (om8 (byt_eq x1 0) (om8 (byt_eq x1 1) (om8 (byt_eq x1 2) (om8 (byt_eq x1 3) (om8 (byt_eq x1 4) (om8 (byt_eq x1 5) (om8 (byt_eq x1 6) (om8 (byt_eq x1 7) (om8 (byt_eq x2 0) (om8 (byt_eq x2 1) (om8 (byt_eq x2 2) (om8 (byt_eq x2 3) (om8 (byt_eq x2 4) (om8 (byt_eq x2 5) (om8 (byt_eq x2 6) (om8 (byt_eq x2 7) (om8 (byt_eq x3 0) (om8 (byt_eq x3 1) (om8 (byt_eq x3 2) (om8 (byt_eq x3 3) (om8 (byt_eq x3 4) (om8 (byt_eq x3 5) (om8 (byt_eq x3 6) (om8 (byt_eq x3 7) (.nil))))))))))))))))))))))))))))))))) rfl rfl
  · cases h

def wd (s0 s1 s2 s3 s4 s5 s6 s7 : Int) : Nat := s0.toNat + 2 ^ 8 * s1.toNat + 2 ^ 16 * s2.toNat + 2 ^ 24 * s3.toNat + 2 ^ 32 * s4.toNat + 2 ^ 40 * s5.toNat + 2 ^ 48 * s6.toNat + 2 ^ 56 * s7.toNat
theorem or_step {p s j : Nat} (hj : j < 8) (hp : p < 2 ^ (8 * j)) (hs : s < 256) : bor64 p (IntKind.u64.wrap (IntKind.u64.wrap (s : Int) * 2 ^ (8 * j))) = ((p + 2 ^ (8 * j) * s : Nat) : Int) := by
  have hb : 2 ^ (8 * j) * s < 18446744073709551616 := by
    have h1 : 2 ^ (8 * j) * s ≤ 2 ^ (8 * j) * 255 := Nat.mul_le_mul_left _ (by omega)
    have h2 : 2 ^ (8 * j) ≤ 2 ^ 56 := Nat.pow_le_pow_right (by omega) (by omega)
    omega
  have hq : p < 18446744073709551616 := by
    have h2 : 2 ^ (8 * j) ≤ 2 ^ 56 := Nat.pow_le_pow_right (by omega) (by omega)
    omega
  have e : IntKind.u64.wrap (IntKind.u64.wrap (s : Int) * 2 ^ (8 * j)) = ((2 ^ (8 * j) * s : Nat) : Int) := by
    rw [IntWalk.u64_in (s : Int) (by omega)]
    have : (s : Int) * 2 ^ (8 * j) = ((2 ^ (8 * j) * s : Nat) : Int) := by rw [Int.mul_comm]; simp
    rw [this, IntWalk.u64_in _ (by omega)]
  rw [e, bor64_nat hq hb, Nat.or_comm, ← Nat.two_pow_add_eq_or_of_lt hp, Nat.add_comm]
theorem of_u8 {a : Int} (h : wfcB (.int .u8 a) = true) : ∃ n : Nat, n < 256 ∧ a = (n : Int) := by
  have := wfcB_int.1 h rfl
  simp [IntKind.max, IntKind.bits, IntKind.signed] at this
  exact ⟨a.toNat, by omega, by omega⟩
theorem word_met {t0 t1 t2 t3 t4 t5 t6 t7 : Nat} (h0 : t0 < 256) (h1 : t1 < 256) (h2 : t2 < 256) (h3 : t3 < 256) (h4 : t4 < 256) (h5 : t5 < 256) (h6 : t6 < 256) (h7 : t7 < 256) {l : Owe} (hl : l.met) : Owe.met ((.int .u64 (bor64 ((0 : Nat) : Int) (IntKind.u64.wrap (IntKind.u64.wrap (t0 : Int) * 2 ^ (8 * 0)))), u64 (t0)) :: (.int .u64 (bor64 ((t0 : Nat) : Int) (IntKind.u64.wrap (IntKind.u64.wrap (t1 : Int) * 2 ^ (8 * 1)))), u64 (t0 + 2 ^ 8 * t1)) :: (.int .u64 (bor64 ((t0 + 2 ^ 8 * t1 : Nat) : Int) (IntKind.u64.wrap (IntKind.u64.wrap (t2 : Int) * 2 ^ (8 * 2)))), u64 (t0 + 2 ^ 8 * t1 + 2 ^ 16 * t2)) :: (.int .u64 (bor64 ((t0 + 2 ^ 8 * t1 + 2 ^ 16 * t2 : Nat) : Int) (IntKind.u64.wrap (IntKind.u64.wrap (t3 : Int) * 2 ^ (8 * 3)))), u64 (t0 + 2 ^ 8 * t1 + 2 ^ 16 * t2 + 2 ^ 24 * t3)) :: (.int .u64 (bor64 ((t0 + 2 ^ 8 * t1 + 2 ^ 16 * t2 + 2 ^ 24 * t3 : Nat) : Int) (IntKind.u64.wrap (IntKind.u64.wrap (t4 : Int) * 2 ^ (8 * 4)))), u64 (t0 + 2 ^ 8 * t1 + 2 ^ 16 * t2 + 2 ^ 24 * t3 + 2 ^ 32 * t4)) :: (.int .u64 (bor64 ((t0 + 2 ^ 8 * t1 + 2 ^ 16 * t2 + 2 ^ 24 * t3 + 2 ^ 32 * t4 : Nat) : Int) (IntKind.u64.wrap (IntKind.u64.wrap (t5 : Int) * 2 ^ (8 * 5)))), u64 (t0 + 2 ^ 8 * t1 + 2 ^ 16 * t2 + 2 ^ 24 * t3 + 2 ^ 32 * t4 + 2 ^ 40 * t5)) :: (.int .u64 (bor64 ((t0 + 2 ^ 8 * t1 + 2 ^ 16 * t2 + 2 ^ 24 * t3 + 2 ^ 32 * t4 + 2 ^ 40 * t5 : Nat) : Int) (IntKind.u64.wrap (IntKind.u64.wrap (t6 : Int) * 2 ^ (8 * 6)))), u64 (t0 + 2 ^ 8 * t1 + 2 ^ 16 * t2 + 2 ^ 24 * t3 + 2 ^ 32 * t4 + 2 ^ 40 * t5 + 2 ^ 48 * t6)) :: (.int .u64 (bor64 ((t0 + 2 ^ 8 * t1 + 2 ^ 16 * t2 + 2 ^ 24 * t3 + 2 ^ 32 * t4 + 2 ^ 40 * t5 + 2 ^ 48 * t6 : Nat) : Int) (IntKind.u64.wrap (IntKind.u64.wrap (t7 : Int) * 2 ^ (8 * 7)))), u64 (t0 + 2 ^ 8 * t1 + 2 ^ 16 * t2 + 2 ^ 24 * t3 + 2 ^ 32 * t4 + 2 ^ 40 * t5 + 2 ^ 48 * t6 + 2 ^ 56 * t7)) :: l) := om ((or_step (p := 0) (s := t0) (j := 0) (by omega) (by omega) h0).trans (by simp)) (om ((or_step (p := t0) (s := t1) (j := 1) (by omega) (by omega) h1)) (om ((or_step (p := t0 + 2 ^ 8 * t1) (s := t2) (j := 2) (by omega) (by omega) h2)) (om ((or_step (p := t0 + 2 ^ 8 * t1 + 2 ^ 16 * t2) (s := t3) (j := 3) (by omega) (by omega) h3)) (om ((or_step (p := t0 + 2 ^ 8 * t1 + 2 ^ 16 * t2 + 2 ^ 24 * t3) (s := t4) (j := 4) (by omega) (by omega) h4)) (om ((or_step (p := t0 + 2 ^ 8 * t1 + 2 ^ 16 * t2 + 2 ^ 24 * t3 + 2 ^ 32 * t4) (s := t5) (j := 5) (by omega) (by omega) h5)) (om ((or_step (p := t0 + 2 ^ 8 * t1 + 2 ^ 16 * t2 + 2 ^ 24 * t3 + 2 ^ 32 * t4 + 2 ^ 40 * t5) (s := t6) (j := 6) (by omega) (by omega) h6)) (om ((or_step (p := t0 + 2 ^ 8 * t1 + 2 ^ 16 * t2 + 2 ^ 24 * t3 + 2 ^ 32 * t4 + 2 ^ 40 * t5 + 2 ^ 48 * t6) (s := t7) (j := 7) (by omega) (by omega) h7)) (hl))))))))
def ofG : List Value → Option Value
  | [.agg ⟨[.int .u8 s0, .int .u8 s1, .int .u8 s2, .int .u8 s3, .int .u8 s4, .int .u8 s5, .int .u8 s6, .int .u8 s7, .int .u8 s8, .int .u8 s9, .int .u8 s10, .int .u8 s11, .int .u8 s12, .int .u8 s13, .int .u8 s14, .int .u8 s15, .int .u8 s16, .int .u8 s17, .int .u8 s18, .int .u8 s19, .int .u8 s20, .int .u8 s21, .int .u8 s22, .int .u8 s23, .int .u8 s24, .int .u8 s25, .int .u8 s26, .int .u8 s27, .int .u8 s28, .int .u8 s29, .int .u8 s30, .int .u8 s31]⟩] => some (.agg ⟨[u64 (wd s0 s1 s2 s3 s4 s5 s6 s7), u64 (wd s8 s9 s10 s11 s12 s13 s14 s15), u64 (wd s16 s17 s18 s19 s20 s21 s22 s23), u64 (wd s24 s25 s26 s27 s28 s29 s30 s31)]⟩)
  | _ => none
theorem of_con : WCon Tryd.prog 33 ofG := by
  intro l v h hw
  unfold ofG at h
  split at h
  · rename_i s0 s1 s2 s3 s4 s5 s6 s7 s8 s9 s10 s11 s12 s13 s14 s15 s16 s17 s18 s19 s20 s21 s22 s23 s24 s25 s26 s27 s28 s29 s30 s31
    injection h with h; subst h
    have hb := hw (.agg ⟨[.int .u8 s0, .int .u8 s1, .int .u8 s2, .int .u8 s3, .int .u8 s4, .int .u8 s5, .int .u8 s6, .int .u8 s7, .int .u8 s8, .int .u8 s9, .int .u8 s10, .int .u8 s11, .int .u8 s12, .int .u8 s13, .int .u8 s14, .int .u8 s15, .int .u8 s16, .int .u8 s17, .int .u8 s18, .int .u8 s19, .int .u8 s20, .int .u8 s21, .int .u8 s22, .int .u8 s23, .int .u8 s24, .int .u8 s25, .int .u8 s26, .int .u8 s27, .int .u8 s28, .int .u8 s29, .int .u8 s30, .int .u8 s31]⟩) (by simp)
    obtain ⟨t0, h0, rfl⟩ := of_u8 (hb (.int .u8 s0) (by simp [vcells]))
    obtain ⟨t1, h1, rfl⟩ := of_u8 (hb (.int .u8 s1) (by simp [vcells]))
    obtain ⟨t2, h2, rfl⟩ := of_u8 (hb (.int .u8 s2) (by simp [vcells]))
    obtain ⟨t3, h3, rfl⟩ := of_u8 (hb (.int .u8 s3) (by simp [vcells]))
    obtain ⟨t4, h4, rfl⟩ := of_u8 (hb (.int .u8 s4) (by simp [vcells]))
    obtain ⟨t5, h5, rfl⟩ := of_u8 (hb (.int .u8 s5) (by simp [vcells]))
    obtain ⟨t6, h6, rfl⟩ := of_u8 (hb (.int .u8 s6) (by simp [vcells]))
    obtain ⟨t7, h7, rfl⟩ := of_u8 (hb (.int .u8 s7) (by simp [vcells]))
    obtain ⟨t8, h8, rfl⟩ := of_u8 (hb (.int .u8 s8) (by simp [vcells]))
    obtain ⟨t9, h9, rfl⟩ := of_u8 (hb (.int .u8 s9) (by simp [vcells]))
    obtain ⟨t10, h10, rfl⟩ := of_u8 (hb (.int .u8 s10) (by simp [vcells]))
    obtain ⟨t11, h11, rfl⟩ := of_u8 (hb (.int .u8 s11) (by simp [vcells]))
    obtain ⟨t12, h12, rfl⟩ := of_u8 (hb (.int .u8 s12) (by simp [vcells]))
    obtain ⟨t13, h13, rfl⟩ := of_u8 (hb (.int .u8 s13) (by simp [vcells]))
    obtain ⟨t14, h14, rfl⟩ := of_u8 (hb (.int .u8 s14) (by simp [vcells]))
    obtain ⟨t15, h15, rfl⟩ := of_u8 (hb (.int .u8 s15) (by simp [vcells]))
    obtain ⟨t16, h16, rfl⟩ := of_u8 (hb (.int .u8 s16) (by simp [vcells]))
    obtain ⟨t17, h17, rfl⟩ := of_u8 (hb (.int .u8 s17) (by simp [vcells]))
    obtain ⟨t18, h18, rfl⟩ := of_u8 (hb (.int .u8 s18) (by simp [vcells]))
    obtain ⟨t19, h19, rfl⟩ := of_u8 (hb (.int .u8 s19) (by simp [vcells]))
    obtain ⟨t20, h20, rfl⟩ := of_u8 (hb (.int .u8 s20) (by simp [vcells]))
    obtain ⟨t21, h21, rfl⟩ := of_u8 (hb (.int .u8 s21) (by simp [vcells]))
    obtain ⟨t22, h22, rfl⟩ := of_u8 (hb (.int .u8 s22) (by simp [vcells]))
    obtain ⟨t23, h23, rfl⟩ := of_u8 (hb (.int .u8 s23) (by simp [vcells]))
    obtain ⟨t24, h24, rfl⟩ := of_u8 (hb (.int .u8 s24) (by simp [vcells]))
    obtain ⟨t25, h25, rfl⟩ := of_u8 (hb (.int .u8 s25) (by simp [vcells]))
    obtain ⟨t26, h26, rfl⟩ := of_u8 (hb (.int .u8 s26) (by simp [vcells]))
    obtain ⟨t27, h27, rfl⟩ := of_u8 (hb (.int .u8 s27) (by simp [vcells]))
    obtain ⟨t28, h28, rfl⟩ := of_u8 (hb (.int .u8 s28) (by simp [vcells]))
    obtain ⟨t29, h29, rfl⟩ := of_u8 (hb (.int .u8 s29) (by simp [vcells]))
    obtain ⟨t30, h30, rfl⟩ := of_u8 (hb (.int .u8 s30) (by simp [vcells]))
    obtain ⟨t31, h31, rfl⟩ := of_u8 (hb (.int .u8 s31) (by simp [vcells]))
    clear hb
    revert hw
    exact WCall.of_taken mixed T0_ok [(22, u64 (t0)), (22, u64 (t0 + 2 ^ 8 * t1)), (22, u64 (t0 + 2 ^ 8 * t1 + 2 ^ 16 * t2)), (22, u64 (t0 + 2 ^ 8 * t1 + 2 ^ 16 * t2 + 2 ^ 24 * t3)), (22, u64 (t0 + 2 ^ 8 * t1 + 2 ^ 16 * t2 + 2 ^ 24 * t3 + 2 ^ 32 * t4)), (22, u64 (t0 + 2 ^ 8 * t1 + 2 ^ 16 * t2 + 2 ^ 24 * t3 + 2 ^ 32 * t4 + 2 ^ 40 * t5)), (22, u64 (t0 + 2 ^ 8 * t1 + 2 ^ 16 * t2 + 2 ^ 24 * t3 + 2 ^ 32 * t4 + 2 ^ 40 * t5 + 2 ^ 48 * t6)), (22, u64 (t0 + 2 ^ 8 * t1 + 2 ^ 16 * t2 + 2 ^ 24 * t3 + 2 ^ 32 * t4 + 2 ^ 40 * t5 + 2 ^ 48 * t6 + 2 ^ 56 * t7)), (22, u64 (t8)), (22, u64 (t8 + 2 ^ 8 * t9)), (22, u64 (t8 + 2 ^ 8 * t9 + 2 ^ 16 * t10)), (22, u64 (t8 + 2 ^ 8 * t9 + 2 ^ 16 * t10 + 2 ^ 24 * t11)), (22, u64 (t8 + 2 ^ 8 * t9 + 2 ^ 16 * t10 + 2 ^ 24 * t11 + 2 ^ 32 * t12)), (22, u64 (t8 + 2 ^ 8 * t9 + 2 ^ 16 * t10 + 2 ^ 24 * t11 + 2 ^ 32 * t12 + 2 ^ 40 * t13)), (22, u64 (t8 + 2 ^ 8 * t9 + 2 ^ 16 * t10 + 2 ^ 24 * t11 + 2 ^ 32 * t12 + 2 ^ 40 * t13 + 2 ^ 48 * t14)), (22, u64 (t8 + 2 ^ 8 * t9 + 2 ^ 16 * t10 + 2 ^ 24 * t11 + 2 ^ 32 * t12 + 2 ^ 40 * t13 + 2 ^ 48 * t14 + 2 ^ 56 * t15)), (22, u64 (t16)), (22, u64 (t16 + 2 ^ 8 * t17)), (22, u64 (t16 + 2 ^ 8 * t17 + 2 ^ 16 * t18)), (22, u64 (t16 + 2 ^ 8 * t17 + 2 ^ 16 * t18 + 2 ^ 24 * t19)), (22, u64 (t16 + 2 ^ 8 * t17 + 2 ^ 16 * t18 + 2 ^ 24 * t19 + 2 ^ 32 * t20)), (22, u64 (t16 + 2 ^ 8 * t17 + 2 ^ 16 * t18 + 2 ^ 24 * t19 + 2 ^ 32 * t20 + 2 ^ 40 * t21)), (22, u64 (t16 + 2 ^ 8 * t17 + 2 ^ 16 * t18 + 2 ^ 24 * t19 + 2 ^ 32 * t20 + 2 ^ 40 * t21 + 2 ^ 48 * t22)), (22, u64 (t16 + 2 ^ 8 * t17 + 2 ^ 16 * t18 + 2 ^ 24 * t19 + 2 ^ 32 * t20 + 2 ^ 40 * t21 + 2 ^ 48 * t22 + 2 ^ 56 * t23)), (22, u64 (t24)), (22, u64 (t24 + 2 ^ 8 * t25)), (22, u64 (t24 + 2 ^ 8 * t25 + 2 ^ 16 * t26)), (22, u64 (t24 + 2 ^ 8 * t25 + 2 ^ 16 * t26 + 2 ^ 24 * t27)), (22, u64 (t24 + 2 ^ 8 * t25 + 2 ^ 16 * t26 + 2 ^ 24 * t27 + 2 ^ 32 * t28)), (22, u64 (t24 + 2 ^ 8 * t25 + 2 ^ 16 * t26 + 2 ^ 24 * t27 + 2 ^ 32 * t28 + 2 ^ 40 * t29)), (22, u64 (t24 + 2 ^ 8 * t25 + 2 ^ 16 * t26 + 2 ^ 24 * t27 + 2 ^ 32 * t28 + 2 ^ 40 * t29 + 2 ^ 48 * t30)), (22, u64 (t24 + 2 ^ 8 * t25 + 2 ^ 16 * t26 + 2 ^ 24 * t27 + 2 ^ 32 * t28 + 2 ^ 40 * t29 + 2 ^ 48 * t30 + 2 ^ 56 * t31))] 80 1 _ (by kernel_rfl) (word_met h0 h1 h2 h3 h4 h5 h6 h7 (word_met h8 h9 h10 h11 h12 h13 h14 h15 (word_met h16 h17 h18 h19 h20 h21 h22 h23 (word_met h24 h25 h26 h27 h28 h29 h30 h31 (.nil))))) rfl rfl
  · cases h
def T9 : Tbl := (33, ofG) :: (43, bytesG) :: T8
theorem T9_ok : ∀ p ∈ T9, WCon Tryd.prog p.1 p.2 := WCons.cons of_con (WCons.cons bytes_con T8_ok)
end Go.Proofs.YtghmfiandllpfaaDoor.Lb
namespace Go.Proofs.YtghmfiandllpfaaDoor.Lb
open Go.Ab

/-! ### shifts, word by word -/
def wdN (X i : Nat) : Nat := X / 2 ^ (64 * i) % 2 ^ 64
theorem wdN_bit (X i j : Nat) : (wdN X i).testBit j = (decide (j < 64) && X.testBit (64 * i + j)) := by
  unfold wdN
  rw [Nat.testBit_mod_two_pow, Nat.testBit_div_two_pow, Nat.add_comm]
theorem shl_word (X q r i : Nat) (hr : r < 64) (hq : q ≤ i) :
    wdN (X * 2 ^ (64 * q + r)) i = (wdN X (i - q) * 2 ^ r % 2 ^ 64) ||| (if q < i then wdN X (i - q - 1) / 2 ^ (64 - r) else 0) := by
  apply Nat.eq_of_testBit_eq
  intro j
  rw [wdN_bit, Nat.testBit_mul_two_pow, Nat.testBit_or, Nat.testBit_mod_two_pow, Nat.testBit_mul_two_pow, wdN_bit]
  by_cases hj : j < 64
  · by_cases hjr : r ≤ j
    · have h2 : (if q < i then wdN X (i - q - 1) / 2 ^ (64 - r) else 0).testBit j = false := by
        split
        · rw [Nat.testBit_div_two_pow, wdN_bit]
          have : ¬ (j + (64 - r) < 64) := by omega
          simp [this]
        · exact Nat.zero_testBit j
      rw [h2]
      have e : 64 * i + j - (64 * q + r) = 64 * (i - q) + (j - r) := by omega
      rw [e]
      simp [hj, hjr, show 64 * q + r ≤ 64 * i + j by omega, show j - r < 64 by omega]
    · by_cases hqi : q < i
      · rw [if_pos hqi, Nat.testBit_div_two_pow, wdN_bit]
        have e : 64 * i + j - (64 * q + r) = 64 * (i - q - 1) + (j + (64 - r)) := by omega
        rw [e]
        simp [hj, hjr, show 64 * q + r ≤ 64 * i + j by omega, show j + (64 - r) < 64 by omega]
      · rw [if_neg hqi, Nat.zero_testBit]
        simp [hjr, show ¬ (64 * q + r ≤ 64 * i + j) by omega]
  · have h2 : (if q < i then wdN X (i - q - 1) / 2 ^ (64 - r) else 0).testBit j = false := by
      split
      · rw [Nat.testBit_div_two_pow, wdN_bit]
        have : ¬ (j + (64 - r) < 64) := by omega
        simp [this]
      · exact Nat.zero_testBit j
    rw [h2]
    simp [hj]
theorem shl_low (X q r i : Nat) (hi : i < q) : wdN (X * 2 ^ (64 * q + r)) i = 0 := by
  apply Nat.eq_of_testBit_eq
  intro j
  rw [wdN_bit, Nat.testBit_mul_two_pow, Nat.zero_testBit]
  by_cases hj : j < 64
  · simp [show ¬ (64 * q + r ≤ 64 * i + j) by omega]
  · simp [hj]
theorem shr_word (X q r i : Nat) (hr : r < 64) :
    wdN (X / 2 ^ (64 * q + r)) i = (wdN X (i + q) / 2 ^ r) ||| (wdN X (i + q + 1) * 2 ^ (64 - r) % 2 ^ 64) := by
  apply Nat.eq_of_testBit_eq
  intro j
  rw [wdN_bit, Nat.testBit_div_two_pow, Nat.testBit_or, Nat.testBit_mod_two_pow, Nat.testBit_mul_two_pow, Nat.testBit_div_two_pow, wdN_bit, wdN_bit]
  by_cases hj : j < 64
  · by_cases hjr : j + r < 64
    · have e : 64 * i + j + (64 * q + r) = 64 * (i + q) + (j + r) := by omega
      rw [e]
      simp [hj, hjr, show ¬ (64 - r ≤ j) by omega]
    · have e : 64 * i + j + (64 * q + r) = 64 * (i + q + 1) + (j - (64 - r)) := by omega
      rw [e]
      simp [hj, hjr, show 64 - r ≤ j by omega, show j - (64 - r) < 64 by omega]
  · have : ¬ (j + r < 64) := by omega
    simp [hj, this]
end Go.Proofs.YtghmfiandllpfaaDoor.Lb
namespace Go.Proofs.YtghmfiandllpfaaDoor.Lb
open Go.Ab

theorem w64_wdN (X i : Nat) : w64 X i = ((wdN X i : Nat) : Int) := rfl
theorem wdN_vl {x0 x1 x2 x3 : Nat} (h0 : x0 < 18446744073709551616) (h1 : x1 < 18446744073709551616) (h2 : x2 < 18446744073709551616) (h3 : x3 < 18446744073709551616) :
    wdN (vl x0 x1 x2 x3) 0 = x0 ∧ wdN (vl x0 x1 x2 x3) 1 = x1 ∧ wdN (vl x0 x1 x2 x3) 2 = x2 ∧ wdN (vl x0 x1 x2 x3) 3 = x3 ∧ wdN (vl x0 x1 x2 x3) 4 = 0 := by
  rw [vl_nat]
  unfold wdN
  refine ⟨?_, ?_, ?_, ?_, ?_⟩ <;> omega
theorem shl_one {x r : Nat} (hr : r < 64) : IntKind.u64.wrap ((x : Int) * 2 ^ (min r 64)) = ((x * 2 ^ r % 2 ^ 64 : Nat) : Int) := by
  rw [Nat.min_eq_left (by omega), IntKind.wrap_u64]
  have : (x : Int) * 2 ^ r = ((x * 2 ^ r : Nat) : Int) := by simp
  rw [this]; omega
theorem shl_top {x r : Nat} : IntKind.u64.wrap ((x : Int) * 2 ^ (min (64 - r) 64)) = ((x * 2 ^ (64 - r) % 2 ^ 64 : Nat) : Int) := by
  rw [Nat.min_eq_left (by omega), IntKind.wrap_u64]
  have : (x : Int) * 2 ^ (64 - r) = ((x * 2 ^ (64 - r) : Nat) : Int) := by simp
  rw [this]; omega
theorem fdiv_pow (x k : Nat) : (x : Int).fdiv (2 ^ k) = ((x / 2 ^ k : Nat) : Int) := by
  rw [Int.fdiv_eq_ediv_of_nonneg _ (Int.le_of_lt (Int.pow_pos (by omega)))]
  simp
theorem shr_one {x r : Nat} (hr : r < 64) : (x : Int).fdiv (2 ^ (min r 64)) = ((x / 2 ^ r : Nat) : Int) := by rw [Nat.min_eq_left (by omega), fdiv_pow]
theorem shr_top {x r : Nat} : (x : Int).fdiv (2 ^ (min (64 - r) 64)) = ((x / 2 ^ (64 - r) : Nat) : Int) := by rw [Nat.min_eq_left (by omega), fdiv_pow]
theorem div_lt64 {x k : Nat} (hx : x < 18446744073709551616) : x / 2 ^ k < 18446744073709551616 := Nat.lt_of_le_of_lt (Nat.div_le_self _ _) hx
theorem sub64r {r : Nat} (hr : r < 64) : IntKind.u64.wrap (64 - (r : Int)) = ((64 - r : Nat) : Int) := by rw [IntWalk.u64_in _ (by omega)]; omega
theorem oi {a b : Int} {l : Owe} (h : a = b) (hl : l.met) : Owe.met ((.int .i64 a, .int .i64 b) :: l) := .int h hl
theorem ob {a b : Bool} {l : Owe} (h : a = b) (hl : l.met) : Owe.met ((.bool a, .bool b) :: l) := .bool h hl
def upN (V : Nat) (k : Nat) : Nat := V * 2 ^ k
def dnN (V : Nat) (k : Nat) : Nat := V / 2 ^ k
/-- a number, shifted -/
def shiftN (V : Nat) (n : Int) : Nat := if n > 255 then 0 else if n < -255 then 0 else if 0 ≤ n then upN V n.toNat else dnN V (-n).toNat
def shiftG : List Value → Option Value
  | [.agg ⟨[.int .u64 a0, .int .u64 a1, .int .u64 a2, .int .u64 a3]⟩, .int .i64 n] => some (numV (shiftN (vl a0 a1 a2 a3) n))
  | _ => none
theorem up0 {x0 x1 x2 x3 r : Nat} (h0 : x0 < 18446744073709551616) (h1 : x1 < 18446744073709551616) (h2 : x2 < 18446744073709551616) (h3 : x3 < 18446744073709551616) (hr : r < 64) : WCall Tryd.prog 34 [.agg ⟨[.int .u64 (x0 : Nat), .int .u64 (x1 : Nat), .int .u64 (x2 : Nat), .int .u64 (x3 : Nat)]⟩, .int .i64 ((64 * 0 + r : Nat) : Int)] (numV (vl x0 x1 x2 x3 * 2 ^ (64 * 0 + r))) := by
  obtain ⟨e0, e1, e2, e3, _⟩ := wdN_vl h0 h1 h2 h3
  have w0 : w64 (vl x0 x1 x2 x3 * 2 ^ (64 * 0 + r)) 0 = ((x0 * 2 ^ r % 2 ^ 64 : Nat) : Int) := by rw [w64_wdN, shl_word _ _ _ _ hr (by omega), if_neg (by omega), Nat.or_zero, show 0 - 0 = 0 from rfl, e0]
  have w1 : w64 (vl x0 x1 x2 x3 * 2 ^ (64 * 0 + r)) 1 = (((x1 * 2 ^ r % 2 ^ 64) ||| (x0 / 2 ^ (64 - r)) : Nat) : Int) := by rw [w64_wdN, shl_word _ _ _ _ hr (by omega), if_pos (by omega), show 1 - 0 = 1 from rfl, show 1 - 1 = 0 from rfl, e1, e0]
  have w2 : w64 (vl x0 x1 x2 x3 * 2 ^ (64 * 0 + r)) 2 = (((x2 * 2 ^ r % 2 ^ 64) ||| (x1 / 2 ^ (64 - r)) : Nat) : Int) := by rw [w64_wdN, shl_word _ _ _ _ hr (by omega), if_pos (by omega), show 2 - 0 = 2 from rfl, show 2 - 1 = 1 from rfl, e2, e1]
  have w3 : w64 (vl x0 x1 x2 x3 * 2 ^ (64 * 0 + r)) 3 = (((x3 * 2 ^ r % 2 ^ 64) ||| (x2 / 2 ^ (64 - r)) : Nat) : Int) := by rw [w64_wdN, shl_word _ _ _ _ hr (by omega), if_pos (by omega), show 3 - 0 = 3 from rfl, show 3 - 1 = 2 from rfl, e3, e2]
  unfold numV
  rw [w0, w1, w2, w3]
  exact WCall.of_taken mixed T0_ok [(51, .bool false), (54, .bool false), (58, .bool true), (60, .int .i64 0), (62, .int .i64 (r : Nat)), (63, u64 r), (76, u64 (x0 * 2 ^ r % 2 ^ 64)), (76, u64 (x1 * 2 ^ r % 2 ^ 64)), (91, u64 (64 - r)), (92, u64 (x0 / 2 ^ (64 - r))), (93, u64 ((x1 * 2 ^ r % 2 ^ 64) ||| (x0 / 2 ^ (64 - r)))), (76, u64 (x2 * 2 ^ r % 2 ^ 64)), (91, u64 (64 - r)), (92, u64 (x1 / 2 ^ (64 - r))), (93, u64 ((x2 * 2 ^ r % 2 ^ 64) ||| (x1 / 2 ^ (64 - r)))), (76, u64 (x3 * 2 ^ r % 2 ^ 64)), (91, u64 (64 - r)), (92, u64 (x2 / 2 ^ (64 - r))), (93, u64 ((x3 * 2 ^ r % 2 ^ 64) ||| (x2 / 2 ^ (64 - r))))] 60 1 _ (by kernel_rfl) (ob (a := decide (((64 * 0 + r : Nat) : Int) > 255)) (dec_f (by omega)) (ob (a := decide (((64 * 0 + r : Nat) : Int) < -255)) (dec_f (by omega)) (ob (a := decide (((64 * 0 + r : Nat) : Int) ≥ 0)) (dec_t (by omega)) (oi (a := IntKind.i64.wrap (((64 * 0 + r : Nat) : Int).tdiv 64)) (b := 0) (by rw [Int.tdiv_eq_ediv_of_nonneg (by omega), IntWalk.i64_in _ (by omega)]; omega) (oi (a := ((64 * 0 + r : Nat) : Int).tmod 64) (b := (r : Nat)) (by rw [Int.tmod_eq_emod_of_nonneg (by omega)]; omega) (om (a := IntKind.u64.wrap (r : Int)) (b := (r : Nat)) (by rw [IntWalk.u64_in _ (by omega)]) (om (shl_one (x := x0) hr) (om (shl_one (x := x1) hr) (om (sub64r hr) (om (shr_top (x := x0) (r := r)) (om (bor64_nat (x := x1 * 2 ^ r % 2 ^ 64) (y := x0 / 2 ^ (64 - r)) (Nat.mod_lt _ (by omega)) (div_lt64 h0)) (om (shl_one (x := x2) hr) (om (sub64r hr) (om (shr_top (x := x1) (r := r)) (om (bor64_nat (x := x2 * 2 ^ r % 2 ^ 64) (y := x1 / 2 ^ (64 - r)) (Nat.mod_lt _ (by omega)) (div_lt64 h1)) (om (shl_one (x := x3) hr) (om (sub64r hr) (om (shr_top (x := x2) (r := r)) (om (bor64_nat (x := x3 * 2 ^ r % 2 ^ 64) (y := x2 / 2 ^ (64 - r)) (Nat.mod_lt _ (by omega)) (div_lt64 h2)) .nil))))))))))))))))))) rfl rfl
theorem up1 {x0 x1 x2 x3 r : Nat} (h0 : x0 < 18446744073709551616) (h1 : x1 < 18446744073709551616) (h2 : x2 < 18446744073709551616) (h3 : x3 < 18446744073709551616) (hr : r < 64) : WCall Tryd.prog 34 [.agg ⟨[.int .u64 (x0 : Nat), .int .u64 (x1 : Nat), .int .u64 (x2 : Nat), .int .u64 (x3 : Nat)]⟩, .int .i64 ((64 * 1 + r : Nat) : Int)] (numV (vl x0 x1 x2 x3 * 2 ^ (64 * 1 + r))) := by
  obtain ⟨e0, e1, e2, e3, _⟩ := wdN_vl h0 h1 h2 h3
  have w0 : w64 (vl x0 x1 x2 x3 * 2 ^ (64 * 1 + r)) 0 = 0 := by rw [w64_wdN, shl_low _ _ _ _ (by omega)]; rfl
  have w1 : w64 (vl x0 x1 x2 x3 * 2 ^ (64 * 1 + r)) 1 = ((x0 * 2 ^ r % 2 ^ 64 : Nat) : Int) := by rw [w64_wdN, shl_word _ _ _ _ hr (by omega), if_neg (by omega), Nat.or_zero, show 1 - 1 = 0 from rfl, e0]
  have w2 : w64 (vl x0 x1 x2 x3 * 2 ^ (64 * 1 + r)) 2 = (((x1 * 2 ^ r % 2 ^ 64) ||| (x0 / 2 ^ (64 - r)) : Nat) : Int) := by rw [w64_wdN, shl_word _ _ _ _ hr (by omega), if_pos (by omega), show 2 - 1 = 1 from rfl, show 1 - 1 = 0 from rfl, e1, e0]
  have w3 : w64 (vl x0 x1 x2 x3 * 2 ^ (64 * 1 + r)) 3 = (((x2 * 2 ^ r % 2 ^ 64) ||| (x1 / 2 ^ (64 - r)) : Nat) : Int) := by rw [w64_wdN, shl_word _ _ _ _ hr (by omega), if_pos (by omega), show 3 - 1 = 2 from rfl, show 2 - 1 = 1 from rfl, e2, e1]
  unfold numV
  rw [w0, w1, w2, w3]
  exact WCall.of_taken mixed T0_ok [(51, .bool false), (54, .bool false), (58, .bool true), (60, .int .i64 1), (62, .int .i64 (r : Nat)), (63, u64 r), (76, u64 (x0 * 2 ^ r % 2 ^ 64)), (76, u64 (x1 * 2 ^ r % 2 ^ 64)), (91, u64 (64 - r)), (92, u64 (x0 / 2 ^ (64 - r))), (93, u64 ((x1 * 2 ^ r % 2 ^ 64) ||| (x0 / 2 ^ (64 - r)))), (76, u64 (x2 * 2 ^ r % 2 ^ 64)), (91, u64 (64 - r)), (92, u64 (x1 / 2 ^ (64 - r))), (93, u64 ((x2 * 2 ^ r % 2 ^ 64) ||| (x1 / 2 ^ (64 - r))))] 60 1 _ (by kernel_rfl) (ob (a := decide (((64 * 1 + r : Nat) : Int) > 255)) (dec_f (by omega)) (ob (a := decide (((64 * 1 + r : Nat) : Int) < -255)) (dec_f (by omega)) (ob (a := decide (((64 * 1 + r : Nat) : Int) ≥ 0)) (dec_t (by omega)) (oi (a := IntKind.i64.wrap (((64 * 1 + r : Nat) : Int).tdiv 64)) (b := 1) (by rw [Int.tdiv_eq_ediv_of_nonneg (by omega), IntWalk.i64_in _ (by omega)]; omega) (oi (a := ((64 * 1 + r : Nat) : Int).tmod 64) (b := (r : Nat)) (by rw [Int.tmod_eq_emod_of_nonneg (by omega)]; omega) (om (a := IntKind.u64.wrap (r : Int)) (b := (r : Nat)) (by rw [IntWalk.u64_in _ (by omega)]) (om (shl_one (x := x0) hr) (om (shl_one (x := x1) hr) (om (sub64r hr) (om (shr_top (x := x0) (r := r)) (om (bor64_nat (x := x1 * 2 ^ r % 2 ^ 64) (y := x0 / 2 ^ (64 - r)) (Nat.mod_lt _ (by omega)) (div_lt64 h0)) (om (shl_one (x := x2) hr) (om (sub64r hr) (om (shr_top (x := x1) (r := r)) (om (bor64_nat (x := x2 * 2 ^ r % 2 ^ 64) (y := x1 / 2 ^ (64 - r)) (Nat.mod_lt _ (by omega)) (div_lt64 h1)) .nil))))))))))))))) rfl rfl
theorem up2 {x0 x1 x2 x3 r : Nat} (h0 : x0 < 18446744073709551616) (h1 : x1 < 18446744073709551616) (h2 : x2 < 18446744073709551616) (h3 : x3 < 18446744073709551616) (hr : r < 64) : WCall Tryd.prog 34 [.agg ⟨[.int .u64 (x0 : Nat), .int .u64 (x1 : Nat), .int .u64 (x2 : Nat), .int .u64 (x3 : Nat)]⟩, .int .i64 ((64 * 2 + r : Nat) : Int)] (numV (vl x0 x1 x2 x3 * 2 ^ (64 * 2 + r))) := by
  obtain ⟨e0, e1, e2, e3, _⟩ := wdN_vl h0 h1 h2 h3
  have w0 : w64 (vl x0 x1 x2 x3 * 2 ^ (64 * 2 + r)) 0 = 0 := by rw [w64_wdN, shl_low _ _ _ _ (by omega)]; rfl
  have w1 : w64 (vl x0 x1 x2 x3 * 2 ^ (64 * 2 + r)) 1 = 0 := by rw [w64_wdN, shl_low _ _ _ _ (by omega)]; rfl
  have w2 : w64 (vl x0 x1 x2 x3 * 2 ^ (64 * 2 + r)) 2 = ((x0 * 2 ^ r % 2 ^ 64 : Nat) : Int) := by rw [w64_wdN, shl_word _ _ _ _ hr (by omega), if_neg (by omega), Nat.or_zero, show 2 - 2 = 0 from rfl, e0]
  have w3 : w64 (vl x0 x1 x2 x3 * 2 ^ (64 * 2 + r)) 3 = (((x1 * 2 ^ r % 2 ^ 64) ||| (x0 / 2 ^ (64 - r)) : Nat) : Int) := by rw [w64_wdN, shl_word _ _ _ _ hr (by omega), if_pos (by omega), show 3 - 2 = 1 from rfl, show 1 - 1 = 0 from rfl, e1, e0]
  unfold numV
  rw [w0, w1, w2, w3]
  exact WCall.of_taken mixed T0_ok [(51, .bool false), (54, .bool false), (58, .bool true), (60, .int .i64 2), (62, .int .i64 (r : Nat)), (63, u64 r), (76, u64 (x0 * 2 ^ r % 2 ^ 64)), (76, u64 (x1 * 2 ^ r % 2 ^ 64)), (91, u64 (64 - r)), (92, u64 (x0 / 2 ^ (64 - r))), (93, u64 ((x1 * 2 ^ r % 2 ^ 64) ||| (x0 / 2 ^ (64 - r))))] 60 1 _ (by kernel_rfl) (ob (a := decide (((64 * 2 + r : Nat) : Int) > 255)) (dec_f (by omega)) (ob (a := decide (((64 * 2 + r : Nat) : Int) < -255)) (dec_f (by omega)) (ob (a := decide (((64 * 2 + r : Nat) : Int) ≥ 0)) (dec_t (by omega)) (oi (a := IntKind.i64.wrap (((64 * 2 + r : Nat) : Int).tdiv 64)) (b := 2) (by rw [Int.tdiv_eq_ediv_of_nonneg (by omega), IntWalk.i64_in _ (by omega)]; omega) (oi (a := ((64 * 2 + r : Nat) : Int).tmod 64) (b := (r : Nat)) (by rw [Int.tmod_eq_emod_of_nonneg (by omega)]; omega) (om (a := IntKind.u64.wrap (r : Int)) (b := (r : Nat)) (by rw [IntWalk.u64_in _ (by omega)]) (om (shl_one (x := x0) hr) (om (shl_one (x := x1) hr) (om (sub64r hr) (om (shr_top (x := x0) (r := r)) (om (bor64_nat (x := x1 * 2 ^ r % 2 ^ 64) (y := x0 / 2 ^ (64 - r)) (Nat.mod_lt _ (by omega)) (div_lt64 h0)) .nil))))))))))) rfl rfl
theorem up3 {x0 x1 x2 x3 r : Nat} (h0 : x0 < 18446744073709551616) (h1 : x1 < 18446744073709551616) (h2 : x2 < 18446744073709551616) (h3 : x3 < 18446744073709551616) (hr : r < 64) : WCall Tryd.prog 34 [.agg ⟨[.int .u64 (x0 : Nat), .int .u64 (x1 : Nat), .int .u64 (x2 : Nat), .int .u64 (x3 : Nat)]⟩, .int .i64 ((64 * 3 + r : Nat) : Int)] (numV (vl x0 x1 x2 x3 * 2 ^ (64 * 3 + r))) := by
  obtain ⟨e0, e1, e2, e3, _⟩ := wdN_vl h0 h1 h2 h3
  have w0 : w64 (vl x0 x1 x2 x3 * 2 ^ (64 * 3 + r)) 0 = 0 := by rw [w64_wdN, shl_low _ _ _ _ (by omega)]; rfl
  have w1 : w64 (vl x0 x1 x2 x3 * 2 ^ (64 * 3 + r)) 1 = 0 := by rw [w64_wdN, shl_low _ _ _ _ (by omega)]; rfl
  have w2 : w64 (vl x0 x1 x2 x3 * 2 ^ (64 * 3 + r)) 2 = 0 := by rw [w64_wdN, shl_low _ _ _ _ (by omega)]; rfl
  have w3 : w64 (vl x0 x1 x2 x3 * 2 ^ (64 * 3 + r)) 3 = ((x0 * 2 ^ r % 2 ^ 64 : Nat) : Int) := by rw [w64_wdN, shl_word _ _ _ _ hr (by omega), if_neg (by omega), Nat.or_zero, show 3 - 3 = 0 from rfl, e0]
  unfold numV
  rw [w0, w1, w2, w3]
  exact WCall.of_taken mixed T0_ok [(51, .bool false), (54, .bool false), (58, .bool true), (60, .int .i64 3), (62, .int .i64 (r : Nat)), (63, u64 r), (76, u64 (x0 * 2 ^ r % 2 ^ 64))] 60 1 _ (by kernel_rfl) (ob (a := decide (((64 * 3 + r : Nat) : Int) > 255)) (dec_f (by omega)) (ob (a := decide (((64 * 3 + r : Nat) : Int) < -255)) (dec_f (by omega)) (ob (a := decide (((64 * 3 + r : Nat) : Int) ≥ 0)) (dec_t (by omega)) (oi (a := IntKind.i64.wrap (((64 * 3 + r : Nat) : Int).tdiv 64)) (b := 3) (by rw [Int.tdiv_eq_ediv_of_nonneg (by omega), IntWalk.i64_in _ (by omega)]; omega) (oi (a := ((64 * 3 + r : Nat) : Int).tmod 64) (b := (r : Nat)) (by rw [Int.tmod_eq_emod_of_nonneg (by omega)]; omega) (om (a := IntKind.u64.wrap (r : Int)) (b := (r : Nat)) (by rw [IntWalk.u64_in _ (by omega)]) (om (shl_one (x := x0) hr) .nil))))))) rfl rfl
theorem wdN_high {x0 x1 x2 x3 : Nat} (h0 : x0 < 18446744073709551616) (h1 : x1 < 18446744073709551616) (h2 : x2 < 18446744073709551616) (h3 : x3 < 18446744073709551616) (i : Nat) (hi : 4 ≤ i) : wdN (vl x0 x1 x2 x3) i = 0 := by
  have hV : vl x0 x1 x2 x3 < 2 ^ 256 := by rw [vl_nat]; omega
  unfold wdN
  rw [Nat.div_eq_of_lt (Nat.lt_of_lt_of_le hV (Nat.pow_le_pow_right (by omega) (by omega))), Nat.zero_mod]
theorem dn0 {x0 x1 x2 x3 r : Nat} (h0 : x0 < 18446744073709551616) (h1 : x1 < 18446744073709551616) (h2 : x2 < 18446744073709551616) (h3 : x3 < 18446744073709551616) (hr : r < 64) (hp : 0 < 64 * 0 + r) : WCall Tryd.prog 34 [.agg ⟨[.int .u64 (x0 : Nat), .int .u64 (x1 : Nat), .int .u64 (x2 : Nat), .int .u64 (x3 : Nat)]⟩, .int .i64 (-((64 * 0 + r : Nat) : Int))] (numV (vl x0 x1 x2 x3 / 2 ^ (64 * 0 + r))) := by
  obtain ⟨e0, e1, e2, e3, e4⟩ := wdN_vl h0 h1 h2 h3
  have ez : ∀ i, 4 ≤ i → wdN (vl x0 x1 x2 x3) i = 0 := wdN_high h0 h1 h2 h3
  have w0 : w64 (vl x0 x1 x2 x3 / 2 ^ (64 * 0 + r)) 0 = (((x0 / 2 ^ r) ||| (x1 * 2 ^ (64 - r) % 2 ^ 64) : Nat) : Int) := by rw [w64_wdN, shr_word _ _ _ _ hr, show 0 + 0 + 1 = 1 from rfl, show 0 + 0 = 0 from rfl, e0, e1]
  have w1 : w64 (vl x0 x1 x2 x3 / 2 ^ (64 * 0 + r)) 1 = (((x1 / 2 ^ r) ||| (x2 * 2 ^ (64 - r) % 2 ^ 64) : Nat) : Int) := by rw [w64_wdN, shr_word _ _ _ _ hr, show 1 + 0 + 1 = 2 from rfl, show 1 + 0 = 1 from rfl, e1, e2]
  have w2 : w64 (vl x0 x1 x2 x3 / 2 ^ (64 * 0 + r)) 2 = (((x2 / 2 ^ r) ||| (x3 * 2 ^ (64 - r) % 2 ^ 64) : Nat) : Int) := by rw [w64_wdN, shr_word _ _ _ _ hr, show 2 + 0 + 1 = 3 from rfl, show 2 + 0 = 2 from rfl, e2, e3]
  have w3 : w64 (vl x0 x1 x2 x3 / 2 ^ (64 * 0 + r)) 3 = ((x3 / 2 ^ r : Nat) : Int) := by rw [w64_wdN, shr_word _ _ _ _ hr, ez (3 + 0 + 1) (by omega), show 3 + 0 = 3 from rfl, e3, Nat.zero_mul, Nat.zero_mod, Nat.or_zero]
  unfold numV
  rw [w0, w1, w2, w3]
  exact WCall.of_taken mixed T0_ok [(51, .bool false), (54, .bool false), (58, .bool false), (13, .int .i64 ((64 * 0 + r : Nat) : Int)), (14, .int .i64 0), (16, .int .i64 ((64 * 0 + r : Nat) : Int)), (17, .int .i64 (r : Nat)), (18, u64 r), (31, u64 (x0 / 2 ^ r)), (45, u64 (64 - r)), (46, u64 (x1 * 2 ^ (64 - r) % 2 ^ 64)), (47, u64 ((x0 / 2 ^ r) ||| (x1 * 2 ^ (64 - r) % 2 ^ 64))), (31, u64 (x1 / 2 ^ r)), (45, u64 (64 - r)), (46, u64 (x2 * 2 ^ (64 - r) % 2 ^ 64)), (47, u64 ((x1 / 2 ^ r) ||| (x2 * 2 ^ (64 - r) % 2 ^ 64))), (31, u64 (x2 / 2 ^ r)), (45, u64 (64 - r)), (46, u64 (x3 * 2 ^ (64 - r) % 2 ^ 64)), (47, u64 ((x2 / 2 ^ r) ||| (x3 * 2 ^ (64 - r) % 2 ^ 64))), (31, u64 (x3 / 2 ^ r))] 60 1 _ (by kernel_rfl) (ob (a := decide (-((64 * 0 + r : Nat) : Int) > 255)) (dec_f (by omega)) (ob (a := decide (-((64 * 0 + r : Nat) : Int) < -255)) (dec_f (by omega)) (ob (a := decide (-((64 * 0 + r : Nat) : Int) ≥ 0)) (dec_f (by omega)) (oi (a := IntKind.i64.wrap (0 - -((64 * 0 + r : Nat) : Int))) (b := ((64 * 0 + r : Nat) : Int)) (by rw [IntWalk.i64_in _ (by omega)]; omega) (oi (a := IntKind.i64.wrap (((64 * 0 + r : Nat) : Int).tdiv 64)) (b := 0) (by rw [Int.tdiv_eq_ediv_of_nonneg (by omega), IntWalk.i64_in _ (by omega)]; omega) (oi (a := IntKind.i64.wrap (0 - -((64 * 0 + r : Nat) : Int))) (b := ((64 * 0 + r : Nat) : Int)) (by rw [IntWalk.i64_in _ (by omega)]; omega) (oi (a := ((64 * 0 + r : Nat) : Int).tmod 64) (b := (r : Nat)) (by rw [Int.tmod_eq_emod_of_nonneg (by omega)]; omega) (om (a := IntKind.u64.wrap (r : Int)) (b := (r : Nat)) (by rw [IntWalk.u64_in _ (by omega)]) (om (shr_one (x := x0) hr) (om (sub64r hr) (om (shl_top (x := x1) (r := r)) (om (bor64_nat (x := x0 / 2 ^ r) (y := x1 * 2 ^ (64 - r) % 2 ^ 64) (div_lt64 h0) (Nat.mod_lt _ (by omega))) (om (shr_one (x := x1) hr) (om (sub64r hr) (om (shl_top (x := x2) (r := r)) (om (bor64_nat (x := x1 / 2 ^ r) (y := x2 * 2 ^ (64 - r) % 2 ^ 64) (div_lt64 h1) (Nat.mod_lt _ (by omega))) (om (shr_one (x := x2) hr) (om (sub64r hr) (om (shl_top (x := x3) (r := r)) (om (bor64_nat (x := x2 / 2 ^ r) (y := x3 * 2 ^ (64 - r) % 2 ^ 64) (div_lt64 h2) (Nat.mod_lt _ (by omega))) (om (shr_one (x := x3) hr) .nil))))))))))))))))))))) rfl rfl
theorem dn1 {x0 x1 x2 x3 r : Nat} (h0 : x0 < 18446744073709551616) (h1 : x1 < 18446744073709551616) (h2 : x2 < 18446744073709551616) (h3 : x3 < 18446744073709551616) (hr : r < 64) : WCall Tryd.prog 34 [.agg ⟨[.int .u64 (x0 : Nat), .int .u64 (x1 : Nat), .int .u64 (x2 : Nat), .int .u64 (x3 : Nat)]⟩, .int .i64 (-((64 * 1 + r : Nat) : Int))] (numV (vl x0 x1 x2 x3 / 2 ^ (64 * 1 + r))) := by
  obtain ⟨e0, e1, e2, e3, e4⟩ := wdN_vl h0 h1 h2 h3
  have ez : ∀ i, 4 ≤ i → wdN (vl x0 x1 x2 x3) i = 0 := wdN_high h0 h1 h2 h3
  have w0 : w64 (vl x0 x1 x2 x3 / 2 ^ (64 * 1 + r)) 0 = (((x1 / 2 ^ r) ||| (x2 * 2 ^ (64 - r) % 2 ^ 64) : Nat) : Int) := by rw [w64_wdN, shr_word _ _ _ _ hr, show 0 + 1 + 1 = 2 from rfl, show 0 + 1 = 1 from rfl, e1, e2]
  have w1 : w64 (vl x0 x1 x2 x3 / 2 ^ (64 * 1 + r)) 1 = (((x2 / 2 ^ r) ||| (x3 * 2 ^ (64 - r) % 2 ^ 64) : Nat) : Int) := by rw [w64_wdN, shr_word _ _ _ _ hr, show 1 + 1 + 1 = 3 from rfl, show 1 + 1 = 2 from rfl, e2, e3]
  have w2 : w64 (vl x0 x1 x2 x3 / 2 ^ (64 * 1 + r)) 2 = ((x3 / 2 ^ r : Nat) : Int) := by rw [w64_wdN, shr_word _ _ _ _ hr, ez (2 + 1 + 1) (by omega), show 2 + 1 = 3 from rfl, e3, Nat.zero_mul, Nat.zero_mod, Nat.or_zero]
  have w3 : w64 (vl x0 x1 x2 x3 / 2 ^ (64 * 1 + r)) 3 = 0 := by rw [w64_wdN, shr_word _ _ _ _ hr, ez _ (by omega), ez _ (by omega), Nat.zero_div, Nat.zero_mul]; rfl
  unfold numV
  rw [w0, w1, w2, w3]
  exact WCall.of_taken mixed T0_ok [(51, .bool false), (54, .bool false), (58, .bool false), (13, .int .i64 ((64 * 1 + r : Nat) : Int)), (14, .int .i64 1), (16, .int .i64 ((64 * 1 + r : Nat) : Int)), (17, .int .i64 (r : Nat)), (18, u64 r), (31, u64 (x1 / 2 ^ r)), (45, u64 (64 - r)), (46, u64 (x2 * 2 ^ (64 - r) % 2 ^ 64)), (47, u64 ((x1 / 2 ^ r) ||| (x2 * 2 ^ (64 - r) % 2 ^ 64))), (31, u64 (x2 / 2 ^ r)), (45, u64 (64 - r)), (46, u64 (x3 * 2 ^ (64 - r) % 2 ^ 64)), (47, u64 ((x2 / 2 ^ r) ||| (x3 * 2 ^ (64 - r) % 2 ^ 64))), (31, u64 (x3 / 2 ^ r))] 60 1 _ (by kernel_rfl) (ob (a := decide (-((64 * 1 + r : Nat) : Int) > 255)) (dec_f (by omega)) (ob (a := decide (-((64 * 1 + r : Nat) : Int) < -255)) (dec_f (by omega)) (ob (a := decide (-((64 * 1 + r : Nat) : Int) ≥ 0)) (dec_f (by omega)) (oi (a := IntKind.i64.wrap (0 - -((64 * 1 + r : Nat) : Int))) (b := ((64 * 1 + r : Nat) : Int)) (by rw [IntWalk.i64_in _ (by omega)]; omega) (oi (a := IntKind.i64.wrap (((64 * 1 + r : Nat) : Int).tdiv 64)) (b := 1) (by rw [Int.tdiv_eq_ediv_of_nonneg (by omega), IntWalk.i64_in _ (by omega)]; omega) (oi (a := IntKind.i64.wrap (0 - -((64 * 1 + r : Nat) : Int))) (b := ((64 * 1 + r : Nat) : Int)) (by rw [IntWalk.i64_in _ (by omega)]; omega) (oi (a := ((64 * 1 + r : Nat) : Int).tmod 64) (b := (r : Nat)) (by rw [Int.tmod_eq_emod_of_nonneg (by omega)]; omega) (om (a := IntKind.u64.wrap (r : Int)) (b := (r : Nat)) (by rw [IntWalk.u64_in _ (by omega)]) (om (shr_one (x := x1) hr) (om (sub64r hr) (om (shl_top (x := x2) (r := r)) (om (bor64_nat (x := x1 / 2 ^ r) (y := x2 * 2 ^ (64 - r) % 2 ^ 64) (div_lt64 h1) (Nat.mod_lt _ (by omega))) (om (shr_one (x := x2) hr) (om (sub64r hr) (om (shl_top (x := x3) (r := r)) (om (bor64_nat (x := x2 / 2 ^ r) (y := x3 * 2 ^ (64 - r) % 2 ^ 64) (div_lt64 h2) (Nat.mod_lt _ (by omega))) (om (shr_one (x := x3) hr) .nil))))))))))))))))) rfl rfl
theorem dn2 {x0 x1 x2 x3 r : Nat} (h0 : x0 < 18446744073709551616) (h1 : x1 < 18446744073709551616) (h2 : x2 < 18446744073709551616) (h3 : x3 < 18446744073709551616) (hr : r < 64) : WCall Tryd.prog 34 [.agg ⟨[.int .u64 (x0 : Nat), .int .u64 (x1 : Nat), .int .u64 (x2 : Nat), .int .u64 (x3 : Nat)]⟩, .int .i64 (-((64 * 2 + r : Nat) : Int))] (numV (vl x0 x1 x2 x3 / 2 ^ (64 * 2 + r))) := by
  obtain ⟨e0, e1, e2, e3, e4⟩ := wdN_vl h0 h1 h2 h3
  have ez : ∀ i, 4 ≤ i → wdN (vl x0 x1 x2 x3) i = 0 := wdN_high h0 h1 h2 h3
  have w0 : w64 (vl x0 x1 x2 x3 / 2 ^ (64 * 2 + r)) 0 = (((x2 / 2 ^ r) ||| (x3 * 2 ^ (64 - r) % 2 ^ 64) : Nat) : Int) := by rw [w64_wdN, shr_word _ _ _ _ hr, show 0 + 2 + 1 = 3 from rfl, show 0 + 2 = 2 from rfl, e2, e3]
  have w1 : w64 (vl x0 x1 x2 x3 / 2 ^ (64 * 2 + r)) 1 = ((x3 / 2 ^ r : Nat) : Int) := by rw [w64_wdN, shr_word _ _ _ _ hr, ez (1 + 2 + 1) (by omega), show 1 + 2 = 3 from rfl, e3, Nat.zero_mul, Nat.zero_mod, Nat.or_zero]
  have w2 : w64 (vl x0 x1 x2 x3 / 2 ^ (64 * 2 + r)) 2 = 0 := by rw [w64_wdN, shr_word _ _ _ _ hr, ez _ (by omega), ez _ (by omega), Nat.zero_div, Nat.zero_mul]; rfl
  have w3 : w64 (vl x0 x1 x2 x3 / 2 ^ (64 * 2 + r)) 3 = 0 := by rw [w64_wdN, shr_word _ _ _ _ hr, ez _ (by omega), ez _ (by omega), Nat.zero_div, Nat.zero_mul]; rfl
  unfold numV
  rw [w0, w1, w2, w3]
  exact WCall.of_taken mixed T0_ok [(51, .bool false), (54, .bool false), (58, .bool false), (13, .int .i64 ((64 * 2 + r : Nat) : Int)), (14, .int .i64 2), (16, .int .i64 ((64 * 2 + r : Nat) : Int)), (17, .int .i64 (r : Nat)), (18, u64 r), (31, u64 (x2 / 2 ^ r)), (45, u64 (64 - r)), (46, u64 (x3 * 2 ^ (64 - r) % 2 ^ 64)), (47, u64 ((x2 / 2 ^ r) ||| (x3 * 2 ^ (64 - r) % 2 ^ 64))), (31, u64 (x3 / 2 ^ r))] 60 1 _ (by kernel_rfl) (ob (a := decide (-((64 * 2 + r : Nat) : Int) > 255)) (dec_f (by omega)) (ob (a := decide (-((64 * 2 + r : Nat) : Int) < -255)) (dec_f (by omega)) (ob (a := decide (-((64 * 2 + r : Nat) : Int) ≥ 0)) (dec_f (by omega)) (oi (a := IntKind.i64.wrap (0 - -((64 * 2 + r : Nat) : Int))) (b := ((64 * 2 + r : Nat) : Int)) (by rw [IntWalk.i64_in _ (by omega)]; omega) (oi (a := IntKind.i64.wrap (((64 * 2 + r : Nat) : Int).tdiv 64)) (b := 2) (by rw [Int.tdiv_eq_ediv_of_nonneg (by omega), IntWalk.i64_in _ (by omega)]; omega) (oi (a := IntKind.i64.wrap (0 - -((64 * 2 + r : Nat) : Int))) (b := ((64 * 2 + r : Nat) : Int)) (by rw [IntWalk.i64_in _ (by omega)]; omega) (oi (a := ((64 * 2 + r : Nat) : Int).tmod 64) (b := (r : Nat)) (by rw [Int.tmod_eq_emod_of_nonneg (by omega)]; omega) (om (a := IntKind.u64.wrap (r : Int)) (b := (r : Nat)) (by rw [IntWalk.u64_in _ (by omega)]) (om (shr_one (x := x2) hr) (om (sub64r hr) (om (shl_top (x := x3) (r := r)) (om (bor64_nat (x := x2 / 2 ^ r) (y := x3 * 2 ^ (64 - r) % 2 ^ 64) (div_lt64 h2) (Nat.mod_lt _ (by omega))) (om (shr_one (x := x3) hr) .nil))))))))))))) rfl rfl
theorem dn3 {x0 x1 x2 x3 r : Nat} (h0 : x0 < 18446744073709551616) (h1 : x1 < 18446744073709551616) (h2 : x2 < 18446744073709551616) (h3 : x3 < 18446744073709551616) (hr : r < 64) : WCall Tryd.prog 34 [.agg ⟨[.int .u64 (x0 : Nat), .int .u64 (x1 : Nat), .int .u64 (x2 : Nat), .int .u64 (x3 : Nat)]⟩, .int .i64 (-((64 * 3 + r : Nat) : Int))] (numV (vl x0 x1 x2 x3 / 2 ^ (64 * 3 + r))) := by
  obtain ⟨e0, e1, e2, e3, e4⟩ := wdN_vl h0 h1 h2 h3
  have ez : ∀ i, 4 ≤ i → wdN (vl x0 x1 x2 x3) i = 0 := wdN_high h0 h1 h2 h3
  have w0 : w64 (vl x0 x1 x2 x3 / 2 ^ (64 * 3 + r)) 0 = ((x3 / 2 ^ r : Nat) : Int) := by rw [w64_wdN, shr_word _ _ _ _ hr, ez (0 + 3 + 1) (by omega), show 0 + 3 = 3 from rfl, e3, Nat.zero_mul, Nat.zero_mod, Nat.or_zero]
  have w1 : w64 (vl x0 x1 x2 x3 / 2 ^ (64 * 3 + r)) 1 = 0 := by rw [w64_wdN, shr_word _ _ _ _ hr, ez _ (by omega), ez _ (by omega), Nat.zero_div, Nat.zero_mul]; rfl
  have w2 : w64 (vl x0 x1 x2 x3 / 2 ^ (64 * 3 + r)) 2 = 0 := by rw [w64_wdN, shr_word _ _ _ _ hr, ez _ (by omega), ez _ (by omega), Nat.zero_div, Nat.zero_mul]; rfl
  have w3 : w64 (vl x0 x1 x2 x3 / 2 ^ (64 * 3 + r)) 3 = 0 := by rw [w64_wdN, shr_word _ _ _ _ hr, ez _ (by omega), ez _ (by omega), Nat.zero_div, Nat.zero_mul]; rfl
  unfold numV
  rw [w0, w1, w2, w3]
  exact WCall.of_taken mixed T0_ok [(51, .bool false), (54, .bool false), (58, .bool false), (13, .int .i64 ((64 * 3 + r : Nat) : Int)), (14, .int .i64 3), (16, .int .i64 ((64 * 3 + r : Nat) : Int)), (17, .int .i64 (r : Nat)), (18, u64 r), (31, u64 (x3 / 2 ^ r))] 60 1 _ (by kernel_rfl) (ob (a := decide (-((64 * 3 + r : Nat) : Int) > 255)) (dec_f (by omega)) (ob (a := decide (-((64 * 3 + r : Nat) : Int) < -255)) (dec_f (by omega)) (ob (a := decide (-((64 * 3 + r : Nat) : Int) ≥ 0)) (dec_f (by omega)) (oi (a := IntKind.i64.wrap (0 - -((64 * 3 + r : Nat) : Int))) (b := ((64 * 3 + r : Nat) : Int)) (by rw [IntWalk.i64_in _ (by omega)]; omega) (oi (a := IntKind.i64.wrap (((64 * 3 + r : Nat) : Int).tdiv 64)) (b := 3) (by rw [Int.tdiv_eq_ediv_of_nonneg (by omega), IntWalk.i64_in _ (by omega)]; omega) (oi (a := IntKind.i64.wrap (0 - -((64 * 3 + r : Nat) : Int))) (b := ((64 * 3 + r : Nat) : Int)) (by rw [IntWalk.i64_in _ (by omega)]; omega) (oi (a := ((64 * 3 + r : Nat) : Int).tmod 64) (b := (r : Nat)) (by rw [Int.tmod_eq_emod_of_nonneg (by omega)]; omega) (om (a := IntKind.u64.wrap (r : Int)) (b := (r : Nat)) (by rw [IntWalk.u64_in _ (by omega)]) (om (shr_one (x := x3) hr) .nil))))))))) rfl rfl
theorem shift_con : WCon Tryd.prog 34 shiftG := by
  intro l v h hw
  unfold shiftG at h
  split at h
  · rename_i a0 a1 a2 a3 n
    injection h with h; subst h
    obtain ⟨x0, x1, x2, x3, h0, h1, h2, h3, rfl, rfl, rfl, rfl⟩ := bits4 (hw (.agg ⟨[.int .u64 a0, .int .u64 a1, .int .u64 a2, .int .u64 a3]⟩) (by simp))
    revert hw
    have z : numV 0 = .agg ⟨[.int .u64 0, .int .u64 0, .int .u64 0, .int .u64 0]⟩ := by unfold numV; simp only [w64_zero]
    unfold shiftN
    by_cases g1 : n > 255
    · rw [if_pos g1, z]
      exact WCall.of_tests mixed T0_ok 60 1 [(51, decide (n > 255), true)] (by kernel_rfl) (tests_cons (dec_t g1) tests_nil) rfl rfl
    by_cases g2 : n < -255
    · rw [if_neg g1, if_pos g2, z]
      exact WCall.of_tests mixed T0_ok 60 1 [(51, decide (n > 255), false), (54, decide (n < -255), true)] (by kernel_rfl) (tests_cons (dec_f g1) (tests_cons (dec_t g2) tests_nil)) rfl rfl
    rw [if_neg g1, if_neg g2]
    by_cases g3 : 0 ≤ n
    · rw [if_pos g3]
      obtain ⟨q, r, hq, hr, hn⟩ : ∃ q r : Nat, q < 4 ∧ r < 64 ∧ n = ((64 * q + r : Nat) : Int) := ⟨n.toNat / 64, n.toNat % 64, by omega, by omega, by omega⟩
      subst hn
      rw [Int.toNat_natCast]
      unfold upN
      obtain rfl | rfl | rfl | rfl : q = 0 ∨ q = 1 ∨ q = 2 ∨ q = 3 := by omega
      · exact up0 h0 h1 h2 h3 hr
      · exact up1 h0 h1 h2 h3 hr
      · exact up2 h0 h1 h2 h3 hr
      · exact up3 h0 h1 h2 h3 hr
    · rw [if_neg g3]
      obtain ⟨q, r, hq, hr, hn⟩ : ∃ q r : Nat, q < 4 ∧ r < 64 ∧ n = -((64 * q + r : Nat) : Int) := ⟨(-n).toNat / 64, (-n).toNat % 64, by omega, by omega, by omega⟩
      have hp : 0 < 64 * q + r := by omega
      subst hn
      rw [Int.neg_neg, Int.toNat_natCast]
      unfold dnN
      obtain rfl | rfl | rfl | rfl : q = 0 ∨ q = 1 ∨ q = 2 ∨ q = 3 := by omega
      · exact dn0 h0 h1 h2 h3 hr hp
      · exact dn1 h0 h1 h2 h3 hr
      · exact dn2 h0 h1 h2 h3 hr
      · exact dn3 h0 h1 h2 h3 hr
  · cases h
def T10 : Tbl := (34, shiftG) :: T9
theorem T10_ok : ∀ p ∈ T10, WCon Tryd.prog p.1 p.2 := WCons.cons shift_con T9_ok
end Go.Proofs.YtghmfiandllpfaaDoor.Lb
namespace Go.Proofs.YtghmfiandllpfaaDoor.Lb
open Go.Ab

/-- how many bits a number has -/
def blen (x : Nat) : Nat := if x = 0 then 0 else x.log2 + 1
theorem blen_shift {x k : Nat} (h : 2 ^ k ≤ x) : blen x = k + blen (x / 2 ^ k) := by
  have hk : 0 < 2 ^ k := Nat.two_pow_pos k
  have h1 : x / 2 ^ k ≠ 0 := by
    have := Nat.div_pos h hk; omega
  have h0 : x ≠ 0 := by omega
  unfold blen
  rw [if_neg h0, if_neg h1]
  have e := (Nat.log2_eq_iff h1 (k := (x / 2 ^ k).log2)).1 rfl
  have : x.log2 = k + (x / 2 ^ k).log2 := by
    refine (Nat.log2_eq_iff h0).2 ⟨?_, ?_⟩
    · rw [Nat.pow_add]
      exact Nat.le_trans (Nat.mul_le_mul_left _ e.1) (Nat.mul_div_le _ _)
    · rw [Nat.add_assoc, Nat.pow_add, Nat.mul_comm]
      exact (Nat.div_lt_iff_lt_mul hk).1 e.2
  omega
theorem all_of {α : Type} {f g : Nat → α} {n : Nat} (h : (List.range n).map f = (List.range n).map g) {y : Nat} (hy : y < n) : f y = g y := by
  have := congrArg (fun l => l[y]?) h
  simpa [hy] using this
def len64G : List Value → Option Value
  | [.int .u64 x] => some (.int .i64 (blen x.toNat : Nat))
  | _ => none
theorem shr_is (x k : Nat) : (x : Int).fdiv (2 ^ k) = ((x / 2 ^ k : Nat) : Int) := fdiv_pow x k
theorem len_111 (x : Nat) : (List.range 256).map (fun y => shapeF (runFT (cx Tryd.prog T0) 40 1 [(4, .bool true), (6, u64 (x / 2 ^ 32)), (8, .bool true), (10, u64 ((x / 2 ^ 32) / 2 ^ 16)), (14, .bool true), (16, u64 (((x / 2 ^ 32) / 2 ^ 16) / 2 ^ 8)), (20, u64 y)] 57 [u64 x] [])) = (List.range 256).map (fun y => some (.int .i64 (56 + (blen y : Nat)), [(.bool (decide (((x : Nat) : Int) ≥ 4294967296)), .bool true), (.int .u64 (((x : Nat) : Int).fdiv (2 ^ 32)), u64 (x / 2 ^ 32)), (.bool (decide ((((x / 2 ^ 32) : Nat) : Int) ≥ 65536)), .bool true), (.int .u64 ((((x / 2 ^ 32) : Nat) : Int).fdiv (2 ^ 16)), u64 ((x / 2 ^ 32) / 2 ^ 16)), (.bool (decide (((((x / 2 ^ 32) / 2 ^ 16) : Nat) : Int) ≥ 256)), .bool true), (.int .u64 (((((x / 2 ^ 32) / 2 ^ 16) : Nat) : Int).fdiv (2 ^ 8)), u64 (((x / 2 ^ 32) / 2 ^ 16) / 2 ^ 8)), (u64 (((x / 2 ^ 32) / 2 ^ 16) / 2 ^ 8), u64 y)])) := by kernel_rfl
theorem len_110 (x : Nat) : (List.range 256).map (fun y => shapeF (runFT (cx Tryd.prog T0) 40 1 [(4, .bool true), (6, u64 (x / 2 ^ 32)), (8, .bool true), (10, u64 ((x / 2 ^ 32) / 2 ^ 16)), (14, .bool false), (20, u64 y)] 57 [u64 x] [])) = (List.range 256).map (fun y => some (.int .i64 (48 + (blen y : Nat)), [(.bool (decide (((x : Nat) : Int) ≥ 4294967296)), .bool true), (.int .u64 (((x : Nat) : Int).fdiv (2 ^ 32)), u64 (x / 2 ^ 32)), (.bool (decide ((((x / 2 ^ 32) : Nat) : Int) ≥ 65536)), .bool true), (.int .u64 ((((x / 2 ^ 32) : Nat) : Int).fdiv (2 ^ 16)), u64 ((x / 2 ^ 32) / 2 ^ 16)), (.bool (decide (((((x / 2 ^ 32) / 2 ^ 16) : Nat) : Int) ≥ 256)), .bool false), (u64 ((x / 2 ^ 32) / 2 ^ 16), u64 y)])) := by kernel_rfl
theorem len_101 (x : Nat) : (List.range 256).map (fun y => shapeF (runFT (cx Tryd.prog T0) 40 1 [(4, .bool true), (6, u64 (x / 2 ^ 32)), (8, .bool false), (14, .bool true), (16, u64 ((x / 2 ^ 32) / 2 ^ 8)), (20, u64 y)] 57 [u64 x] [])) = (List.range 256).map (fun y => some (.int .i64 (40 + (blen y : Nat)), [(.bool (decide (((x : Nat) : Int) ≥ 4294967296)), .bool true), (.int .u64 (((x : Nat) : Int).fdiv (2 ^ 32)), u64 (x / 2 ^ 32)), (.bool (decide ((((x / 2 ^ 32) : Nat) : Int) ≥ 65536)), .bool false), (.bool (decide ((((x / 2 ^ 32) : Nat) : Int) ≥ 256)), .bool true), (.int .u64 ((((x / 2 ^ 32) : Nat) : Int).fdiv (2 ^ 8)), u64 ((x / 2 ^ 32) / 2 ^ 8)), (u64 ((x / 2 ^ 32) / 2 ^ 8), u64 y)])) := by kernel_rfl
theorem len_100 (x : Nat) : (List.range 256).map (fun y => shapeF (runFT (cx Tryd.prog T0) 40 1 [(4, .bool true), (6, u64 (x / 2 ^ 32)), (8, .bool false), (14, .bool false), (20, u64 y)] 57 [u64 x] [])) = (List.range 256).map (fun y => some (.int .i64 (32 + (blen y : Nat)), [(.bool (decide (((x : Nat) : Int) ≥ 4294967296)), .bool true), (.int .u64 (((x : Nat) : Int).fdiv (2 ^ 32)), u64 (x / 2 ^ 32)), (.bool (decide ((((x / 2 ^ 32) : Nat) : Int) ≥ 65536)), .bool false), (.bool (decide ((((x / 2 ^ 32) : Nat) : Int) ≥ 256)), .bool false), (u64 (x / 2 ^ 32), u64 y)])) := by kernel_rfl
theorem len_011 (x : Nat) : (List.range 256).map (fun y => shapeF (runFT (cx Tryd.prog T0) 40 1 [(4, .bool false), (8, .bool true), (10, u64 (x / 2 ^ 16)), (14, .bool true), (16, u64 ((x / 2 ^ 16) / 2 ^ 8)), (20, u64 y)] 57 [u64 x] [])) = (List.range 256).map (fun y => some (.int .i64 (24 + (blen y : Nat)), [(.bool (decide (((x : Nat) : Int) ≥ 4294967296)), .bool false), (.bool (decide (((x : Nat) : Int) ≥ 65536)), .bool true), (.int .u64 (((x : Nat) : Int).fdiv (2 ^ 16)), u64 (x / 2 ^ 16)), (.bool (decide ((((x / 2 ^ 16) : Nat) : Int) ≥ 256)), .bool true), (.int .u64 ((((x / 2 ^ 16) : Nat) : Int).fdiv (2 ^ 8)), u64 ((x / 2 ^ 16) / 2 ^ 8)), (u64 ((x / 2 ^ 16) / 2 ^ 8), u64 y)])) := by kernel_rfl
theorem len_010 (x : Nat) : (List.range 256).map (fun y => shapeF (runFT (cx Tryd.prog T0) 40 1 [(4, .bool false), (8, .bool true), (10, u64 (x / 2 ^ 16)), (14, .bool false), (20, u64 y)] 57 [u64 x] [])) = (List.range 256).map (fun y => some (.int .i64 (16 + (blen y : Nat)), [(.bool (decide (((x : Nat) : Int) ≥ 4294967296)), .bool false), (.bool (decide (((x : Nat) : Int) ≥ 65536)), .bool true), (.int .u64 (((x : Nat) : Int).fdiv (2 ^ 16)), u64 (x / 2 ^ 16)), (.bool (decide ((((x / 2 ^ 16) : Nat) : Int) ≥ 256)), .bool false), (u64 (x / 2 ^ 16), u64 y)])) := by kernel_rfl
theorem len_001 (x : Nat) : (List.range 256).map (fun y => shapeF (runFT (cx Tryd.prog T0) 40 1 [(4, .bool false), (8, .bool false), (14, .bool true), (16, u64 (x / 2 ^ 8)), (20, u64 y)] 57 [u64 x] [])) = (List.range 256).map (fun y => some (.int .i64 (8 + (blen y : Nat)), [(.bool (decide (((x : Nat) : Int) ≥ 4294967296)), .bool false), (.bool (decide (((x : Nat) : Int) ≥ 65536)), .bool false), (.bool (decide (((x : Nat) : Int) ≥ 256)), .bool true), (.int .u64 (((x : Nat) : Int).fdiv (2 ^ 8)), u64 (x / 2 ^ 8)), (u64 (x / 2 ^ 8), u64 y)])) := by kernel_rfl
theorem len_000 (x : Nat) : (List.range 256).map (fun y => shapeF (runFT (cx Tryd.prog T0) 40 1 [(4, .bool false), (8, .bool false), (14, .bool false), (20, u64 y)] 57 [u64 x] [])) = (List.range 256).map (fun y => some (.int .i64 (0 + (blen y : Nat)), [(.bool (decide (((x : Nat) : Int) ≥ 4294967296)), .bool false), (.bool (decide (((x : Nat) : Int) ≥ 65536)), .bool false), (.bool (decide (((x : Nat) : Int) ≥ 256)), .bool false), (u64 x, u64 y)])) := by kernel_rfl
end Go.Proofs.YtghmfiandllpfaaDoor.Lb
namespace Go.Proofs.YtghmfiandllpfaaDoor.Lb
open Go.Ab

theorem ge_t {x m : Nat} (h : m ≤ x) : decide ((x : Int) ≥ (m : Int)) = true := decide_eq_true (by omega)
theorem ge_f {x m : Nat} (h : ¬ m ≤ x) : decide ((x : Int) ≥ (m : Int)) = false := decide_eq_false (by omega)
theorem len64_con : WCon Tryd.prog 57 len64G := by
  intro l v h hw
  unfold len64G at h
  split at h
  · rename_i x
    injection h with h; subst h
    obtain ⟨x, hx, rfl⟩ := of_u64 (wf_cellof (hw (.int .u64 x) (by simp)))
    rw [Int.toNat_natCast]
    revert hw
    by_cases p0 : 4294967296 ≤ x
    · have q0 : 2 ^ 32 ≤ x := p0
      by_cases p1 : 65536 ≤ (x / 2 ^ 32)
      · have q1 : 2 ^ 16 ≤ (x / 2 ^ 32) := p1
        by_cases p2 : 256 ≤ ((x / 2 ^ 32) / 2 ^ 16)
        · have q2 : 2 ^ 8 ≤ ((x / 2 ^ 32) / 2 ^ 16) := p2
          have hy : (((x / 2 ^ 32) / 2 ^ 16) / 2 ^ 8) < 256 := by omega
          have eb111_32 : blen x = 32 + blen (x / 2 ^ 32) := blen_shift (by omega)
          have eb111_16 : blen (x / 2 ^ 32) = 16 + blen ((x / 2 ^ 32) / 2 ^ 16) := blen_shift (by omega)
          have eb111_8 : blen ((x / 2 ^ 32) / 2 ^ 16) = 8 + blen (((x / 2 ^ 32) / 2 ^ 16) / 2 ^ 8) := blen_shift (by omega)
          have hv : ((blen x : Nat) : Int) = 56 + (blen (((x / 2 ^ 32) / 2 ^ 16) / 2 ^ 8) : Nat) := by rw [eb111_32, eb111_16, eb111_8]; omega
          rw [hv]
          exact WCall.of_taken mixed T0_ok _ 40 1 _ (all_of (len_111 x) hy) (ob (ge_t p0) (om (shr_is x 32) (ob (ge_t p1) (om (shr_is (x / 2 ^ 32) 16) (ob (ge_t p2) (om (shr_is ((x / 2 ^ 32) / 2 ^ 16) 8) (om (a := ((((x / 2 ^ 32) / 2 ^ 16) / 2 ^ 8) : Nat)) rfl .nil))))))) rfl rfl
        · have hy : ((x / 2 ^ 32) / 2 ^ 16) < 256 := by omega
          have eb110_32 : blen x = 32 + blen (x / 2 ^ 32) := blen_shift (by omega)
          have eb110_16 : blen (x / 2 ^ 32) = 16 + blen ((x / 2 ^ 32) / 2 ^ 16) := blen_shift (by omega)
          have hv : ((blen x : Nat) : Int) = 48 + (blen ((x / 2 ^ 32) / 2 ^ 16) : Nat) := by rw [eb110_32, eb110_16]; omega
          rw [hv]
          exact WCall.of_taken mixed T0_ok _ 40 1 _ (all_of (len_110 x) hy) (ob (ge_t p0) (om (shr_is x 32) (ob (ge_t p1) (om (shr_is (x / 2 ^ 32) 16) (ob (ge_f p2) (om (a := (((x / 2 ^ 32) / 2 ^ 16) : Nat)) rfl .nil)))))) rfl rfl
      · by_cases p2 : 256 ≤ (x / 2 ^ 32)
        · have q2 : 2 ^ 8 ≤ (x / 2 ^ 32) := p2
          have hy : ((x / 2 ^ 32) / 2 ^ 8) < 256 := by omega
          have eb101_32 : blen x = 32 + blen (x / 2 ^ 32) := blen_shift (by omega)
          have eb101_8 : blen (x / 2 ^ 32) = 8 + blen ((x / 2 ^ 32) / 2 ^ 8) := blen_shift (by omega)
          have hv : ((blen x : Nat) : Int) = 40 + (blen ((x / 2 ^ 32) / 2 ^ 8) : Nat) := by rw [eb101_32, eb101_8]; omega
          rw [hv]
          exact WCall.of_taken mixed T0_ok _ 40 1 _ (all_of (len_101 x) hy) (ob (ge_t p0) (om (shr_is x 32) (ob (ge_f p1) (ob (ge_t p2) (om (shr_is (x / 2 ^ 32) 8) (om (a := (((x / 2 ^ 32) / 2 ^ 8) : Nat)) rfl .nil)))))) rfl rfl
        · have hy : (x / 2 ^ 32) < 256 := by omega
          have eb100_32 : blen x = 32 + blen (x / 2 ^ 32) := blen_shift (by omega)
          have hv : ((blen x : Nat) : Int) = 32 + (blen (x / 2 ^ 32) : Nat) := by rw [eb100_32]; omega
          rw [hv]
          exact WCall.of_taken mixed T0_ok _ 40 1 _ (all_of (len_100 x) hy) (ob (ge_t p0) (om (shr_is x 32) (ob (ge_f p1) (ob (ge_f p2) (om (a := ((x / 2 ^ 32) : Nat)) rfl .nil))))) rfl rfl
    · by_cases p1 : 65536 ≤ x
      · have q1 : 2 ^ 16 ≤ x := p1
        by_cases p2 : 256 ≤ (x / 2 ^ 16)
        · have q2 : 2 ^ 8 ≤ (x / 2 ^ 16) := p2
          have hy : ((x / 2 ^ 16) / 2 ^ 8) < 256 := by omega
          have eb011_16 : blen x = 16 + blen (x / 2 ^ 16) := blen_shift (by omega)
          have eb011_8 : blen (x / 2 ^ 16) = 8 + blen ((x / 2 ^ 16) / 2 ^ 8) := blen_shift (by omega)
          have hv : ((blen x : Nat) : Int) = 24 + (blen ((x / 2 ^ 16) / 2 ^ 8) : Nat) := by rw [eb011_16, eb011_8]; omega
          rw [hv]
          exact WCall.of_taken mixed T0_ok _ 40 1 _ (all_of (len_011 x) hy) (ob (ge_f p0) (ob (ge_t p1) (om (shr_is x 16) (ob (ge_t p2) (om (shr_is (x / 2 ^ 16) 8) (om (a := (((x / 2 ^ 16) / 2 ^ 8) : Nat)) rfl .nil)))))) rfl rfl
        · have hy : (x / 2 ^ 16) < 256 := by omega
          have eb010_16 : blen x = 16 + blen (x / 2 ^ 16) := blen_shift (by omega)
          have hv : ((blen x : Nat) : Int) = 16 + (blen (x / 2 ^ 16) : Nat) := by rw [eb010_16]; omega
          rw [hv]
          exact WCall.of_taken mixed T0_ok _ 40 1 _ (all_of (len_010 x) hy) (ob (ge_f p0) (ob (ge_t p1) (om (shr_is x 16) (ob (ge_f p2) (om (a := ((x / 2 ^ 16) : Nat)) rfl .nil))))) rfl rfl
      · by_cases p2 : 256 ≤ x
        · have q2 : 2 ^ 8 ≤ x := p2
          have hy : (x / 2 ^ 8) < 256 := by omega
          have eb001_8 : blen x = 8 + blen (x / 2 ^ 8) := blen_shift (by omega)
          have hv : ((blen x : Nat) : Int) = 8 + (blen (x / 2 ^ 8) : Nat) := by rw [eb001_8]; omega
          rw [hv]
          exact WCall.of_taken mixed T0_ok _ 40 1 _ (all_of (len_001 x) hy) (ob (ge_f p0) (ob (ge_f p1) (ob (ge_t p2) (om (shr_is x 8) (om (a := ((x / 2 ^ 8) : Nat)) rfl .nil))))) rfl rfl
        · have hy : x < 256 := by omega
          have hv : ((blen x : Nat) : Int) = 0 + (blen x : Nat) := by omega
          rw [hv]
          exact WCall.of_taken mixed T0_ok _ 40 1 _ (all_of (len_000 x) hy) (ob (ge_f p0) (ob (ge_f p1) (ob (ge_f p2) (om (a := (x : Nat)) rfl .nil)))) rfl rfl
  · cases h
def T11 : Tbl := (57, len64G) :: T10
theorem T11_ok : ∀ p ∈ T11, WCon Tryd.prog p.1 p.2 := WCons.cons len64_con T10_ok
end Go.Proofs.YtghmfiandllpfaaDoor.Lb
namespace Go.Proofs.YtghmfiandllpfaaDoor.Lb
open Go.Ab

theorem blen_zero : blen 0 = 0 := rfl
theorem blen_lt {x : Nat} (h : x < 18446744073709551616) : blen x ≤ 64 := by
  unfold blen
  split
  · omega
  · rename_i h0
    have := (Nat.log2_lt h0 (k := 64)).2 h
    omega
def lenG : List Value → Option Value
  | [.agg ⟨[.int .u64 a0, .int .u64 a1, .int .u64 a2, .int .u64 a3]⟩] => some (.int .i64 (blen (vl a0 a1 a2 a3) : Nat))
  | _ => none
theorem len_con : WCon Tryd.prog 31 lenG := by
  intro l v h hw
  unfold lenG at h
  split at h
  · rename_i a0 a1 a2 a3
    injection h with h; subst h
    obtain ⟨x0, x1, x2, x3, h0, h1, h2, h3, rfl, rfl, rfl, rfl⟩ := bits4 (hw (.agg ⟨[.int .u64 a0, .int .u64 a1, .int .u64 a2, .int .u64 a3]⟩) (by simp))
    have vx := vl_nat x0 x1 x2 x3
    revert hw
    by_cases p3 : (x3 : Int) ≠ 0
    · have e : blen (vl x0 x1 x2 x3) = 192 + blen x3 := by
        have g := blen_shift (x := vl x0 x1 x2 x3) (k := 192) (by rw [vx]; omega)
        rwa [show vl x0 x1 x2 x3 / 2 ^ 192 = x3 by rw [vx]; omega] at g
      rw [e]
      exact WCall.of_taken mixed T11_ok [(11, .bool true), (18, .int .i64 ((192 + blen x3 : Nat) : Int))] 40 1 _ (by kernel_rfl) (ob (a := (x3 : Int) != 0) (b := true) (by simpa using p3) (oi (a := IntKind.i64.wrap (192 + ((blen x3 : Nat) : Int))) (b := ((192 + blen x3 : Nat) : Int)) (by have := blen_lt h3; rw [IntWalk.i64_in _ (by omega)]; omega) .nil)) rfl rfl
    by_cases p2 : (x2 : Int) ≠ 0
    · have e : blen (vl x0 x1 x2 x3) = 128 + blen x2 := by
        have g := blen_shift (x := vl x0 x1 x2 x3) (k := 128) (by rw [vx]; omega)
        rwa [show vl x0 x1 x2 x3 / 2 ^ 128 = x2 by rw [vx]; omega] at g
      rw [e]
      exact WCall.of_taken mixed T11_ok [(11, .bool false), (11, .bool true), (18, .int .i64 ((128 + blen x2 : Nat) : Int))] 40 1 _ (by kernel_rfl) (ob (a := (x3 : Int) != 0) (b := false) (by simpa using p3) (ob (a := (x2 : Int) != 0) (b := true) (by simpa using p2) (oi (a := IntKind.i64.wrap (128 + ((blen x2 : Nat) : Int))) (b := ((128 + blen x2 : Nat) : Int)) (by have := blen_lt h2; rw [IntWalk.i64_in _ (by omega)]; omega) .nil))) rfl rfl
    by_cases p1 : (x1 : Int) ≠ 0
    · have e : blen (vl x0 x1 x2 x3) = 64 + blen x1 := by
        have g := blen_shift (x := vl x0 x1 x2 x3) (k := 64) (by rw [vx]; omega)
        rwa [show vl x0 x1 x2 x3 / 2 ^ 64 = x1 by rw [vx]; omega] at g
      rw [e]
      exact WCall.of_taken mixed T11_ok [(11, .bool false), (11, .bool false), (11, .bool true), (18, .int .i64 ((64 + blen x1 : Nat) : Int))] 40 1 _ (by kernel_rfl) (ob (a := (x3 : Int) != 0) (b := false) (by simpa using p3) (ob (a := (x2 : Int) != 0) (b := false) (by simpa using p2) (ob (a := (x1 : Int) != 0) (b := true) (by simpa using p1) (oi (a := IntKind.i64.wrap (64 + ((blen x1 : Nat) : Int))) (b := ((64 + blen x1 : Nat) : Int)) (by have := blen_lt h1; rw [IntWalk.i64_in _ (by omega)]; omega) .nil)))) rfl rfl
    by_cases p0 : (x0 : Int) ≠ 0
    · have e : blen (vl x0 x1 x2 x3) = 0 + blen x0 := by
        rw [Nat.zero_add, show vl x0 x1 x2 x3 = x0 by rw [vx]; omega]
      rw [e]
      exact WCall.of_taken mixed T11_ok [(11, .bool false), (11, .bool false), (11, .bool false), (11, .bool true), (18, .int .i64 ((0 + blen x0 : Nat) : Int))] 40 1 _ (by kernel_rfl) (ob (a := (x3 : Int) != 0) (b := false) (by simpa using p3) (ob (a := (x2 : Int) != 0) (b := false) (by simpa using p2) (ob (a := (x1 : Int) != 0) (b := false) (by simpa using p1) (ob (a := (x0 : Int) != 0) (b := true) (by simpa using p0) (oi (a := IntKind.i64.wrap (0 + ((blen x0 : Nat) : Int))) (b := ((0 + blen x0 : Nat) : Int)) (by have := blen_lt h0; rw [IntWalk.i64_in _ (by omega)]; omega) .nil))))) rfl rfl
    rw [show vl x0 x1 x2 x3 = 0 by rw [vx]; omega, blen_zero]
    exact WCall.of_taken mixed T11_ok [(11, .bool false), (11, .bool false), (11, .bool false), (11, .bool false)] 40 1 _ (by kernel_rfl) (ob (a := (x3 : Int) != 0) (b := false) (by simpa using p3) (ob (a := (x2 : Int) != 0) (b := false) (by simpa using p2) (ob (a := (x1 : Int) != 0) (b := false) (by simpa using p1) (ob (a := (x0 : Int) != 0) (b := false) (by simpa using p0) .nil)))) rfl rfl
  · cases h
def T12 : Tbl := (31, lenG) :: T11
theorem T12_ok : ∀ p ∈ T12, WCon Tryd.prog p.1 p.2 := WCons.cons len_con T11_ok
end Go.Proofs.YtghmfiandllpfaaDoor.Lb
