import Derived.Test.YtninlahlmjhmhaaNd
namespace Go.Proofs.Ytninlahlmjhmhaa
open Go.Ty

/-! ## Words that are set -/
theorem valN_set : ∀ (xs : List (BitVec 64)) (w : Nat) (y : BitVec 64), w < xs.length → valN (xs.set w y) + 2 ^ (64 * w) * (rd u64S xs w).toNat = valN xs + 2 ^ (64 * w) * y.toNat
  | [], w, _, h => by simp at h
  | x :: r, 0, y, _ => by
    show y.toNat + 2 ^ 64 * valN r + 2 ^ (64 * 0) * x.toNat = x.toNat + 2 ^ 64 * valN r + 2 ^ (64 * 0) * y.toNat
    rw [Nat.mul_zero, Nat.pow_zero]; omega
  | x :: r, w + 1, y, h => by
    have ih := valN_set r w y (by simpa using h)
    show x.toNat + 2 ^ 64 * valN (r.set w y) + 2 ^ (64 * (w + 1)) * (rd u64S r w).toNat = x.toNat + 2 ^ 64 * valN r + 2 ^ (64 * (w + 1)) * y.toNat
    rw [show 64 * (w + 1) = 64 + 64 * w by omega, Nat.pow_add, Nat.mul_assoc, Nat.mul_assoc]
    generalize 2 ^ (64 * w) * (rd u64S r w).toNat = p at *
    generalize 2 ^ (64 * w) * y.toNat = p' at *
    omega
theorem or_bit {x : BitVec 64} {b : Nat} (hb : b < 64) (h : x.toNat / 2 ^ b % 2 = 0) : (x ||| 1#64 <<< b).toNat = x.toNat + 2 ^ b := by
  have h1 : x.getLsbD b = false := by
    show x.toNat.testBit b = false
    rw [Nat.testBit_eq_decide_div_mod_eq, h]; rfl
  have h2 : x &&& 1#64 <<< b = 0#64 := by
    show x &&& BitVec.twoPow 64 b = 0#64
    rw [BitVec.and_twoPow, h1]; rfl
  have h3 : (1#64 <<< b).toNat = 2 ^ b := by
    show (BitVec.twoPow 64 b).toNat = 2 ^ b
    rw [BitVec.toNat_twoPow]
    exact Nat.mod_eq_of_lt (Nat.pow_lt_pow_right (by omega) hb)
  rw [← BitVec.add_eq_or_of_and_eq_zero _ _ h2, BitVec.toNat_add, h3]
  refine Nat.mod_eq_of_lt ?_
  have hx := x.isLt
  have e : 2 ^ 64 = 2 ^ b * (2 * 2 ^ (63 - b)) := by rw [← Nat.pow_succ', ← Nat.pow_add]; congr 1; omega
  have hp := Nat.two_pow_pos b
  -- bit b is clear: adding 2 ^ b does not go beyond
  have h4 := Nat.div_add_mod x.toNat (2 ^ b)
  have h5 : x.toNat / 2 ^ b < 2 * 2 ^ (63 - b) := by rw [Nat.div_lt_iff_lt_mul hp, Nat.mul_comm, ← e]; exact hx
  have h6 : x.toNat / 2 ^ b + 1 < 2 * 2 ^ (63 - b) := by omega
  have h7 : 2 ^ b * (x.toNat / 2 ^ b + 2) ≤ 2 ^ b * (2 * 2 ^ (63 - b)) := Nat.mul_le_mul_left _ h6
  have h8 := Nat.mod_lt x.toNat hp
  rw [e]
  rw [Nat.mul_add] at h7
  omega
theorem or_low {x : BitVec 64} {c : Nat} (hc : c < 2) (h : x.toNat % 2 = 0) : (x ||| BitVec.ofNat 64 c).toNat = x.toNat + c := by
  have : c = 0 ∨ c = 1 := by omega
  rcases this with rfl | rfl
  · have : x ||| BitVec.ofNat 64 0 = x := by simp
    rw [this]; rfl
  · exact or_bit (b := 0) (by omega) (by rw [Nat.pow_zero, Nat.div_one]; exact h)

/-! ## DivMod -/
abbrev items40 : List It := [.p 2 2000 wideS, .p 3 2001 numS, .p 4 2002 wideS, .p 5 2003 numS, .p 7 2004 wideS, .p 8 2005 numS, .v 9 i64S]
abbrev out40 : List (Nat × List It) := [(0, [.p 4 2002 wideS, .p 5 2003 numS, .p 7 2004 wideS, .p 8 2005 numS])]
noncomputable def b40 : Code := Try.f40.body.getD .skip
def z4 : List (BitVec 64) := [0#64, 0#64, 0#64, 0#64]
def z8 : List (BitVec 64) := [0#64, 0#64, 0#64, 0#64, 0#64, 0#64, 0#64, 0#64]
/-- the remainder, with one bit more -/
def in40 (a r : List (BitVec 64)) (i : Int) : List (BitVec 64) :=
  (wordsN 4 (shiftN (valN r) 1)).set 0 (rd u64S (wordsN 4 (shiftN (valN r) 1)) 0 ||| rd u64S a (IntKind.i64.wrap (i.tdiv 64)).toNat >>> (BitVec.ofInt 64 (i.tmod 64)).toNat &&& 1#64)
/-- the quotient, with a bit set -/
def set40 (q : List (BitVec 64)) (i : Int) : List (BitVec 64) := q.set (IntKind.i64.wrap (i.tdiv 64)).toNat (rd u64S q (IntKind.i64.wrap (i.tdiv 64)).toNat ||| 1#64 <<< (BitVec.ofInt 64 (i.tmod 64)).toNat)
def ok40 (i : Int) : Bool := decide (0 ≤ IntKind.i64.wrap (i.tdiv 64)) && decide (IntKind.i64.wrap (i.tdiv 64) < 8)
def Q40 : LQ items40 [] out40 := fun x _ Kx => x.2.2.2.2.1 = z8 ∧ x.2.2.2.2.2.1 = z4 ∧ x.2.2.2.2.2.2.1 = 511 ∧ wideS.wfT x.1 ∧ numS.wfT x.2.1 ∧ valN x.2.1 ≠ 0 ∧
  Kx.1 (x.2.2.1, x.2.2.2.1, wordsN 8 (valN x.1 / valN x.2.1), wordsN 4 (valN x.1 % valN x.2.1), ())
abbrev L40 : LTab := [(6, ptL items40 [] out40 Q40)]
theorem round40 (a m z0 z1 q r : List (BitVec 64)) (i : Int) (Kn : HI items40 → Prop) (Kr : HI [] → Prop) (Kx : HP out40) : roundT (W Y1 Try.f40.ntmps (LTab.look L40) (bodyAt b40 6)) items40 [] out40 (a, m, z0, z1, q, r, i, ()) Kn Kr Kx =
  ifB (decide (0 ≤ i))
  (dmd (ok40 i) (ifB (decide (rd u64S r 3 >>> 63 = 1#64))
    (dmd (ok40 i) (dmd (ok40 i) (Kn (a, m, z0, z1, set40 q i, wordsN 4 (valN (in40 a r i) + 2 ^ 256 - valN m), IntKind.i64.wrap (i - 1), ()))))
    (ifB (decide ((bif decide (valN (in40 a r i) < valN m) then 1#64 else 0#64) = 0#64))
      (dmd (ok40 i) (dmd (ok40 i) (Kn (a, m, z0, z1, set40 q i, wordsN 4 (valN (in40 a r i) + 2 ^ 256 - valN m), IntKind.i64.wrap (i - 1), ()))))
      (Kn (a, m, z0, z1, q, in40 a r i, IntKind.i64.wrap (i - 1), ())))))
  (Kx.1 (z0, z1, q, r, ())) := by kernel_rfl
theorem fw40 (a m : List (BitVec 64)) (P : SV → Prop) : FW Y1 Try.f40.ntmps (LTab.look L40) Try.f40 (argsOf [wideS, numS] (a, m, ())) P =
  ifB (teq numS m z4) (P (SV.tup [AV.val wideS z8, AV.val numS z4, AV.val i64S 1]))
  (Q40 (a, m, z8, z4, z8, z4, 511, ()) (fun _ => False) (fun y => P (SV.tup [AV.val wideS y.2.2.1, AV.val numS y.2.2.2.1, AV.val i64S 0]), ())) := by kernel_rfl

theorem idx40 {n : Nat} (h : n < 512) : IntKind.i64.wrap ((n : Int).tdiv 64) = ((n / 64 : Nat) : Int) ∧ (BitVec.ofInt 64 ((n : Int).tmod 64)).toNat = n % 64 ∧ ok40 (n : Int) = true := by
  have e1 : (n : Int).tdiv 64 = ((n / 64 : Nat) : Int) := rfl
  have e2 : (n : Int).tmod 64 = ((n % 64 : Nat) : Int) := rfl
  have e3 : IntKind.i64.wrap ((n / 64 : Nat) : Int) = ((n / 64 : Nat) : Int) := IntWalk.i64_in _ (by omega)
  refine ⟨by rw [e1, e3], ?_, ?_⟩
  · rw [e2, show BitVec.ofInt 64 ((n % 64 : Nat) : Int) = BitVec.ofNat 64 (n % 64) from rfl, BitVec.toNat_ofNat]; omega
  · unfold ok40
    rw [e1, e3]; simp; omega
theorem in40_val {a r : List (BitVec 64)} {n : Nat} (h : n < 512) : valN (in40 a r (n : Int)) = 2 * valN r % 2 ^ 256 + valN a / 2 ^ n % 2 ∧ (in40 a r (n : Int)).length = 4 := by
  obtain ⟨e1, e2, _⟩ := idx40 h
  refine ⟨?_, by unfold in40; rw [List.length_set, wordsN_len]⟩
  unfold in40
  have hs : shiftN (valN r) 1 = 2 * valN r := by
    unfold shiftN upN
    rw [if_neg (by omega), if_neg (by omega), if_pos (by omega), show (1 : Int).toNat = 1 from rfl, Nat.pow_one, Nat.mul_comm]
  rw [e1, e2, hs, Int.toNat_natCast, and_one, ← valN_bit a (n / 64) (n % 64) (by omega), show 64 * (n / 64) + n % 64 = n by omega]
  have h0 : (rd u64S (wordsN 4 (2 * valN r)) 0).toNat % 2 = 0 := by
    show (BitVec.ofNat 64 (2 * valN r)).toNat % 2 = 0
    rw [BitVec.toNat_ofNat]; omega
  have hb : valN a / 2 ^ n % 2 < 2 := Nat.mod_lt _ (by omega)
  have := valN_set (wordsN 4 (2 * valN r)) 0 (rd u64S (wordsN 4 (2 * valN r)) 0 ||| BitVec.ofNat 64 (valN a / 2 ^ n % 2)) (by rw [wordsN_len]; omega)
  rw [or_low hb h0, valN_words, Nat.mul_zero, Nat.pow_zero] at this
  omega
theorem set40_val {q : List (BitVec 64)} {n : Nat} (h : n < 512) (hl : q.length = 8) (hq : valN q / 2 ^ n % 2 = 0) : valN (set40 q (n : Int)) = valN q + 2 ^ n ∧ (set40 q (n : Int)).length = 8 := by
  obtain ⟨e1, e2, _⟩ := idx40 h
  refine ⟨?_, by unfold set40; rw [List.length_set, hl]⟩
  unfold set40
  rw [e1, e2, Int.toNat_natCast]
  have hb : (rd u64S q (n / 64)).toNat / 2 ^ (n % 64) % 2 = 0 := by rw [← valN_bit q (n / 64) (n % 64) (by omega), show 64 * (n / 64) + n % 64 = n by omega]; exact hq
  have := valN_set q (n / 64) (rd u64S q (n / 64) ||| 1#64 <<< (n % 64)) (by omega)
  rw [or_bit (by omega) hb, Nat.mul_add, ← Nat.pow_add, show 64 * (n / 64) + n % 64 = n by omega] at this
  generalize 2 ^ (64 * (n / 64)) * (rd u64S q (n / 64)).toNat = p at *
  omega
end Go.Proofs.Ytninlahlmjhmhaa
