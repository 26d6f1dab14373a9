import Derived.Test.YtghmfiandllpfaaDoorB0
import Derived.Test.YtghmfiandllpfaaDoorKc
namespace Go.Proofs.YtghmfiandllpfaaDoor.Lb
open Go.Ty

/-! ## Words that are set -/
theorem valN_set : ∀ (xs : List (BitVec 64)) (w : Nat) (y : BitVec 64), w < xs.length → valN (xs.set w y) + 2 ^ (64 * w) * (rd u64S xs w).toNat = valN xs + 2 ^ (64 * w) * y.toNat
  | [], w, _, h => by simp at h
  | x :: r, 0, y, _ => by
    show y.toNat + 2 ^ 64 * valN r + 2 ^ (64 * 0) * x.toNat = x.toNat + 2 ^ 64 * valN r + 2 ^ (64 * 0) * y.toNat
    rw [Nat.mul_zero, Nat.pow_zero]; omega
  | x :: r, w + 1, y, h => by
    have ih := valN_set r w y (by simpa using h)
    show x.toNat + 2 ^ 64 * valN (r.set w y) + 2 ^ (64 * (w + 1)) * (rd u64S r w).toNat = x.toNat + 2 ^ 64 * valN r + 2 ^ (64 * (w + 1)) * y.toNat
    rw [show 64 * (w + 1) = 64 + 64 * w by omega, Nat.pow_add, Nat.mul_assoc, Nat.mul_assoc]
    generalize 2 ^ (64 * w) * (rd u64S r w).toNat = p at *
    generalize 2 ^ (64 * w) * y.toNat = p' at *
    omega
theorem or_bit {x : BitVec 64} {b : Nat} (hb : b < 64) (h : x.toNat / 2 ^ b % 2 = 0) : (x ||| 1#64 <<< b).toNat = x.toNat + 2 ^ b := by
  have h1 : x.getLsbD b = false := by
    show x.toNat.testBit b = false
    rw [Nat.testBit_eq_decide_div_mod_eq, h]; rfl
  have h2 : x &&& 1#64 <<< b = 0#64 := by
    show x &&& BitVec.twoPow 64 b = 0#64
    rw [BitVec.and_twoPow, h1]; rfl
  have h3 : (1#64 <<< b).toNat = 2 ^ b := by
    show (BitVec.twoPow 64 b).toNat = 2 ^ b
    rw [BitVec.toNat_twoPow]
    exact Nat.mod_eq_of_lt (Nat.pow_lt_pow_right (by omega) hb)
  rw [← BitVec.add_eq_or_of_and_eq_zero _ _ h2, BitVec.toNat_add, h3]
  refine Nat.mod_eq_of_lt ?_
  have hx := x.isLt
  have e : 2 ^ 64 = 2 ^ b * (2 * 2 ^ (63 - b)) := by rw [← Nat.pow_succ', ← Nat.pow_add]; congr 1; omega
  have hp := Nat.two_pow_pos b
  -- bit b is clear: adding 2 ^ b does not go beyond
  have h4 := Nat.div_add_mod x.toNat (2 ^ b)
  have h5 : x.toNat / 2 ^ b < 2 * 2 ^ (63 - b) := by rw [Nat.div_lt_iff_lt_mul hp, Nat.mul_comm, ← e]; exact hx
  have h6 : x.toNat / 2 ^ b + 1 < 2 * 2 ^ (63 - b) := by omega
  have h7 : 2 ^ b * (x.toNat / 2 ^ b + 2) ≤ 2 ^ b * (2 * 2 ^ (63 - b)) := Nat.mul_le_mul_left _ h6
  have h8 := Nat.mod_lt x.toNat hp
  rw [e]
  rw [Nat.mul_add] at h7
  omega
theorem or_low {x : BitVec 64} {c : Nat} (hc : c < 2) (h : x.toNat % 2 = 0) : (x ||| BitVec.ofNat 64 c).toNat = x.toNat + c := by
  have : c = 0 ∨ c = 1 := by omega
  rcases this with rfl | rfl
  · have : x ||| BitVec.ofNat 64 0 = x := by simp
    rw [this]; rfl
  · exact or_bit (b := 0) (by omega) (by rw [Nat.pow_zero, Nat.div_one]; exact h)

/-! ## DivMod -/
abbrev items40 : List It := [.p 2 2000 wideS, .p 3 2001 numS, .p 4 2002 wideS, .p 5 2003 numS, .p 7 2004 wideS, .p 8 2005 numS, .v 9 i64S]
abbrev out40 : List (Nat × List It) := [(0, [.p 4 2002 wideS, .p 5 2003 numS, .p 7 2004 wideS, .p 8 2005 numS])]
noncomputable def b40 : Code := Tryd.f75.body.getD .skip
def z4 : List (BitVec 64) := [0#64, 0#64, 0#64, 0#64]
def z8 : List (BitVec 64) := [0#64, 0#64, 0#64, 0#64, 0#64, 0#64, 0#64, 0#64]
/-- the remainder, with one bit more -/
noncomputable def in40 (a r : List (BitVec 64)) (i : Int) : List (BitVec 64) :=
  (wordsN 4 (shiftN (valN r) 1)).set 0 (rd u64S (wordsN 4 (shiftN (valN r) 1)) 0 ||| rd u64S a (IntKind.i64.wrap (i.tdiv 64)).toNat >>> (BitVec.ofInt 64 (i.tmod 64)).toNat &&& 1#64)
/-- the quotient, with a bit set -/
noncomputable def set40 (q : List (BitVec 64)) (i : Int) : List (BitVec 64) := q.set (IntKind.i64.wrap (i.tdiv 64)).toNat (rd u64S q (IntKind.i64.wrap (i.tdiv 64)).toNat ||| 1#64 <<< (BitVec.ofInt 64 (i.tmod 64)).toNat)
def ok40 (i : Int) : Bool := decide (0 ≤ IntKind.i64.wrap (i.tdiv 64)) && decide (IntKind.i64.wrap (i.tdiv 64) < 8)
noncomputable def Q40 : LQ items40 [] out40 := fun x _ Kx => x.2.2.2.2.1 = z8 ∧ x.2.2.2.2.2.1 = z4 ∧ x.2.2.2.2.2.2.1 = 511 ∧ wideS.wfT x.1 ∧ numS.wfT x.2.1 ∧ valN x.2.1 ≠ 0 ∧
  Kx.1 (x.2.2.1, x.2.2.2.1, wordsN 8 (valN x.1 / valN x.2.1), wordsN 4 (valN x.1 % valN x.2.1), ())
abbrev L40 : LTab := [(6, ptL items40 [] out40 Q40)]
theorem round40 (a m z0 z1 q r : List (BitVec 64)) (i : Int) (Kn : HI items40 → Prop) (Kr : HI [] → Prop) (Kx : HP out40) : roundT (W Y1 Tryd.f75.ntmps (LTab.look L40) (bodyAt b40 6)) items40 [] out40 (a, m, z0, z1, q, r, i, ()) Kn Kr Kx =
  ifB (decide (0 ≤ i))
  (dmd (ok40 i) (ifB (decide (rd u64S r 3 >>> 63 = 1#64))
    (dmd (ok40 i) (dmd (ok40 i) (Kn (a, m, z0, z1, set40 q i, wordsN 4 (valN (in40 a r i) + 2 ^ 256 - valN m), IntKind.i64.wrap (i - 1), ()))))
    (ifB (decide ((bif decide (valN (in40 a r i) < valN m) then 1#64 else 0#64) = 0#64))
      (dmd (ok40 i) (dmd (ok40 i) (Kn (a, m, z0, z1, set40 q i, wordsN 4 (valN (in40 a r i) + 2 ^ 256 - valN m), IntKind.i64.wrap (i - 1), ()))))
      (Kn (a, m, z0, z1, q, in40 a r i, IntKind.i64.wrap (i - 1), ())))))
  (Kx.1 (z0, z1, q, r, ())) := by kernel_rfl
theorem fw40 (a m : List (BitVec 64)) (P : SV → Prop) : FW Y1 Tryd.f75.ntmps (LTab.look L40) Tryd.f75 (argsOf [wideS, numS] (a, m, ())) P =
  ifB (teq numS m z4) (P (SV.tup [AV.val wideS z8, AV.val numS z4, AV.val i64S 1]))
  (Q40 (a, m, z8, z4, z8, z4, 511, ()) (fun _ => False) (fun y => P (SV.tup [AV.val wideS y.2.2.1, AV.val numS y.2.2.2.1, AV.val i64S 0]), ())) := by kernel_rfl

theorem idx40 {n : Nat} (h : n < 512) : IntKind.i64.wrap ((n : Int).tdiv 64) = ((n / 64 : Nat) : Int) ∧ (BitVec.ofInt 64 ((n : Int).tmod 64)).toNat = n % 64 ∧ ok40 (n : Int) = true := by
  have e1 : (n : Int).tdiv 64 = ((n / 64 : Nat) : Int) := rfl
  have e2 : (n : Int).tmod 64 = ((n % 64 : Nat) : Int) := rfl
  have e3 : IntKind.i64.wrap ((n / 64 : Nat) : Int) = ((n / 64 : Nat) : Int) := IntWalk.i64_in _ (by omega)
  refine ⟨by rw [e1, e3], ?_, ?_⟩
  · rw [e2, show BitVec.ofInt 64 ((n % 64 : Nat) : Int) = BitVec.ofNat 64 (n % 64) from rfl, BitVec.toNat_ofNat]; omega
  · unfold ok40
    rw [e1, e3]; simp; omega
theorem in40_val {a r : List (BitVec 64)} {n : Nat} (h : n < 512) : valN (in40 a r (n : Int)) = 2 * valN r % 2 ^ 256 + valN a / 2 ^ n % 2 ∧ (in40 a r (n : Int)).length = 4 := by
  obtain ⟨e1, e2, _⟩ := idx40 h
  refine ⟨?_, by unfold in40; rw [List.length_set, wordsN_len]⟩
  unfold in40
  have hs : shiftN (valN r) 1 = 2 * valN r := by
    unfold shiftN upN
    rw [if_neg (by omega), if_neg (by omega), if_pos (by omega), show (1 : Int).toNat = 1 from rfl, Nat.pow_one, Nat.mul_comm]
  rw [e1, e2, hs, Int.toNat_natCast, and_one, ← valN_bit a (n / 64) (n % 64) (by omega), show 64 * (n / 64) + n % 64 = n by omega]
  have h0 : (rd u64S (wordsN 4 (2 * valN r)) 0).toNat % 2 = 0 := by
    rw [wordsN_eq]
    show (BitVec.ofNat 64 (2 * valN r)).toNat % 2 = 0
    rw [BitVec.toNat_ofNat]; omega
  have hb : valN a / 2 ^ n % 2 < 2 := Nat.mod_lt _ (by omega)
  have := valN_set (wordsN 4 (2 * valN r)) 0 (rd u64S (wordsN 4 (2 * valN r)) 0 ||| BitVec.ofNat 64 (valN a / 2 ^ n % 2)) (by rw [wordsN_len]; omega)
  rw [or_low hb h0, valN_words, Nat.mul_zero, Nat.pow_zero] at this
  omega
theorem set40_val {q : List (BitVec 64)} {n : Nat} (h : n < 512) (hl : q.length = 8) (hq : valN q / 2 ^ n % 2 = 0) : valN (set40 q (n : Int)) = valN q + 2 ^ n ∧ (set40 q (n : Int)).length = 8 := by
  obtain ⟨e1, e2, _⟩ := idx40 h
  refine ⟨?_, by unfold set40; rw [List.length_set, hl]⟩
  unfold set40
  rw [e1, e2, Int.toNat_natCast]
  have hb : (rd u64S q (n / 64)).toNat / 2 ^ (n % 64) % 2 = 0 := by rw [← valN_bit q (n / 64) (n % 64) (by omega), show 64 * (n / 64) + n % 64 = n by omega]; exact hq
  have := valN_set q (n / 64) (rd u64S q (n / 64) ||| 1#64 <<< (n % 64)) (by omega)
  rw [or_bit (by omega) hb, Nat.mul_add, ← Nat.pow_add, show 64 * (n / 64) + n % 64 = n by omega] at this
  generalize 2 ^ (64 * (n / 64)) * (rd u64S q (n / 64)).toNat = p at *
  omega
end Go.Proofs.YtghmfiandllpfaaDoor.Lb
namespace Go.Proofs.YtghmfiandllpfaaDoor.Lb
open Go.Ty

theorem step_ge {T M c : Nat} (h0 : 0 < M) (h : M ≤ 2 * (T % M) + c) (hc : c < 2) : (2 * T + c) / M = 2 * (T / M) + 1 ∧ (2 * T + c) % M = 2 * (T % M) + c - M := by
  have h1 := Nat.div_add_mod T M
  have h2 := Nat.mod_lt T h0
  have e : 2 * T + c = M * (2 * (T / M) + 1) + (2 * (T % M) + c - M) := by
    rw [Nat.mul_add, Nat.mul_one, ← Nat.mul_assoc, Nat.mul_comm M 2, Nat.mul_assoc]
    generalize M * (T / M) = p at *
    omega
  have h3 : 2 * (T % M) + c - M < M := by omega
  constructor
  · rw [e, Nat.mul_add_div h0, Nat.div_eq_of_lt h3, Nat.add_zero]
  · rw [e, Nat.mul_add_mod, Nat.mod_eq_of_lt h3]
theorem step_lt {T M c : Nat} (h0 : 0 < M) (h : 2 * (T % M) + c < M) : (2 * T + c) / M = 2 * (T / M) ∧ (2 * T + c) % M = 2 * (T % M) + c := by
  have h1 := Nat.div_add_mod T M
  have e : 2 * T + c = M * (2 * (T / M)) + (2 * (T % M) + c) := by
    rw [← Nat.mul_assoc, Nat.mul_comm M 2, Nat.mul_assoc]
    generalize M * (T / M) = p at *
    omega
  constructor
  · rw [e, Nat.mul_add_div h0, Nat.div_eq_of_lt h, Nat.add_zero]
  · rw [e, Nat.mul_add_mod, Nat.mod_eq_of_lt h]
theorem top_bit {r : List (BitVec 64)} : (rd u64S r 3 >>> 63 = 1#64) ↔ valN r / 2 ^ 255 % 2 = 1 := by
  have h := valN_bit r 3 63 (by omega)
  rw [show 64 * 3 + 63 = 255 from rfl] at h
  have hx := (rd u64S r 3).isLt
  rw [h]
  constructor
  · intro e
    have := congrArg BitVec.toNat e
    rw [BitVec.toNat_ushiftRight, Nat.shiftRight_eq_div_pow] at this
    have e1 : (1#64).toNat = 1 := rfl
    rw [this, e1]
  · intro e
    apply BitVec.eq_of_toNat_eq
    rw [BitVec.toNat_ushiftRight, Nat.shiftRight_eq_div_pow]
    have e1 : (1#64).toNat = 1 := rfl
    rw [e1]
    have : (rd u64S r 3).toNat / 2 ^ 63 < 2 := by rw [Nat.div_lt_iff_lt_mul (by omega)]; exact hx
    omega
theorem words_of {xs : List (BitVec 64)} {k V : Nat} (hl : xs.length = k) (h : valN xs = V) : xs = wordsN k V := by rw [← h, ← hl, words_valN]
theorem words_eq {k a b : Nat} (h : a % 2 ^ (64 * k) = b % 2 ^ (64 * k)) : wordsN k a = wordsN k b := by rw [← wordsN_mod k a, h, wordsN_mod]
theorem big_top {x y b p M : Nat} (hx : x < p) (hp : p = 2 * y) (hM : x < M) (hM2 : M < p) (hb : b < 2) : (x / y % 2 = 1 → (2 * x % p + b + p - M) % p = 2 * x + b - M ∧ M ≤ 2 * x + b) ∧
    (x / y % 2 ≠ 1 → 2 * x % p + b = 2 * x + b ∧ (M ≤ 2 * x + b → (2 * x + b + p - M) % p = 2 * x + b - M)) := by
  have hy : 0 < y := by omega
  have h2 : x / y < 2 := by rw [Nat.div_lt_iff_lt_mul hy]; omega
  have h3 : x / y = 0 ∨ x / y = 1 := by generalize x / y = t at *; omega
  constructor
  · intro h
    have h1 : 1 ≤ x / y := by rcases h3 with h3 | h3 <;> rw [h3] at h ⊢ <;> omega
    have h1 : y ≤ x := by have := (Nat.le_div_iff_mul_le hy).1 h1; omega
    have e : 2 * x % p = 2 * x - p := by
      rw [Nat.mod_eq_sub_mod (by omega), Nat.mod_eq_of_lt (by omega)]
    rw [e]
    refine ⟨?_, by omega⟩
    rw [Nat.mod_eq_of_lt (by omega)]; omega
  · intro h
    have h1 : x / y = 0 := by rcases h3 with h3 | h3; exact h3; rw [h3] at h; exact absurd rfl h
    have h1 : x < y := by
      rcases Nat.div_eq_zero_iff.1 h1 with h | h <;> omega
    have e : 2 * x % p = 2 * x := Nat.mod_eq_of_lt (by omega)
    refine ⟨by rw [e], fun h => ?_⟩
    rw [show 2 * x + b + p - M = (2 * x + b - M) + p by omega, Nat.add_mod_right, Nat.mod_eq_of_lt (by omega)]
theorem pow256 : 2 ^ 256 = 2 * 2 ^ 255 := by rw [← Nat.pow_succ']

set_option maxRecDepth 100000 in
theorem loop40a (a m z0 z1 : List (BitVec 64)) (_ : valN a < 2 ^ 512) (hm : valN m < 2 ^ 256) (h0 : 0 < valN m) (Kr : HI [] → Prop) (Kx : HP out40) (hK : Kx.1 (z0, z1, wordsN 8 (valN a / valN m), wordsN 4 (valN a % valN m), ())) :
    ∀ (k : Nat), k ≤ 512 → ∀ q r : List (BitVec 64), q.length = 8 → r.length = 4 → valN q = valN a / 2 ^ k / valN m * 2 ^ k → valN r = valN a / 2 ^ k % valN m →
      untl (W Y1 Tryd.f75.ntmps (LTab.look L40) (bodyAt b40 6)) items40 [] out40 (k + 1) (a, m, z0, z1, q, r, (k : Int) - 1, ()) Kr Kx := by
  intro k
  induction k with
  | zero =>
    intro _ q r hq hr eq er
    rw [untl_succ, round40]
    rw [Nat.pow_zero, Nat.div_one, Nat.mul_one] at eq
    rw [Nat.pow_zero, Nat.div_one] at er
    refine ifB_of (fun h => by simp at h) (fun _ => ?_)
    rw [words_of hq eq, words_of hr er]; exact hK
  | succ k ih =>
    intro hk q r hq hr eq er
    have hk' : k < 512 := by omega
    rw [untl_succ, round40]
    have ei : ((k + 1 : Nat) : Int) - 1 = (k : Int) := by omega
    rw [ei]
    have hw : IntKind.i64.wrap ((k : Int) - 1) = (k : Int) - 1 := IntWalk.i64_in _ (by omega)
    rw [hw]
    have hok := (idx40 hk').2.2
    have hin := in40_val (a := a) (r := r) hk'
    have hb : valN a / 2 ^ k % 2 < 2 := Nat.mod_lt _ (by omega)
    have hT : valN a / 2 ^ k = 2 * (valN a / 2 ^ (k + 1)) + valN a / 2 ^ k % 2 := by
      rw [Nat.pow_succ, ← Nat.div_div_eq_div_mul]; omega
    have hr' : valN r < valN m := by rw [er]; exact Nat.mod_lt _ h0
    have hr2 : valN r < 2 ^ 256 := by omega
    have hq0 : valN q / 2 ^ k % 2 = 0 := by
      rw [eq, Nat.pow_succ, ← Nat.mul_assoc, Nat.mul_right_comm, Nat.mul_div_cancel _ (Nat.two_pow_pos k), Nat.mul_mod_left]
    have hset := set40_val hk' hq hq0
    obtain ⟨bt1, bt2⟩ := big_top (b := valN a / 2 ^ k % 2) hr2 pow256 hr' hm hb
    have hc8 := hset.2
    -- with a one
    have yes : valN m ≤ 2 * valN r + valN a / 2 ^ k % 2 → (valN (in40 a r (k : Int)) + 2 ^ 256 - valN m) % 2 ^ 256 = 2 * valN r + valN a / 2 ^ k % 2 - valN m →
        untl (W Y1 Tryd.f75.ntmps (LTab.look L40) (bodyAt b40 6)) items40 [] out40 (k + 1) (a, m, z0, z1, set40 q (k : Int), wordsN 4 (valN (in40 a r (k : Int)) + 2 ^ 256 - valN m), (k : Int) - 1, ()) Kr Kx := by
      intro hge hv
      obtain ⟨s1, s2⟩ := step_ge h0 (by rw [← er]; exact hge) hb
      rw [← hT] at s1 s2
      refine ih (by omega) _ _ hset.2 (wordsN_len _ _) ?_ ?_
      · rw [hset.1, eq, s1, Nat.pow_succ, Nat.add_mul, Nat.one_mul]
        congr 1
        rw [← Nat.mul_assoc, Nat.mul_right_comm, Nat.mul_comm _ 2, Nat.mul_assoc]
      · rw [valN_words, s2, ← er]; exact hv
    have no : 2 * valN r + valN a / 2 ^ k % 2 < valN m → valN (in40 a r (k : Int)) = 2 * valN r + valN a / 2 ^ k % 2 →
        untl (W Y1 Tryd.f75.ntmps (LTab.look L40) (bodyAt b40 6)) items40 [] out40 (k + 1) (a, m, z0, z1, q, in40 a r (k : Int), (k : Int) - 1, ()) Kr Kx := by
      intro hlt hv
      obtain ⟨s1, s2⟩ := step_lt h0 (by rw [← er]; exact hlt)
      rw [← hT] at s1 s2
      refine ih (by omega) _ _ hq hin.2 ?_ ?_
      · rw [eq, s1, Nat.pow_succ, ← Nat.mul_assoc, Nat.mul_right_comm, Nat.mul_comm _ 2, Nat.mul_assoc]
      · rw [hv, s2, ← er]
    refine ifB_of (fun _ => dmd_of hok (ifB_of (fun h => ?_) (fun h => ifB_of (fun h' => ?_) (fun h' => ?_)))) (fun h => by simp at h)
    · have h := top_bit.1 (of_decide_eq_true h)
      obtain ⟨b1, b2⟩ := bt1 h
      exact dmd_of hok (dmd_of hok (yes b2 (by rw [hin.1]; exact b1)))
    · have h : valN r / 2 ^ 255 % 2 ≠ 1 := fun e => (of_decide_eq_false h) (top_bit.2 e)
      obtain ⟨b1, b2⟩ := bt2 h
      have h' := of_decide_eq_true h'
      have hge : ¬ valN (in40 a r (k : Int)) < valN m := by
        intro hlt
        rw [decide_eq_true hlt] at h'; exact absurd h' (by decide)
      rw [hin.1, b1] at hge
      exact dmd_of hok (dmd_of hok (yes (by omega) (by rw [hin.1, b1]; exact b2 (by omega))))
    · have h : valN r / 2 ^ 255 % 2 ≠ 1 := fun e => (of_decide_eq_false h) (top_bit.2 e)
      obtain ⟨b1, b2⟩ := bt2 h
      have h' := of_decide_eq_false h'
      have hlt : valN (in40 a r (k : Int)) < valN m := by
        rcases Nat.lt_or_ge (valN (in40 a r (k : Int))) (valN m) with hl | hg
        · exact hl
        · rw [decide_eq_false (Nat.not_lt.2 hg)] at h'; exact absurd rfl h'
      rw [hin.1, b1] at hlt
      exact no hlt (by rw [hin.1, b1])

theorem loop40 : ∀ x Kr Kx, Q40 x Kr Kx → ∃ n, untl (W Y1 Tryd.f75.ntmps (LTab.look L40) (bodyAt b40 6)) items40 [] out40 n x Kr Kx := by
  rintro ⟨a, m, z0, z1, q, r, i, u⟩ Kr Kx ⟨h1, h2, h3, h4, h5, h6, h7⟩
  have h1 : q = z8 := h1
  have h2 : r = z4 := h2
  have h3 : i = (511 : Int) := h3
  have ha := valN_lt a
  rw [show a.length = 8 from h4.1] at ha
  rw [show 64 * 8 = 512 from rfl] at ha
  obtain ⟨k, hk⟩ : ∃ k : Nat, k = 512 := ⟨_, rfl⟩
  have e0 : valN a / 2 ^ k = 0 := Nat.div_eq_of_lt (by rw [hk]; exact ha)
  have e : (k : Int) - 1 = i := by rw [h3, hk]; rfl
  have h := loop40a a m z0 z1 ha (lt4 h5) (Nat.pos_of_ne_zero h6) Kr Kx h7 k (Nat.le_of_eq hk) q r (by rw [h1]; rfl) (by rw [h2]; rfl) (by rw [e0, Nat.zero_div, Nat.zero_mul, h1]; rfl) (by rw [e0, Nat.zero_mod, h2]; rfl)
  rw [e] at h
  exact ⟨k + 1, h⟩
def remN (A M : Nat) : Nat := bif decide (M = 0) then 0 else A % M
def errN (M : Nat) : Int := bif decide (M = 0) then 1 else 0
theorem remN_pos {A M : Nat} (h : 0 < M) : remN A M = A % M := by unfold remN; rw [decide_eq_false (by omega)]; rfl
theorem errN_pos {M : Nat} (h : 0 < M) : errN M = 0 := by unfold errN; rw [decide_eq_false (by omega)]; rfl
noncomputable def divF : HL [wideS, numS] → SV := fun xs => .tup [.val wideS (wordsN 8 (valN xs.1 / valN xs.2.1)), .val numS (wordsN 4 (remN (valN xs.1) (valN xs.2.1))), .val i64S (errN (valN xs.2.1))]
theorem teq_iff {s : Sh} {x y : s.T} : teq s x y = true ↔ x = y := by unfold teq; simp
theorem val_z4 {m : List (BitVec 64)} (hm : numS.wfT m) : valN m = 0 ↔ m = z4 := by
  constructor
  · intro h; exact valN_inj hm.1 rfl h
  · rintro rfl; rfl
theorem div_ok : COK Tryd.prog GL 75 (conT [wideS, numS] divF) := by
  refine conT_ok (fun xs hw => ?_) (fun xs => rfl)
  obtain ⟨a, m, ⟨⟩⟩ := xs
  refine PC_of_fw (t := L40) shT_ok ct1_ok mixed Tryd.func75 (c := b40) rfl (by kernel_rfl) (by kernel_rfl) (loopsOK (by kernel_rfl) (LTCons (loop_of shT_ok ct1_ok mixed ?_ (by kernel_rfl) loop40) LTNil)) rfl ?_
  · exact loopsOK (by kernel_rfl) (LTCons (fun h => by cases h) LTNil)
  · rw [fw40]
    refine ifB_of (fun h => ?_) (fun h => ?_)
    · have h : m = z4 := teq_iff.1 h
      subst h
      show _ = SV.tup [.val wideS (wordsN 8 (valN a / 0)), .val numS (wordsN 4 (remN (valN a) 0)), .val i64S (errN 0)]
      have e1 : remN (valN a) 0 = 0 := by simp [remN]
      have e2 : errN 0 = 1 := by simp [errN]
      rw [Nat.div_zero, e1, e2]
      have e3 : wordsN 8 0 = z8 := by rw [wordsN_eq]; decide
      have e4 : wordsN 4 0 = z4 := by rw [wordsN_eq]; decide
      rw [e3, e4]
    · have h0 : valN m ≠ 0 := fun e => by
        have := teq_iff.2 ((val_z4 hw.2.1).1 e)
        have h : teq numS m z4 = false := h
        rw [h] at this; cases this
      refine ⟨rfl, rfl, rfl, hw.1, hw.2.1, h0, ?_⟩
      show _ = SV.tup [.val wideS (wordsN 8 (valN a / valN m)), .val numS (wordsN 4 (remN (valN a) (valN m))), .val i64S (errN (valN m))]
      rw [remN_pos (by omega), errN_pos (by omega)]
end Go.Proofs.YtghmfiandllpfaaDoor.Lb
namespace Go.Proofs.YtghmfiandllpfaaDoor.Lb
open Go.Ty

theorem words_app : ∀ (xs ys : List (BitVec 64)), valN (xs ++ ys) = valN xs + 2 ^ (64 * xs.length) * valN ys
  | [], ys => by simp [valN]
  | x :: r, ys => by
    simp only [List.cons_append, valN, words_app r, List.length_cons]
    rw [show 64 * (r.length + 1) = 64 + 64 * r.length by omega, Nat.pow_add, Nat.mul_add, Nat.mul_assoc]; omega
theorem words_low {xs ys : List (BitVec 64)} : wordsN xs.length (valN (xs ++ ys)) = xs := by
  have h := valN_lt xs
  rw [words_app, ← wordsN_mod, Nat.add_mul_mod_self_left, wordsN_mod, words_valN]
theorem words_high {xs ys : List (BitVec 64)} : valN (xs ++ ys) / 2 ^ (64 * xs.length) = valN ys := by
  have h := valN_lt xs
  rw [words_app, Nat.add_mul_div_left _ _ (Nat.two_pow_pos _), Nat.div_eq_of_lt h, Nat.zero_add]
theorem of8 {xs : List (BitVec 64)} (h : wideS.wfT xs) : ∃ a b c d e f g k, xs = [a, b, c, d, e, f, g, k] := by
  have h := h.1
  match xs, h with
  | [a, b, c, d, e, f, g, k], _ => exact ⟨a, b, c, d, e, f, g, k, rfl⟩
theorem vw_val (a b c d e f g k : BitVec 64) : vw (toI .u64 a) (toI .u64 b) (toI .u64 c) (toI .u64 d) (toI .u64 e) (toI .u64 f) (toI .u64 g) (toI .u64 k) = valN [a, b, c, d, e, f, g, k] := by
  have h := words_app [a, b, c, d] [e, f, g, k]
  unfold vw
  rw [vl_val, vl_val]
  exact h.symm

noncomputable def lowF : HL [wideS] → SV := fun xs => .av (.val numS (wordsN 4 (valN xs.1)))
noncomputable def highF : HL [wideS] → SV := fun xs => .av (.val numS (wordsN 4 (valN xs.1 / 2 ^ 256)))
noncomputable def wideF : HL [numS, numS] → SV := fun xs => .av (.val wideS (wordsN 8 (valN xs.1 + 2 ^ 256 * valN xs.2.1)))
theorem low_ok : COK Tryd.prog GL 76 (conT [wideS] lowF) := by
  refine conT_ok (fun xs hw => ?_) (fun _ => rfl)
  obtain ⟨x, ⟨⟩⟩ := xs
  obtain ⟨a, b, c, d, e, f, g, k, rfl⟩ := of8 hw.1
  refine PC_of_wcon low_con rfl ⟨rfl, num_wf _⟩ rfl ?_
  have h := words_low (xs := [a, b, c, d]) (ys := [e, f, g, k])
  show _ = some (flatV numS (wordsN 4 (valN [a, b, c, d, e, f, g, k])))
  rw [show wordsN 4 (valN [a, b, c, d, e, f, g, k]) = [a, b, c, d] from h]; rfl
theorem wide_ok : COK Tryd.prog GL 72 (conT [numS, numS] wideF) := by
  refine conT_ok (fun xs hw => ?_) (fun _ => rfl)
  obtain ⟨x, y, ⟨⟩⟩ := xs
  obtain ⟨a, b, c, d, rfl⟩ := of4 hw.1
  obtain ⟨e, f, g, k, rfl⟩ := of4 hw.2.1
  refine PC_of_wcon wide_con rfl ⟨rfl, wide_wf _⟩ rfl ?_
  have h := words_app [a, b, c, d] [e, f, g, k]
  show _ = some (flatV wideS (wordsN 8 (valN [a, b, c, d] + 2 ^ 256 * valN [e, f, g, k])))
  rw [show valN [a, b, c, d] + 2 ^ 256 * valN [e, f, g, k] = valN [a, b, c, d, e, f, g, k] from h.symm, show wordsN 8 (valN [a, b, c, d, e, f, g, k]) = [a, b, c, d, e, f, g, k] from words_valN [a, b, c, d, e, f, g, k]]; rfl
noncomputable def ct2 : CTab := (75, conT [wideS, numS] divF) :: (72, conT [numS, numS] wideF) :: (76, conT [wideS] lowF) :: ct1
theorem ct2_ok : ∀ p ∈ ct2, COK Tryd.prog GL p.1 p.2 := CCons div_ok (CCons wide_ok (CCons low_ok ct1_ok))
def shU : STab := (28, i64S) :: shT
theorem shU_ok : shU.all (fun (t, s) => shChk Tryd.prog s (.inl t)) = true := by kernel_rfl
noncomputable abbrev Y2 : Go.Ty.Cx := mkX Tryd.prog GL shU ct2
end Go.Proofs.YtghmfiandllpfaaDoor.Lb
