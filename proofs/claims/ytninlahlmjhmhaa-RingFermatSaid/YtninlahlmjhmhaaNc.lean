import Derived.Test.YtninlahlmjhmhaaNb
namespace Go.Proofs.Ytninlahlmjhmhaa
open Go.Ty

theorem valN_bit : ∀ (xs : List (BitVec 64)) (w b : Nat), b < 64 → valN xs / 2 ^ (64 * w + b) % 2 = (rd u64S xs w).toNat / 2 ^ b % 2
  | [], w, b, _ => by
    have : rd u64S [] w = 0#64 := by cases w <;> rfl
    rw [this]; simp [valN]
  | x :: r, 0, b, hb => by
    show (x.toNat + 2 ^ 64 * valN r) / 2 ^ (64 * 0 + b) % 2 = x.toNat / 2 ^ b % 2
    have e : 2 ^ 64 * valN r = 2 ^ b * (2 * (2 ^ (63 - b) * valN r)) := by
      rw [← Nat.mul_assoc, ← Nat.mul_assoc, ← Nat.pow_succ, ← Nat.pow_add]
      congr 2; omega
    rw [Nat.mul_zero, Nat.zero_add, e, Nat.add_mul_div_left _ _ (Nat.two_pow_pos b), Nat.add_mul_mod_self_left]
  | x :: r, w + 1, b, hb => by
    show (x.toNat + 2 ^ 64 * valN r) / 2 ^ (64 * (w + 1) + b) % 2 = (rd u64S r w).toNat / 2 ^ b % 2
    rw [← valN_bit r w b hb, show 64 * (w + 1) + b = 64 + (64 * w + b) by omega, Nat.pow_add, ← Nat.div_div_eq_div_mul]
    have := x.isLt
    rw [show (x.toNat + 2 ^ 64 * valN r) / 2 ^ 64 = valN r by omega]
/-- the bit of a number -/
def bitB (V : Nat) (i : Int) : BitVec 64 := bif decide (i < 0) || decide (255 < i) then 0#64 else BitVec.ofNat 64 (V / 2 ^ i.toNat % 2)
theorem and_one (x : BitVec 64) (b : Nat) : x >>> b &&& 1#64 = BitVec.ofNat 64 (x.toNat / 2 ^ b % 2) := by
  apply BitVec.eq_of_toNat_eq
  have h := x.isLt
  have h2 : x.toNat / 2 ^ b &&& 1 = x.toNat / 2 ^ b % 2 := Nat.and_one_is_mod _
  rw [BitVec.toNat_and, BitVec.toNat_ushiftRight, Nat.shiftRight_eq_div_pow, BitVec.toNat_ofNat, BitVec.toNat_ofNat]
  rw [show 1 % 2 ^ 64 = 1 from rfl, h2]
  omega
theorem ifB_of {b : Bool} {p q : Prop} (h1 : b = true → p) (h2 : b = false → q) : ifB b p q := by cases b <;> simp_all [ifB]
theorem dmd_of {b : Bool} {p : Prop} (h1 : b = true) (h2 : p) : dmd b p := by subst h1; exact h2
def bitF : HL [numS, i64S] → SV := fun xs => .av (.val u64S (bitB (valN xs.1) xs.2.1))
theorem bit_fw (a : List (BitVec 64)) (i : Int) (P : SV → Prop) : FW Y0 Try.f34.ntmps (LTab.look []) Try.f34 (argsOf [numS, i64S] (a, i, ())) P =
  ifB (decide (i < 0)) (P (SV.av (AV.val (Sh.int IntKind.u64) 0#64)))
  (ifB (decide (255 < i)) (P (SV.av (AV.val (Sh.int IntKind.u64) 0#64)))
    (dmd (decide (0 ≤ IntKind.i64.wrap (i.tdiv 64)) && decide (IntKind.i64.wrap (i.tdiv 64) < 4))
      (P
        (SV.av
          (AV.val (Sh.int IntKind.u64)
            (rd (Sh.int IntKind.u64) a (IntKind.i64.wrap (i.tdiv 64)).toNat >>> (BitVec.ofInt 64 (i.tmod 64)).toNat &&&
              1#64)))))) := by kernel_rfl
theorem bit_ok : COK Try.prog noGl 34 (conT [numS, i64S] bitF) := by
  refine conT_ok (fun xs hw => ?_) (fun _ => rfl)
  obtain ⟨a, i, ⟨⟩⟩ := xs
  have i_ : Int := i
  refine PC_of_fw (t := []) shT_ok ct0_ok mixed Try.func34 rfl (by kernel_rfl) (by kernel_rfl) loopsNil rfl ?_
  rw [bit_fw]
  have hi : ∀ (i : Int), ifB (decide (i < 0)) ((fun r' => r' = SV.av (.val u64S (bitB (valN a) i))) (SV.av (AV.val (Sh.int IntKind.u64) 0#64)))
    (ifB (decide (255 < i)) ((fun r' => r' = SV.av (.val u64S (bitB (valN a) i))) (SV.av (AV.val (Sh.int IntKind.u64) 0#64)))
    (dmd (decide (0 ≤ IntKind.i64.wrap (i.tdiv 64)) && decide (IntKind.i64.wrap (i.tdiv 64) < 4))
      ((fun r' => r' = SV.av (.val u64S (bitB (valN a) i))) (SV.av (AV.val (Sh.int IntKind.u64) (rd (Sh.int IntKind.u64) a (IntKind.i64.wrap (i.tdiv 64)).toNat >>> (BitVec.ofInt 64 (i.tmod 64)).toNat &&& 1#64)))))) := by
    intro i
    refine ifB_of (fun h => ?_) (fun h0 => ifB_of (fun h => ?_) (fun h1 => ?_))
    · simp only [bitB, h, Bool.true_or, cond_true]
    · simp only [bitB, h, Bool.or_true, cond_true]
    · simp only [decide_eq_false_iff_not, Int.not_lt] at h0 h1
      obtain ⟨n, rfl⟩ : ∃ n : Nat, i = n := ⟨i.toNat, by omega⟩
      have e1 : (n : Int).tdiv 64 = ((n / 64 : Nat) : Int) := rfl
      have e2 : (n : Int).tmod 64 = ((n % 64 : Nat) : Int) := rfl
      have e3 : IntKind.i64.wrap ((n / 64 : Nat) : Int) = ((n / 64 : Nat) : Int) := IntWalk.i64_in _ (by omega)
      rw [e1, e2, e3]
      refine dmd_of (by simp; omega) ?_
      show SV.av _ = SV.av _
      have e4 : (BitVec.ofInt 64 ((n % 64 : Nat) : Int)).toNat = n % 64 := by
        rw [show BitVec.ofInt 64 ((n % 64 : Nat) : Int) = BitVec.ofNat 64 (n % 64) from rfl, BitVec.toNat_ofNat]; omega
      rw [e4, Int.toNat_natCast, and_one, ← valN_bit a (n / 64) (n % 64) (by omega), show 64 * (n / 64) + n % 64 = n by omega]
      have e5 : bitB (valN a) (n : Int) = BitVec.ofNat 64 (valN a / 2 ^ n % 2) := by
        unfold bitB
        rw [show decide ((n : Int) < 0) = false from decide_eq_false (by omega), show decide ((255 : Int) < n) = false from decide_eq_false (by omega)]
        rfl
      rw [e5]
  exact hi i
end Go.Proofs.Ytninlahlmjhmhaa
