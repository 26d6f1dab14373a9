import Derived.Test.YtlopooohfkgncaaSa
import Derived.Test.YtlopooohfkgncaaGa
namespace Go.Proofs.Ytlopooohfkgncaa
open Go.Ty

/-! ## Bytes put into words -/
def putB (w : BitVec 64) (x : BitVec 8) (r : Nat) : BitVec 64 := w ||| (x.setWidth 64 <<< (8 * r))
theorem putB_val {w : BitVec 64} {x : BitVec 8} {r : Nat} (hr : r < 8) (hw : w.toNat < 2 ^ (8 * r)) : (putB w x r).toNat = w.toNat + x.toNat * 2 ^ (8 * r) := by
  have hx := x.isLt
  have h1 : x.toNat * 2 ^ (8 * r) < 2 ^ 64 := by
    have h2 : 2 ^ 8 * 2 ^ (8 * r) ≤ 2 ^ 64 := by rw [← Nat.pow_add]; exact Nat.pow_le_pow_right (by decide) (by omega)
    exact Nat.lt_of_lt_of_le (Nat.mul_lt_mul_of_pos_right hx (Nat.two_pow_pos _)) h2
  unfold putB
  rw [BitVec.toNat_or, BitVec.toNat_shiftLeft, BitVec.toNat_setWidth, Nat.mod_eq_of_lt (show x.toNat < 2 ^ 64 by omega), Nat.shiftLeft_eq, Nat.mod_eq_of_lt h1, Nat.or_comm, Nat.mul_comm, ← Nat.two_pow_add_eq_or_of_lt hw, Nat.add_comm]
theorem upd : ∀ (q : Nat) (l : List (BitVec 64)) (r : Nat) (x : BitVec 8), q < l.length → r < 8 → valN l < 2 ^ (64 * q + 8 * r) → valN (l.set q (putB (rd u64S l q) x r)) = valN l + x.toNat * 2 ^ (64 * q + 8 * r)
  | 0, w :: l, r, x, _, hr, h => by
    rw [Nat.mul_zero, Nat.zero_add] at h ⊢
    have h2 : 2 ^ (8 * r) ≤ 2 ^ 56 := Nat.pow_le_pow_right (by decide) (by omega)
    have h : w.toNat + 2 ^ 64 * valN l < 2 ^ (8 * r) := h
    show (putB w x r).toNat + 2 ^ 64 * valN l = w.toNat + 2 ^ 64 * valN l + _
    rw [putB_val hr (by omega)]; omega
  | q + 1, w :: l, r, x, hq, hr, h => by
    have h : w.toNat + 2 ^ 64 * valN l < 2 ^ (64 * (q + 1) + 8 * r) := h
    have e : 2 ^ (64 * (q + 1) + 8 * r) = 2 ^ 64 * 2 ^ (64 * q + 8 * r) := by rw [← Nat.pow_add]; congr 1; omega
    rw [e] at h ⊢
    have ih := upd q l r x (Nat.lt_of_succ_lt_succ hq) hr (Nat.lt_of_mul_lt_mul_left (Nat.lt_of_le_of_lt (Nat.le_add_left _ _) h))
    show w.toNat + 2 ^ 64 * valN (l.set q (putB (rd u64S l q) x r)) = w.toNat + 2 ^ 64 * valN l + _
    rw [ih, Nat.mul_add, Nat.add_assoc, Nat.mul_left_comm]
noncomputable def oL (b : List (BitVec 8)) : Nat → List (BitVec 64)
  | 0 => List.replicate 8 0#64
  | i + 1 => (oL b i).set (i / 8) (putB (rd u64S (oL b i) (i / 8)) (rd u8S b i) (i % 8))
theorem oL_len (b : List (BitVec 8)) : ∀ i, (oL b i).length = 8
  | 0 => rfl
  | i + 1 => by
    show ((oL b i).set _ _).length = _
    rw [List.length_set, oL_len b i]
theorem valB_snoc (x : BitVec 8) : ∀ l : List (BitVec 8), Lb.valB (l ++ [x]) = Lb.valB l + x.toNat * 2 ^ (8 * l.length)
  | [] => by
    show x.toNat + 256 * 0 = 0 + x.toNat * 2 ^ (8 * 0)
    omega
  | y :: l => by
    show y.toNat + 256 * Lb.valB (l ++ [x]) = y.toNat + 256 * Lb.valB l + x.toNat * 2 ^ (8 * (l.length + 1))
    rw [valB_snoc x l, show 8 * (l.length + 1) = 8 + 8 * l.length by omega, Nat.pow_add, Nat.mul_add, Nat.add_assoc]
    congr 2
    rw [Nat.mul_left_comm]
theorem oL_val (b : List (BitVec 8)) (hb : b.length ≤ 64) : ∀ i, i ≤ b.length → valN (oL b i) = Lb.valB (b.take i)
  | 0, _ => by
    show valN (List.replicate 8 0#64) = 0
    decide
  | i + 1, h => by
    have ih := oL_val b hb i (by omega)
    have hlt := Lb.valB_lt (b.take i)
    rw [List.length_take, Nat.min_eq_left (by omega)] at hlt
    have e : 64 * (i / 8) + 8 * (i % 8) = 8 * i := by omega
    have e2 : (256 : Nat) ^ i = 2 ^ (8 * i) := by rw [Nat.pow_mul]
    show valN ((oL b i).set (i / 8) (putB (rd u64S (oL b i) (i / 8)) (rd u8S b i) (i % 8))) = _
    rw [upd (i / 8) (oL b i) (i % 8) _ (by rw [oL_len]; omega) (Nat.mod_lt _ (by decide)) (by rw [ih, e, ← e2]; exact hlt), ih, e, List.take_succ_eq_append_getElem (by omega), valB_snoc, List.length_take, Nat.min_eq_left (by omega), rd_at (show i < b.length by omega)]
theorem valB_app : ∀ l m : List (BitVec 8), Lb.valB (l ++ m) = Lb.valB l + 2 ^ (8 * l.length) * Lb.valB m
  | [], m => by
    show Lb.valB m = 0 + 2 ^ (8 * 0) * Lb.valB m
    omega
  | y :: l, m => by
    show y.toNat + 256 * Lb.valB (l ++ m) = y.toNat + 256 * Lb.valB l + 2 ^ (8 * (l.length + 1)) * Lb.valB m
    rw [valB_app l m, show 8 * (l.length + 1) = 8 + 8 * l.length by omega, Nat.pow_add, Nat.mul_add, Nat.add_assoc, Nat.mul_assoc]
theorem valB_noughts : ∀ n : Nat, Lb.valB (List.replicate n 0#8) = 0
  | 0 => rfl
  | n + 1 => by
    show 0 + 256 * Lb.valB (List.replicate n 0#8) = 0
    rw [valB_noughts n]
end Go.Proofs.Ytlopooohfkgncaa
