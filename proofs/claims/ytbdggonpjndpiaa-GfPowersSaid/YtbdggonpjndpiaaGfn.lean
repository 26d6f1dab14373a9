import Derived.Test.YtbdggonpjndpiaaGfl
namespace Go.Proofs.Ytbdggonpjndpiaa
open Go.Ab

/-! ### FROBENIUS -/
theorem xor_self_mid (p q r : Nat) : (p ^^^ q) ^^^ (q ^^^ r) = p ^^^ r := by
  rw [Nat.xor_assoc, ← Nat.xor_assoc q q r, Nat.xor_self, Nat.zero_xor]
theorem sq_add {a b : Nat} (ha : a < 256) (hb : b < 256) : sq (a ^^^ b) = sq a ^^^ sq b := by
  unfold sq
  rw [mulN_add, mulN_add' a ha hb, mulN_add' b ha hb, mulN_comm b a hb ha, xor_self_mid]
theorem sq8 : ∀ a : Fin 256, sq (sq (sq (sq (sq (sq (sq (sq a.val))))))) = a.val := by decide +kernel
theorem npow_256 {a : Nat} (ha : a < 256) : npow a 256 = a := by
  have h1 := npow_two ha
  have h2 := npow_dbl ha 2 _ h1
  have h3 := npow_dbl ha 4 _ h2
  have h4 := npow_dbl ha 8 _ h3
  have h5 := npow_dbl ha 16 _ h4
  have h6 := npow_dbl ha 32 _ h5
  have h7 := npow_dbl ha 64 _ h6
  have h8 := npow_dbl ha 128 _ h7
  rw [show (256 : Nat) = 2 * 128 from rfl, h8]
  exact sq8 ⟨a, ha⟩
theorem npow_16 {a : Nat} (ha : a < 256) : npow a 16 = sq (sq (sq (sq a))) := by
  have h1 := npow_two ha
  have h2 := npow_dbl ha 2 _ h1
  have h3 := npow_dbl ha 4 _ h2
  exact npow_dbl ha 8 _ h3
theorem frob_call (a b : Nat) (ha : a < 256) (hb : b < 256) : PCall (cx Try.prog []) 4 [.int .u8 a, .int .u8 b] (.bool true) := by
  have f1 : powS (bx a b) 2 = bx (powS a 2) (powS b 2) := by
    have e1 := powS_nat (a := a ^^^ b) (n := 2) (xor_lt ha hb) (by omega)
    have e2 := powS_nat (a := a) (n := 2) ha (by omega)
    have e3 := powS_nat (a := b) (n := 2) hb (by omega)
    rw [npow_two (xor_lt ha hb)] at e1
    rw [npow_two ha] at e2
    rw [npow_two hb] at e3
    have e1' : powS ((a ^^^ b : Nat) : Int) 2 = _ := e1
    have e2' : powS (a : Int) 2 = _ := e2
    have e3' : powS (b : Int) 2 = _ := e3
    rw [bx_nat ha hb, e1', e2', e3', bx_nat (sq_lt ha) (sq_lt hb), sq_add ha hb]
  have f2 : powS a 256 = a := by
    have e1 : powS (a : Int) 256 = _ := powS_nat (a := a) (n := 256) ha (by omega)
    rw [e1, npow_256 ha]
  have f3 : powS (powS a 16) 16 = a := by
    have e1 : powS (a : Int) 16 = _ := powS_nat (a := a) (n := 16) ha (by omega)
    rw [npow_16 ha] at e1
    have hlt : sq (sq (sq (sq a))) < 256 := sq_lt (sq_lt (sq_lt (sq_lt ha)))
    have e2 : powS ((sq (sq (sq (sq a))) : Nat) : Int) 16 = _ := powS_nat (n := 16) hlt (by omega)
    rw [e1, e2, npow_16 hlt]
    congr 1
    exact sq8 ⟨a, ha⟩
  exact Con.of_tests mixed T4_ok 20 1 [(14, powS (bx a b) 2 == bx (powS a 2) (powS b 2), true), (19, powS a 256 == a, true), (26, powS (powS a 16) 16 == a, true)] (by kernel_rfl) (tests_cons (eq_tt f1) (tests_cons (eq_tt f2) (tests_cons (eq_tt f3) tests_nil))) rfl rfl

/-! ### Sub -/
theorem bo_nat {a b : Nat} (ha : a < 256) (hb : b < 256) : bo a b = ((a ||| b : Nat) : Int) := by
  have hx : a ||| b < 2 ^ 8 := Nat.or_lt_two_pow ha hb
  unfold bo IntKind.wrap IntKind.bits IntKind.signed
  simp only [BitVec.ofInt_natCast, BitVec.toNat_or, BitVec.toNat_ofNat, Bool.false_and, Bool.false_eq_true, if_false]
  rw [Nat.mod_eq_of_lt (by omega : a < 2 ^ 8), Nat.mod_eq_of_lt (by omega : b < 2 ^ 8)]
  omega
def rotN (a n : Nat) : Nat := (a * 2 ^ n % 256) ||| (a / 2 ^ (8 - n))
theorem rot_nat {a n : Nat} (ha : a < 256) : rotS a n = (rotN a n : Nat) := by
  have h1 : IntKind.u8.wrap ((a : Int) * 2 ^ n) = ((a * 2 ^ n % 256 : Nat) : Int) := by
    unfold IntKind.wrap IntKind.bits IntKind.signed; simp
  have h2 : (a : Int).fdiv (2 ^ (8 - n)) = ((a / 2 ^ (8 - n) : Nat) : Int) := by
    rw [Int.fdiv_eq_ediv_of_nonneg _ (Int.le_of_lt (Int.pow_pos (by omega)))]; simp
  have h3 : a / 2 ^ (8 - n) < 256 := Nat.lt_of_le_of_lt (Nat.div_le_self _ _) ha
  unfold rotS rotN
  rw [h1, h2, bo_nat (Nat.mod_lt _ (by omega)) h3]
theorem rotN_lt {a : Nat} (ha : a < 256) (n : Nat) : rotN a n < 256 := Nat.or_lt_two_pow (n := 8) (Nat.mod_lt _ (by omega)) (Nat.lt_of_le_of_lt (Nat.div_le_self _ _) ha)
def subN (a : Nat) : Nat := let i := inv8 a; 99 ^^^ i ^^^ rotN i 1 ^^^ rotN i 2 ^^^ rotN i 3 ^^^ rotN i 4
def unsubN (a : Nat) : Nat := let c := a ^^^ 99; inv8 (rotN c 1 ^^^ rotN c 3 ^^^ rotN c 6)
theorem subS_nat {a : Nat} (ha : a < 256) : subS a = (subN a : Nat) := by
  have hi : inv8 a < 256 := by rw [← invN_eq ha]; exact invN_lt ha
  have e99 : (99 : Int) = ((99 : Nat) : Int) := rfl
  have l1 := xor_lt (by omega : 99 < 256) hi
  have l2 := xor_lt l1 (rotN_lt hi 1)
  have l3 := xor_lt l2 (rotN_lt hi 2)
  have l4 := xor_lt l3 (rotN_lt hi 3)
  unfold subS subN
  rw [invS_nat ha, invN_eq ha, rot_nat hi, rot_nat hi, rot_nat hi, rot_nat hi, e99, bx_nat (by omega) hi, bx_nat l1 (rotN_lt hi 1), bx_nat l2 (rotN_lt hi 2), bx_nat l3 (rotN_lt hi 3), bx_nat l4 (rotN_lt hi 4)]
theorem subN_lt {a : Nat} (ha : a < 256) : subN a < 256 := by
  have hi : inv8 a < 256 := by rw [← invN_eq ha]; exact invN_lt ha
  exact xor_lt (xor_lt (xor_lt (xor_lt (xor_lt (by omega) hi) (rotN_lt hi 1)) (rotN_lt hi 2)) (rotN_lt hi 3)) (rotN_lt hi 4)
theorem unsubS_nat {a : Nat} (ha : a < 256) : unsubS a = (unsubN a : Nat) := by
  have hc := xor_lt ha (by omega : 99 < 256)
  have e99 : (99 : Int) = ((99 : Nat) : Int) := rfl
  have l1 := xor_lt (rotN_lt hc 1) (rotN_lt hc 3)
  unfold unsubS unsubN
  rw [e99, bx_nat ha (by omega), rot_nat hc, rot_nat hc, rot_nat hc, bx_nat (rotN_lt hc 1) (rotN_lt hc 3), bx_nat l1 (rotN_lt hc 6), invS_nat (xor_lt l1 (rotN_lt hc 6)), invN_eq (xor_lt l1 (rotN_lt hc 6))]
theorem unsubN_lt {a : Nat} (ha : a < 256) : unsubN a < 256 := by
  have hc := xor_lt ha (by omega : 99 < 256)
  have l := xor_lt (xor_lt (rotN_lt hc 1) (rotN_lt hc 3)) (rotN_lt hc 6)
  unfold unsubN
  simp only
  rw [← invN_eq l]; exact invN_lt l
theorem unsub_sub : ∀ a : Fin 256, unsubN (subN a.val) = a.val := by decide +kernel
theorem sub_unsub : ∀ a : Fin 256, subN (unsubN a.val) = a.val := by decide +kernel
theorem sub_ne : ∀ a : Fin 256, subN a.val ≠ a.val ∧ subN a.val ≠ 255 - a.val := by decide +kernel
def notS (a : Int) : Int := IntKind.u8.wrap (BitVec.ofInt IntKind.u8.bits (if IntKind.u8.signed then -1 else IntKind.u8.max) ^^^ BitVec.ofInt IntKind.u8.bits a).toNat
theorem notS_nat : ∀ a : Fin 256, notS (a.val : Int) = ((255 - a.val : Nat) : Int) := by decide +kernel
theorem sub_call (a b : Nat) (ha : a < 256) (hb : b < 256) : PCall (cx Try.prog []) 7 [.int .u8 a, .int .u8 b] (.bool true) := by
  have f1 : unsubS (subS a) = a := by rw [subS_nat ha, unsubS_nat (subN_lt ha), unsub_sub ⟨a, ha⟩]
  have f2 : subS (unsubS a) = a := by rw [unsubS_nat ha, subS_nat (unsubN_lt ha), sub_unsub ⟨a, ha⟩]
  have f3 : subS a ≠ a := by rw [subS_nat ha]; have := (sub_ne ⟨a, ha⟩).1; simp only at this; omega
  have f4 : subS a ≠ notS a := by rw [subS_nat ha, notS_nat ⟨a, ha⟩]; have := (sub_ne ⟨a, ha⟩).2; simp only at this ⊢; omega
  have f5 : ((subS a == subS b) == ((a : Int) == (b : Int))) = true := by
    by_cases h : a = b
    · subst h; simp
    · have h1 : (a : Int) ≠ b := by omega
      have h2 : subS a ≠ subS b := by
        intro e
        have : unsubS (subS b) = b := by rw [subS_nat hb, unsubS_nat (subN_lt hb), unsub_sub ⟨b, hb⟩]
        rw [← e, f1] at this; exact h1 this
      rw [eq_ff h1, eq_ff h2]; rfl
  exact Con.of_tests mixed T4_ok 20 1 [(9, unsubS (subS a) == a, true), (15, subS (unsubS a) == a, true), (21, subS a != a, true), (28, subS a != notS a, true), (39, (subS a == subS b) == ((a : Int) == (b : Int)), true)] (by kernel_rfl) (tests_cons (eq_tt f1) (tests_cons (eq_tt f2) (tests_cons (ne_tt f3) (tests_cons (ne_tt f4) (tests_cons f5 tests_nil))))) rfl rfl
end Go.Proofs.Ytbdggonpjndpiaa
