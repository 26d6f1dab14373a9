import Derived.Test.YtbdggonpjndpiaaGfc
namespace Go.Proofs.Ytbdggonpjndpiaa
open Go.Ab

/-! ### bytes as natural numbers -/
theorem bx_nat {a b : Nat} (ha : a < 256) (hb : b < 256) : bx a b = ((a ^^^ b : Nat) : Int) := by
  have hx : a ^^^ b < 2 ^ 8 := Nat.xor_lt_two_pow ha hb
  unfold bx IntKind.wrap IntKind.bits IntKind.signed
  simp only [BitVec.ofInt_natCast, BitVec.toNat_xor, BitVec.toNat_ofNat, Bool.false_and, Bool.false_eq_true, if_false]
  rw [Nat.mod_eq_of_lt (by omega : a < 2 ^ 8), Nat.mod_eq_of_lt (by omega : b < 2 ^ 8)]
  omega

def xtN (a : Nat) : Nat := (a * 2 % 256) ^^^ (a / 128 * 27)
def mulB : Nat → Nat → Nat → Nat
  | 0, _, _ => 0
  | n + 1, a, b => (if b % 2 = 1 then a else 0) ^^^ mulB n (xtN a) (b / 2)
def mulN (a b : Nat) : Nat := mulB 8 a b

theorem xor_lt {a b : Nat} (ha : a < 256) (hb : b < 256) : a ^^^ b < 256 := Nat.xor_lt_two_pow (n := 8) ha hb
theorem xtN_lt {a : Nat} (ha : a < 256) : xtN a < 256 := xor_lt (Nat.mod_lt _ (by omega)) (by omega)
theorem xt_nat {a : Nat} (ha : a < 256) : xt a = (xtN a : Nat) := by
  have h1 : IntKind.u8.wrap ((a : Int) * 2 ^ 1) = ((a * 2 % 256 : Nat) : Int) := by
    unfold IntKind.wrap IntKind.bits IntKind.signed; simp
  have h2 : IntKind.u8.wrap ((a : Int).fdiv (2 ^ 7) * 27) = ((a / 128 * 27 : Nat) : Int) := by
    rw [Int.fdiv_eq_ediv_of_nonneg _ (by omega)]
    unfold IntKind.wrap IntKind.bits IntKind.signed; simp
    omega
  unfold xt xtN
  rw [h1, h2, bx_nat (Nat.mod_lt _ (by omega)) (by omega)]
theorem ba_one {b : Nat} (hb : b < 256) : (ba b 1 == 1) = decide (b % 2 = 1) := by
  have : ba b 1 = ((b % 2 : Nat) : Int) := by
    unfold ba IntKind.wrap IntKind.bits IntKind.signed
    have h1 : BitVec.ofInt 8 1 = BitVec.ofNat 8 1 := rfl
    simp only [h1, BitVec.ofInt_natCast, BitVec.toNat_and, BitVec.toNat_ofNat, Bool.false_and, Bool.false_eq_true, if_false]
    rw [Nat.mod_eq_of_lt (by omega : b < 2 ^ 8), Nat.mod_eq_of_lt (by decide : 1 < 2 ^ 8), Nat.and_one_is_mod]
    omega
  rw [this]
  have : b % 2 = 0 ∨ b % 2 = 1 := by omega
  rcases this with h | h <;> rw [h] <;> decide
theorem mulB_zero (n a : Nat) : mulB n a 0 = 0 := by
  induction n generalizing a with
  | zero => rfl
  | succ n ih => simp [mulB, ih]
theorem mulL_nat : ∀ (n : Nat) (a b o : Nat), a < 256 → b < 256 → o < 256 → mulL n a b o = ((o ^^^ mulB n a b : Nat) : Int) := by
  intro n
  induction n with
  | zero => intro a b o _ _ _; simp [mulL, mulB]
  | succ n ih =>
    intro a b o ha hb ho
    simp only [mulL, mulB]
    by_cases h : (b : Int) > 0
    · rw [if_pos h, xt_nat ha, ba_one hb]
      have hd : (b : Int).fdiv (2 ^ 1) = ((b / 2 : Nat) : Int) := by rw [Int.fdiv_eq_ediv_of_nonneg _ (by omega)]; simp
      rw [hd]
      by_cases hbit : b % 2 = 1
      · simp only [hbit, decide_true, if_true]
        rw [bx_nat ho ha, ih _ _ _ (xtN_lt ha) (by omega) (xor_lt ho ha), Nat.xor_assoc]
      · simp only [hbit, decide_false, if_false, Bool.false_eq_true, Nat.zero_xor]
        rw [ih _ _ _ (xtN_lt ha) (by omega) ho]
    · have : b = 0 := by omega
      subst this
      rw [if_neg h]; simp [mulB_zero]
theorem mulB_more : ∀ (m n a b : Nat), b < 2 ^ m → m ≤ n → mulB n a b = mulB m a b := by
  intro m
  induction m with
  | zero => intro n a b hb _; have : b = 0 := by omega
            subst this; simp [mulB_zero]
  | succ m ih =>
    intro n a b hb hn
    obtain ⟨n, rfl⟩ : ∃ k, n = k + 1 := ⟨n - 1, by omega⟩
    simp only [mulB]
    rw [ih n (xtN a) (b / 2) (by rw [Nat.pow_succ] at hb; omega) (by omega)]
theorem mulB_lt : ∀ (n a b : Nat), a < 256 → mulB n a b < 256 := by
  intro n
  induction n with
  | zero => intro a b _; simp [mulB]
  | succ n ih => intro a b ha; simp only [mulB]; exact xor_lt (by split <;> omega) (ih _ _ (xtN_lt ha))
theorem mulN_lt {a b : Nat} (ha : a < 256) : mulN a b < 256 := mulB_lt 8 a b ha
theorem mulS_nat {a b : Nat} (ha : a < 256) (hb : b < 256) : mulS a b = (mulN a b : Nat) := by
  unfold mulS mulN
  have h0 := mulL_nat b a b 0 ha hb (by omega)
  simp only [Int.natCast_zero, Nat.zero_xor] at h0
  rw [Int.toNat_natCast]
  have h0' : mulL b (a : Int) (b : Int) 0 = ((mulB b a b : Nat) : Int) := h0
  rw [h0']
  congr 1
  rcases Nat.le_total b 8 with h | h
  · rw [← mulB_more b 8 a b Nat.lt_two_pow_self h]
  · rw [mulB_more 8 b a b (by omega) h]

/-! linear, both ways -/
theorem xor_div2 (b c : Nat) : (b ^^^ c) / 2 = (b / 2) ^^^ (c / 2) := by
  have := Nat.shiftRight_xor_distrib (a := b) (b := c) (i := 1)
  simpa [Nat.shiftRight_eq_div_pow] using this
theorem xor_mod2 (b c : Nat) : (b ^^^ c) % 2 = (b % 2 + c % 2) % 2 := by
  have h := Nat.xor_mod_two_pow (a := b) (b := c) (n := 1)
  simp only [Nat.pow_one] at h
  rw [h]
  rcases Nat.mod_two_eq_zero_or_one b with h1 | h1 <;> rcases Nat.mod_two_eq_zero_or_one c with h2 | h2 <;> rw [h1, h2] <;> decide
theorem mulB_add_right : ∀ (n a b c : Nat), mulB n a (b ^^^ c) = mulB n a b ^^^ mulB n a c := by
  intro n
  induction n with
  | zero => intro a b c; simp [mulB]
  | succ n ih =>
    intro a b c
    simp only [mulB, xor_div2, ih, xor_mod2]
    have e : (if (b % 2 + c % 2) % 2 = 1 then a else 0) = (if b % 2 = 1 then a else 0) ^^^ (if c % 2 = 1 then a else 0) := by
      rcases Nat.mod_two_eq_zero_or_one b with h1 | h1 <;> rcases Nat.mod_two_eq_zero_or_one c with h2 | h2 <;> simp [h1, h2]
    rw [e]
    generalize (if b % 2 = 1 then a else 0) = p
    generalize (if c % 2 = 1 then a else 0) = q
    generalize mulB n (xtN a) (b / 2) = r
    generalize mulB n (xtN a) (c / 2) = s
    rw [Nat.xor_assoc, Nat.xor_assoc, ← Nat.xor_assoc q r s, Nat.xor_comm q r, Nat.xor_assoc r q s]
theorem xtN_add (a c : Nat) (ha : a < 256) (hc : c < 256) : xtN (a ^^^ c) = xtN a ^^^ xtN c := by
  have h1 : (a ^^^ c) * 2 % 256 = (a * 2 % 256) ^^^ (c * 2 % 256) := by
    have e1 := Nat.shiftLeft_xor_distrib (a := a) (b := c) (i := 1)
    simp only [Nat.shiftLeft_eq, Nat.pow_one] at e1
    rw [e1]
    exact Nat.xor_mod_two_pow (a := a * 2) (b := c * 2) (n := 8)
  have h2 : (a ^^^ c) / 128 = (a / 128) ^^^ (c / 128) := by
    have := Nat.shiftRight_xor_distrib (a := a) (b := c) (i := 7)
    simpa [Nat.shiftRight_eq_div_pow] using this
  have h3 : (a ^^^ c) / 128 * 27 = (a / 128 * 27) ^^^ (c / 128 * 27) := by
    rw [h2]
    have ka : a / 128 = 0 ∨ a / 128 = 1 := by omega
    have kc : c / 128 = 0 ∨ c / 128 = 1 := by omega
    rcases ka with ka | ka <;> rcases kc with kc | kc <;> rw [ka, kc] <;> decide
  unfold xtN
  rw [h1, h3]
  generalize a * 2 % 256 = p
  generalize c * 2 % 256 = q
  generalize a / 128 * 27 = r
  generalize c / 128 * 27 = s
  rw [Nat.xor_assoc, Nat.xor_assoc, ← Nat.xor_assoc q r s, Nat.xor_comm q r, Nat.xor_assoc r q s]
theorem mulB_add_left : ∀ (n a c b : Nat), a < 256 → c < 256 → mulB n (a ^^^ c) b = mulB n a b ^^^ mulB n c b := by
  intro n
  induction n with
  | zero => intro a c b _ _; simp [mulB]
  | succ n ih =>
    intro a c b ha hc
    simp only [mulB, xtN_add a c ha hc, ih _ _ _ (xtN_lt ha) (xtN_lt hc)]
    have e : (if b % 2 = 1 then a ^^^ c else 0) = (if b % 2 = 1 then a else 0) ^^^ (if b % 2 = 1 then c else 0) := by split <;> simp
    rw [e]
    generalize (if b % 2 = 1 then a else 0) = p
    generalize (if b % 2 = 1 then c else 0) = q
    generalize mulB n (xtN a) (b / 2) = r
    generalize mulB n (xtN c) (b / 2) = s
    rw [Nat.xor_assoc, Nat.xor_assoc, ← Nat.xor_assoc q r s, Nat.xor_comm q r, Nat.xor_assoc r q s]
theorem mulN_add (a b c : Nat) : mulN a (b ^^^ c) = mulN a b ^^^ mulN a c := mulB_add_right 8 a b c
theorem mulN_add' {a c : Nat} (b : Nat) (ha : a < 256) (hc : c < 256) : mulN (a ^^^ c) b = mulN a b ^^^ mulN c b := mulB_add_left 8 a c b ha hc

/-- what is linear is known by the powers of 2 -/
theorem top_bit : ∀ a : Fin 256, a.val ≠ 0 → (2 ^ a.val.log2) ^^^ (a.val - 2 ^ a.val.log2) = a.val ∧ a.val.log2 < 8 ∧ 2 ^ a.val.log2 ≤ a.val := by decide +kernel
theorem lin_ext {f g : Nat → Nat} (hf : ∀ a c, a < 256 → c < 256 → f (a ^^^ c) = f a ^^^ f c) (hg : ∀ a c, a < 256 → c < 256 → g (a ^^^ c) = g a ^^^ g c) (hb : ∀ i, i < 8 → f (2 ^ i) = g (2 ^ i)) : ∀ a, a < 256 → f a = g a := by
  intro a
  induction a using Nat.strongRecOn with
  | _ a ih =>
    intro ha
    by_cases h0 : a = 0
    · subst h0
      have h1 := hf 0 0 (by omega) (by omega)
      have h2 := hg 0 0 (by omega) (by omega)
      simp at h1 h2
      rw [h1, h2]
    · obtain ⟨h1, h2, h3⟩ := top_bit ⟨a, ha⟩ h0
      simp only at h1 h2 h3
      have hp : 2 ^ a.log2 < 256 := by omega
      have hpos : 0 < 2 ^ a.log2 := Nat.two_pow_pos _
      rw [← h1, hf _ _ hp (by omega), hg _ _ hp (by omega), hb _ h2, ih _ (by omega) (by omega)]

theorem mulN_comm (a b : Nat) (ha : a < 256) (hb : b < 256) : mulN a b = mulN b a := by
  refine lin_ext (f := fun a => mulN a b) (g := fun a => mulN b a) (fun a c ha hc => mulN_add' b ha hc) (fun a c _ _ => mulN_add b a c) (fun i hi => ?_) a ha
  refine lin_ext (f := fun b => mulN (2 ^ i) b) (g := fun b => mulN b (2 ^ i)) (fun a c _ _ => mulN_add _ a c) (fun a c ha hc => mulN_add' _ ha hc) (fun j hj => ?_) b hb
  have h : ∀ i : Fin 8, ∀ j : Fin 8, mulN (2 ^ i.val) (2 ^ j.val) = mulN (2 ^ j.val) (2 ^ i.val) := by decide +kernel
  exact h ⟨i, hi⟩ ⟨j, hj⟩
theorem pow_lt8 {i : Nat} (hi : i < 8) : 2 ^ i < 256 := by
  have h : ∀ i : Fin 8, 2 ^ i.val < 256 := by decide
  exact h ⟨i, hi⟩
theorem mulN_assoc (a b c : Nat) (ha : a < 256) (hb : b < 256) (hc : c < 256) : mulN (mulN a b) c = mulN a (mulN b c) := by
  refine lin_ext (f := fun c => mulN (mulN a b) c) (g := fun c => mulN a (mulN b c)) (fun x y _ _ => mulN_add _ x y) (fun x y _ _ => by simp only [mulN_add]) (fun k hk => ?_) c hc
  refine lin_ext (f := fun b => mulN (mulN a b) (2 ^ k)) (g := fun b => mulN a (mulN b (2 ^ k))) (fun x y hx hy => by simp only [mulN_add, mulN_add' (2 ^ k) (mulN_lt (b := x) ha) (mulN_lt (b := y) ha)]) (fun x y hx hy => by simp only [mulN_add' (2 ^ k) hx hy, mulN_add]) (fun j hj => ?_) b hb
  refine lin_ext (f := fun a => mulN (mulN a (2 ^ j)) (2 ^ k)) (g := fun a => mulN a (mulN (2 ^ j) (2 ^ k))) (fun x y hx hy => by simp only [mulN_add' (2 ^ j) hx hy, mulN_add' (2 ^ k) (mulN_lt (b := 2 ^ j) hx) (mulN_lt (b := 2 ^ j) hy)]) (fun x y hx hy => mulN_add' _ hx hy) (fun i hi => ?_) a ha
  have h : ∀ i : Fin 8, ∀ j : Fin 8, ∀ k : Fin 8, mulN (mulN (2 ^ i.val) (2 ^ j.val)) (2 ^ k.val) = mulN (2 ^ i.val) (mulN (2 ^ j.val) (2 ^ k.val)) := by decide +kernel
  exact h ⟨i, hi⟩ ⟨j, hj⟩ ⟨k, hk⟩
theorem mulN_one (a : Nat) (ha : a < 256) : mulN a 1 = a := by
  have h : ∀ a : Fin 256, mulN a.val 1 = a.val := by decide +kernel
  exact h ⟨a, ha⟩
theorem mulN_zero (a : Nat) : mulN a 0 = 0 := mulB_zero 8 a

/-! powers -/
def npow (a : Nat) : Nat → Nat
  | 0 => 1
  | n + 1 => mulN (npow a n) a
theorem npow_lt {a : Nat} (ha : a < 256) : ∀ n, npow a n < 256 := by
  intro n; cases n with
  | zero => simp [npow]
  | succ n => exact mulN_lt (npow_lt ha n)
theorem npow_add {a : Nat} (ha : a < 256) (m n : Nat) : npow a (m + n) = mulN (npow a m) (npow a n) := by
  induction n with
  | zero => rw [Nat.add_zero, npow, mulN_one _ (npow_lt ha m)]
  | succ n ih => rw [← Nat.add_assoc, npow, npow, ih, mulN_assoc _ _ _ (npow_lt ha m) (npow_lt ha n) ha]
theorem npow_sq {a : Nat} (ha : a < 256) (n : Nat) : npow (mulN a a) n = npow a (2 * n) := by
  induction n with
  | zero => rfl
  | succ n ih =>
    rw [npow, ih, show 2 * (n + 1) = 2 * n + 1 + 1 from by omega, npow, npow, mulN_assoc _ _ _ (npow_lt ha _) ha ha]
theorem wa_one {n : Nat} (hn : n < 2 ^ 64) : (wa n 1 == 1) = decide (n % 2 = 1) := by
  have : wa n 1 = ((n % 2 : Nat) : Int) := by
    unfold wa IntKind.wrap IntKind.bits IntKind.signed
    have h1 : BitVec.ofInt 64 1 = BitVec.ofNat 64 1 := rfl
    simp only [h1, BitVec.ofInt_natCast, BitVec.toNat_and, BitVec.toNat_ofNat, Bool.false_and, Bool.false_eq_true, if_false]
    rw [Nat.mod_eq_of_lt hn, Nat.mod_eq_of_lt (by decide : 1 < 2 ^ 64), Nat.and_one_is_mod]
    omega
  rw [this]
  have : n % 2 = 0 ∨ n % 2 = 1 := by omega
  rcases this with h | h <;> rw [h] <;> decide
theorem powL_nat : ∀ (k a n o : Nat), a < 256 → n < 2 ^ 64 → n < 2 ^ k → o < 256 → powL k a n o = ((mulN o (npow a n) : Nat) : Int) := by
  intro k
  induction k with
  | zero =>
    intro a n o ha _ hn ho
    have : n = 0 := by omega
    subst this
    simp [powL, npow, mulN_one o ho]
  | succ k ih =>
    intro a n o ha h64 hn ho
    simp only [powL]
    by_cases h : (n : Int) > 0
    · rw [if_pos h, wa_one h64, mulS_nat ha ha]
      have hd : (n : Int).fdiv (2 ^ 1) = ((n / 2 : Nat) : Int) := by rw [Int.fdiv_eq_ediv_of_nonneg _ (by omega)]; simp
      rw [hd]
      have hk : n / 2 < 2 ^ k := by rw [Nat.pow_succ] at hn; omega
      by_cases hbit : n % 2 = 1
      · simp only [hbit, decide_true, if_true]
        rw [mulS_nat ho ha, ih _ _ _ (mulN_lt ha) (by omega) hk (mulN_lt ho), npow_sq ha, mulN_assoc _ _ _ ho ha (npow_lt ha _)]
        congr 2
        rw [mulN_comm a _ ha (npow_lt ha _)]
        show npow a (2 * (n / 2) + 1) = npow a n
        congr 1; omega
      · simp only [hbit, decide_false, if_false, Bool.false_eq_true]
        rw [ih _ _ _ (mulN_lt ha) (by omega) hk ho, npow_sq ha]
        congr 3; omega
    · have : n = 0 := by omega
      subst this
      rw [if_neg h]; simp [npow, mulN_one o ho]
theorem powS_nat {a n : Nat} (ha : a < 256) (hn : n < 2 ^ 64) : powS a n = (npow a n : Nat) := by
  unfold powS
  rw [Int.toNat_natCast]
  have := powL_nat n a n 1 ha hn Nat.lt_two_pow_self (by omega)
  have h' : powL n (a : Int) (n : Int) 1 = ((mulN 1 (npow a n) : Nat) : Int) := this
  rw [h', mulN_comm _ _ (by omega) (npow_lt ha n), mulN_one _ (npow_lt ha n)]
def invN (a : Nat) : Nat := npow a 254
theorem invS_nat {a : Nat} (ha : a < 256) : invS a = (invN a : Nat) := powS_nat (n := 254) ha (by omega)
theorem invN_lt {a : Nat} (ha : a < 256) : invN a < 256 := npow_lt ha _
def sq (a : Nat) : Nat := mulN a a
theorem sq_lt {a : Nat} (ha : a < 256) : sq a < 256 := mulN_lt ha
/-- a to the 254, by squares -/
def inv8 (a : Nat) : Nat :=
  let b := sq a
  let c := sq b
  let d := sq c
  let e := sq d
  let f := sq e
  let g := sq f
  let h := sq g
  mulN b (mulN c (mulN d (mulN e (mulN f (mulN g h)))))
theorem npow_one {a : Nat} (ha : a < 256) : npow a 1 = a := by
  show mulN 1 a = a
  rw [mulN_comm _ _ (by omega) ha, mulN_one a ha]
theorem npow_two {a : Nat} (ha : a < 256) : npow a 2 = sq a := by
  show mulN (npow a 1) a = _
  rw [npow_one ha]; rfl
theorem npow_half {a : Nat} (ha : a < 256) (n : Nat) : npow a (2 * n) = npow (sq a) n := (npow_sq ha n).symm
theorem npow_dbl {a : Nat} (ha : a < 256) : ∀ k x, npow a k = x → npow a (2 * k) = sq x := by
  rintro k x rfl
  rw [show 2 * k = k + k from by omega, npow_add ha]; rfl
theorem invN_eq {a : Nat} (ha : a < 256) : invN a = inv8 a := by
  have h1 := npow_two ha
  have h2 := npow_dbl ha 2 _ h1
  have h3 := npow_dbl ha 4 _ h2
  have h4 := npow_dbl ha 8 _ h3
  have h5 := npow_dbl ha 16 _ h4
  have h6 := npow_dbl ha 32 _ h5
  have h7 := npow_dbl ha 64 _ h6
  show npow a (2 + (4 + (8 + (16 + (32 + (64 + 128)))))) = _
  rw [npow_add ha, npow_add ha, npow_add ha, npow_add ha, npow_add ha, npow_add ha, h1, h2, h3, h4, h5, h6, h7]
  rfl
theorem inv8_mul : ∀ a : Fin 256, a.val ≠ 0 → mulN a.val (inv8 a.val) = 1 := by decide +kernel
theorem inv8_inv : ∀ a : Fin 256, inv8 (inv8 a.val) = a.val := by decide +kernel
theorem inv_mul (a : Fin 256) (h : a.val ≠ 0) : mulN a.val (invN a.val) = 1 := by rw [invN_eq a.2]; exact inv8_mul a h
theorem inv_inv (a : Fin 256) : invN (invN a.val) = a.val := by
  rw [invN_eq (invN_lt a.2), invN_eq a.2]; exact inv8_inv a
theorem mulN_ne {a b : Nat} (ha : a < 256) (hb : b < 256) (h : mulN a b = 0) : a = 0 ∨ b = 0 := by
  by_cases h0 : a = 0
  · exact .inl h0
  · right
    have h1 := inv_mul ⟨a, ha⟩ h0
    have h2 : mulN (invN a) (mulN a b) = b := by
      rw [← mulN_assoc _ _ _ (invN_lt ha) ha hb, mulN_comm _ a (invN_lt ha) ha, h1, mulN_comm 1 b (by omega) hb, mulN_one b hb]
    rw [h, mulN_zero] at h2
    exact h2.symm
end Go.Proofs.Ytbdggonpjndpiaa
