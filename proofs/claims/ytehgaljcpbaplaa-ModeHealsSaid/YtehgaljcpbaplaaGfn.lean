
/-! Bytes as a field of 256 numbers, in plain Lean. -/
namespace Go.Gfn
/-! ### bytes as natural numbers -/
def xtN (a : Nat) : Nat := (a * 2 % 256) ^^^ (a / 128 * 27)
def mulB : Nat → Nat → Nat → Nat
  | 0, _, _ => 0
  | n + 1, a, b => (if b % 2 = 1 then a else 0) ^^^ mulB n (xtN a) (b / 2)
def mulN (a b : Nat) : Nat := mulB 8 a b

theorem xor_lt {a b : Nat} (ha : a < 256) (hb : b < 256) : a ^^^ b < 256 := Nat.xor_lt_two_pow (n := 8) ha hb
theorem xtN_lt {a : Nat} (ha : a < 256) : xtN a < 256 := xor_lt (Nat.mod_lt _ (by omega)) (by omega)
theorem mulB_zero (n a : Nat) : mulB n a 0 = 0 := by
  induction n generalizing a with
  | zero => rfl
  | succ n ih => simp [mulB, ih]
theorem mulB_more : ∀ (m n a b : Nat), b < 2 ^ m → m ≤ n → mulB n a b = mulB m a b := by
  intro m
  induction m with
  | zero => intro n a b hb _; have : b = 0 := by omega
            subst this; simp [mulB_zero]
  | succ m ih =>
    intro n a b hb hn
    obtain ⟨n, rfl⟩ : ∃ k, n = k + 1 := ⟨n - 1, by omega⟩
    simp only [mulB]
    rw [ih n (xtN a) (b / 2) (by rw [Nat.pow_succ] at hb; omega) (by omega)]
theorem mulB_lt : ∀ (n a b : Nat), a < 256 → mulB n a b < 256 := by
  intro n
  induction n with
  | zero => intro a b _; simp [mulB]
  | succ n ih => intro a b ha; simp only [mulB]; exact xor_lt (by split <;> omega) (ih _ _ (xtN_lt ha))
theorem mulN_lt {a b : Nat} (ha : a < 256) : mulN a b < 256 := mulB_lt 8 a b ha
/-! linear, both ways -/
theorem xor_div2 (b c : Nat) : (b ^^^ c) / 2 = (b / 2) ^^^ (c / 2) := by
  have := Nat.shiftRight_xor_distrib (a := b) (b := c) (i := 1)
  simpa [Nat.shiftRight_eq_div_pow] using this
theorem xor_mod2 (b c : Nat) : (b ^^^ c) % 2 = (b % 2 + c % 2) % 2 := by
  have h := Nat.xor_mod_two_pow (a := b) (b := c) (n := 1)
  simp only [Nat.pow_one] at h
  rw [h]
  rcases Nat.mod_two_eq_zero_or_one b with h1 | h1 <;> rcases Nat.mod_two_eq_zero_or_one c with h2 | h2 <;> rw [h1, h2] <;> decide
theorem mulB_add_right : ∀ (n a b c : Nat), mulB n a (b ^^^ c) = mulB n a b ^^^ mulB n a c := by
  intro n
  induction n with
  | zero => intro a b c; simp [mulB]
  | succ n ih =>
    intro a b c
    simp only [mulB, xor_div2, ih, xor_mod2]
    have e : (if (b % 2 + c % 2) % 2 = 1 then a else 0) = (if b % 2 = 1 then a else 0) ^^^ (if c % 2 = 1 then a else 0) := by
      rcases Nat.mod_two_eq_zero_or_one b with h1 | h1 <;> rcases Nat.mod_two_eq_zero_or_one c with h2 | h2 <;> simp [h1, h2]
    rw [e]
    generalize (if b % 2 = 1 then a else 0) = p
    generalize (if c % 2 = 1 then a else 0) = q
    generalize mulB n (xtN a) (b / 2) = r
    generalize mulB n (xtN a) (c / 2) = s
    rw [Nat.xor_assoc, Nat.xor_assoc, ← Nat.xor_assoc q r s, Nat.xor_comm q r, Nat.xor_assoc r q s]
theorem xtN_add (a c : Nat) (ha : a < 256) (hc : c < 256) : xtN (a ^^^ c) = xtN a ^^^ xtN c := by
  have h1 : (a ^^^ c) * 2 % 256 = (a * 2 % 256) ^^^ (c * 2 % 256) := by
    have e1 := Nat.shiftLeft_xor_distrib (a := a) (b := c) (i := 1)
    simp only [Nat.shiftLeft_eq, Nat.pow_one] at e1
    rw [e1]
    exact Nat.xor_mod_two_pow (a := a * 2) (b := c * 2) (n := 8)
  have h2 : (a ^^^ c) / 128 = (a / 128) ^^^ (c / 128) := by
    have := Nat.shiftRight_xor_distrib (a := a) (b := c) (i := 7)
    simpa [Nat.shiftRight_eq_div_pow] using this
  have h3 : (a ^^^ c) / 128 * 27 = (a / 128 * 27) ^^^ (c / 128 * 27) := by
    rw [h2]
    have ka : a / 128 = 0 ∨ a / 128 = 1 := by omega
    have kc : c / 128 = 0 ∨ c / 128 = 1 := by omega
    rcases ka with ka | ka <;> rcases kc with kc | kc <;> rw [ka, kc] <;> decide
  unfold xtN
  rw [h1, h3]
  generalize a * 2 % 256 = p
  generalize c * 2 % 256 = q
  generalize a / 128 * 27 = r
  generalize c / 128 * 27 = s
  rw [Nat.xor_assoc, Nat.xor_assoc, ← Nat.xor_assoc q r s, Nat.xor_comm q r, Nat.xor_assoc r q s]
theorem mulB_add_left : ∀ (n a c b : Nat), a < 256 → c < 256 → mulB n (a ^^^ c) b = mulB n a b ^^^ mulB n c b := by
  intro n
  induction n with
  | zero => intro a c b _ _; simp [mulB]
  | succ n ih =>
    intro a c b ha hc
    simp only [mulB, xtN_add a c ha hc, ih _ _ _ (xtN_lt ha) (xtN_lt hc)]
    have e : (if b % 2 = 1 then a ^^^ c else 0) = (if b % 2 = 1 then a else 0) ^^^ (if b % 2 = 1 then c else 0) := by split <;> simp
    rw [e]
    generalize (if b % 2 = 1 then a else 0) = p
    generalize (if b % 2 = 1 then c else 0) = q
    generalize mulB n (xtN a) (b / 2) = r
    generalize mulB n (xtN c) (b / 2) = s
    rw [Nat.xor_assoc, Nat.xor_assoc, ← Nat.xor_assoc q r s, Nat.xor_comm q r, Nat.xor_assoc r q s]
theorem mulN_add (a b c : Nat) : mulN a (b ^^^ c) = mulN a b ^^^ mulN a c := mulB_add_right 8 a b c
theorem mulN_add' {a c : Nat} (b : Nat) (ha : a < 256) (hc : c < 256) : mulN (a ^^^ c) b = mulN a b ^^^ mulN c b := mulB_add_left 8 a c b ha hc

/-- what is linear is known by the powers of 2 -/
theorem top_bit : ∀ a : Fin 256, a.val ≠ 0 → (2 ^ a.val.log2) ^^^ (a.val - 2 ^ a.val.log2) = a.val ∧ a.val.log2 < 8 ∧ 2 ^ a.val.log2 ≤ a.val := by decide +kernel
theorem lin_ext {f g : Nat → Nat} (hf : ∀ a c, a < 256 → c < 256 → f (a ^^^ c) = f a ^^^ f c) (hg : ∀ a c, a < 256 → c < 256 → g (a ^^^ c) = g a ^^^ g c) (hb : ∀ i, i < 8 → f (2 ^ i) = g (2 ^ i)) : ∀ a, a < 256 → f a = g a := by
  intro a
  induction a using Nat.strongRecOn with
  | _ a ih =>
    intro ha
    by_cases h0 : a = 0
    · subst h0
      have h1 := hf 0 0 (by omega) (by omega)
      have h2 := hg 0 0 (by omega) (by omega)
      simp at h1 h2
      rw [h1, h2]
    · obtain ⟨h1, h2, h3⟩ := top_bit ⟨a, ha⟩ h0
      simp only at h1 h2 h3
      have hp : 2 ^ a.log2 < 256 := by omega
      have hpos : 0 < 2 ^ a.log2 := Nat.two_pow_pos _
      rw [← h1, hf _ _ hp (by omega), hg _ _ hp (by omega), hb _ h2, ih _ (by omega) (by omega)]

theorem mulN_comm (a b : Nat) (ha : a < 256) (hb : b < 256) : mulN a b = mulN b a := by
  refine lin_ext (f := fun a => mulN a b) (g := fun a => mulN b a) (fun a c ha hc => mulN_add' b ha hc) (fun a c _ _ => mulN_add b a c) (fun i hi => ?_) a ha
  refine lin_ext (f := fun b => mulN (2 ^ i) b) (g := fun b => mulN b (2 ^ i)) (fun a c _ _ => mulN_add _ a c) (fun a c ha hc => mulN_add' _ ha hc) (fun j hj => ?_) b hb
  have h : ∀ i : Fin 8, ∀ j : Fin 8, mulN (2 ^ i.val) (2 ^ j.val) = mulN (2 ^ j.val) (2 ^ i.val) := by decide +kernel
  exact h ⟨i, hi⟩ ⟨j, hj⟩
theorem pow_lt8 {i : Nat} (hi : i < 8) : 2 ^ i < 256 := by
  have h : ∀ i : Fin 8, 2 ^ i.val < 256 := by decide
  exact h ⟨i, hi⟩
theorem mulN_assoc (a b c : Nat) (ha : a < 256) (hb : b < 256) (hc : c < 256) : mulN (mulN a b) c = mulN a (mulN b c) := by
  refine lin_ext (f := fun c => mulN (mulN a b) c) (g := fun c => mulN a (mulN b c)) (fun x y _ _ => mulN_add _ x y) (fun x y _ _ => by simp only [mulN_add]) (fun k hk => ?_) c hc
  refine lin_ext (f := fun b => mulN (mulN a b) (2 ^ k)) (g := fun b => mulN a (mulN b (2 ^ k))) (fun x y hx hy => by simp only [mulN_add, mulN_add' (2 ^ k) (mulN_lt (b := x) ha) (mulN_lt (b := y) ha)]) (fun x y hx hy => by simp only [mulN_add' (2 ^ k) hx hy, mulN_add]) (fun j hj => ?_) b hb
  refine lin_ext (f := fun a => mulN (mulN a (2 ^ j)) (2 ^ k)) (g := fun a => mulN a (mulN (2 ^ j) (2 ^ k))) (fun x y hx hy => by simp only [mulN_add' (2 ^ j) hx hy, mulN_add' (2 ^ k) (mulN_lt (b := 2 ^ j) hx) (mulN_lt (b := 2 ^ j) hy)]) (fun x y hx hy => mulN_add' _ hx hy) (fun i hi => ?_) a ha
  have h : ∀ i : Fin 8, ∀ j : Fin 8, ∀ k : Fin 8, mulN (mulN (2 ^ i.val) (2 ^ j.val)) (2 ^ k.val) = mulN (2 ^ i.val) (mulN (2 ^ j.val) (2 ^ k.val)) := by decide +kernel
  exact h ⟨i, hi⟩ ⟨j, hj⟩ ⟨k, hk⟩
theorem mulN_one (a : Nat) (ha : a < 256) : mulN a 1 = a := by
  have h : ∀ a : Fin 256, mulN a.val 1 = a.val := by decide +kernel
  exact h ⟨a, ha⟩
theorem mulN_zero (a : Nat) : mulN a 0 = 0 := mulB_zero 8 a

/-! powers -/
def npow (a : Nat) : Nat → Nat
  | 0 => 1
  | n + 1 => mulN (npow a n) a
theorem npow_lt {a : Nat} (ha : a < 256) : ∀ n, npow a n < 256 := by
  intro n; cases n with
  | zero => simp [npow]
  | succ n => exact mulN_lt (npow_lt ha n)
theorem npow_add {a : Nat} (ha : a < 256) (m n : Nat) : npow a (m + n) = mulN (npow a m) (npow a n) := by
  induction n with
  | zero => rw [Nat.add_zero, npow, mulN_one _ (npow_lt ha m)]
  | succ n ih => rw [← Nat.add_assoc, npow, npow, ih, mulN_assoc _ _ _ (npow_lt ha m) (npow_lt ha n) ha]
theorem npow_sq {a : Nat} (ha : a < 256) (n : Nat) : npow (mulN a a) n = npow a (2 * n) := by
  induction n with
  | zero => rfl
  | succ n ih =>
    rw [npow, ih, show 2 * (n + 1) = 2 * n + 1 + 1 from by omega, npow, npow, mulN_assoc _ _ _ (npow_lt ha _) ha ha]
def invN (a : Nat) : Nat := npow a 254
theorem invN_lt {a : Nat} (ha : a < 256) : invN a < 256 := npow_lt ha _
def sq (a : Nat) : Nat := mulN a a
theorem sq_lt {a : Nat} (ha : a < 256) : sq a < 256 := mulN_lt ha
/-- a to the 254, by squares -/
def inv8 (a : Nat) : Nat :=
  let b := sq a
  let c := sq b
  let d := sq c
  let e := sq d
  let f := sq e
  let g := sq f
  let h := sq g
  mulN b (mulN c (mulN d (mulN e (mulN f (mulN g h)))))
theorem npow_one {a : Nat} (ha : a < 256) : npow a 1 = a := by
  show mulN 1 a = a
  rw [mulN_comm _ _ (by omega) ha, mulN_one a ha]
theorem npow_two {a : Nat} (ha : a < 256) : npow a 2 = sq a := by
  show mulN (npow a 1) a = _
  rw [npow_one ha]; rfl
theorem npow_half {a : Nat} (ha : a < 256) (n : Nat) : npow a (2 * n) = npow (sq a) n := (npow_sq ha n).symm
theorem npow_dbl {a : Nat} (ha : a < 256) : ∀ k x, npow a k = x → npow a (2 * k) = sq x := by
  rintro k x rfl
  rw [show 2 * k = k + k from by omega, npow_add ha]; rfl
theorem invN_eq {a : Nat} (ha : a < 256) : invN a = inv8 a := by
  have h1 := npow_two ha
  have h2 := npow_dbl ha 2 _ h1
  have h3 := npow_dbl ha 4 _ h2
  have h4 := npow_dbl ha 8 _ h3
  have h5 := npow_dbl ha 16 _ h4
  have h6 := npow_dbl ha 32 _ h5
  have h7 := npow_dbl ha 64 _ h6
  show npow a (2 + (4 + (8 + (16 + (32 + (64 + 128)))))) = _
  rw [npow_add ha, npow_add ha, npow_add ha, npow_add ha, npow_add ha, npow_add ha, h1, h2, h3, h4, h5, h6, h7]
  rfl
theorem inv8_mul : ∀ a : Fin 256, a.val ≠ 0 → mulN a.val (inv8 a.val) = 1 := by decide +kernel
theorem inv8_inv : ∀ a : Fin 256, inv8 (inv8 a.val) = a.val := by decide +kernel
theorem inv_mul (a : Fin 256) (h : a.val ≠ 0) : mulN a.val (invN a.val) = 1 := by rw [invN_eq a.2]; exact inv8_mul a h
theorem inv_inv (a : Fin 256) : invN (invN a.val) = a.val := by
  rw [invN_eq (invN_lt a.2), invN_eq a.2]; exact inv8_inv a
theorem mulN_ne {a b : Nat} (ha : a < 256) (hb : b < 256) (h : mulN a b = 0) : a = 0 ∨ b = 0 := by
  by_cases h0 : a = 0
  · exact .inl h0
  · right
    have h1 := inv_mul ⟨a, ha⟩ h0
    have h2 : mulN (invN a) (mulN a b) = b := by
      rw [← mulN_assoc _ _ _ (invN_lt ha) ha hb, mulN_comm _ a (invN_lt ha) ha, h1, mulN_comm 1 b (by omega) hb, mulN_one b hb]
    rw [h, mulN_zero] at h2
    exact h2.symm
theorem xor_self_mid (p q r : Nat) : (p ^^^ q) ^^^ (q ^^^ r) = p ^^^ r := by
  rw [Nat.xor_assoc, ← Nat.xor_assoc q q r, Nat.xor_self, Nat.zero_xor]
theorem sq_add {a b : Nat} (ha : a < 256) (hb : b < 256) : sq (a ^^^ b) = sq a ^^^ sq b := by
  unfold sq
  rw [mulN_add, mulN_add' a ha hb, mulN_add' b ha hb, mulN_comm b a hb ha, xor_self_mid]
def rotN (a n : Nat) : Nat := (a * 2 ^ n % 256) ||| (a / 2 ^ (8 - n))
theorem rotN_lt {a : Nat} (ha : a < 256) (n : Nat) : rotN a n < 256 := Nat.or_lt_two_pow (n := 8) (Nat.mod_lt _ (by omega)) (Nat.lt_of_le_of_lt (Nat.div_le_self _ _) ha)
def subN (a : Nat) : Nat := let i := inv8 a; 99 ^^^ i ^^^ rotN i 1 ^^^ rotN i 2 ^^^ rotN i 3 ^^^ rotN i 4
def unsubN (a : Nat) : Nat := let c := a ^^^ 99; inv8 (rotN c 1 ^^^ rotN c 3 ^^^ rotN c 6)
theorem subN_lt {a : Nat} (ha : a < 256) : subN a < 256 := by
  have hi : inv8 a < 256 := by rw [← invN_eq ha]; exact invN_lt ha
  exact xor_lt (xor_lt (xor_lt (xor_lt (xor_lt (by omega) hi) (rotN_lt hi 1)) (rotN_lt hi 2)) (rotN_lt hi 3)) (rotN_lt hi 4)
theorem unsubN_lt {a : Nat} (ha : a < 256) : unsubN a < 256 := by
  have hc := xor_lt ha (by omega : 99 < 256)
  have l := xor_lt (xor_lt (rotN_lt hc 1) (rotN_lt hc 3)) (rotN_lt hc 6)
  unfold unsubN
  simp only
  rw [← invN_eq l]; exact invN_lt l
theorem unsub_sub : ∀ a : Fin 256, unsubN (subN a.val) = a.val := by decide +kernel
theorem sub_unsub : ∀ a : Fin 256, subN (unsubN a.val) = a.val := by decide +kernel

/-! ## Bytes -/
def gm (a b : BitVec 8) : BitVec 8 := BitVec.ofNat 8 (mulN a.toNat b.toNat)
theorem gm_nat (a b : BitVec 8) : (gm a b).toNat = mulN a.toNat b.toNat := by
  unfold gm
  rw [BitVec.toNat_ofNat]
  exact Nat.mod_eq_of_lt (mulN_lt a.isLt)
theorem gm_add (a b c : BitVec 8) : gm a (b ^^^ c) = gm a b ^^^ gm a c := BitVec.eq_of_toNat_eq (by rw [gm_nat, BitVec.toNat_xor, BitVec.toNat_xor, gm_nat, gm_nat, mulN_add])
theorem gm_add' (a b c : BitVec 8) : gm (a ^^^ b) c = gm a c ^^^ gm b c := BitVec.eq_of_toNat_eq (by rw [gm_nat, BitVec.toNat_xor, BitVec.toNat_xor, gm_nat, gm_nat, mulN_add' _ a.isLt b.isLt])
theorem gm_comm (a b : BitVec 8) : gm a b = gm b a := BitVec.eq_of_toNat_eq (by rw [gm_nat, gm_nat, mulN_comm _ _ a.isLt b.isLt])
theorem gm_assoc (a b c : BitVec 8) : gm (gm a b) c = gm a (gm b c) := BitVec.eq_of_toNat_eq (by rw [gm_nat, gm_nat, gm_nat, gm_nat, mulN_assoc _ _ _ a.isLt b.isLt c.isLt])
theorem gm_zero (a : BitVec 8) : gm a 0#8 = 0#8 := BitVec.eq_of_toNat_eq (by rw [gm_nat]; exact mulN_zero _)
theorem gm_ne {a b : BitVec 8} (h : gm a b = 0#8) : a = 0#8 ∨ b = 0#8 := by
  have := congrArg BitVec.toNat h
  rw [gm_nat] at this
  rcases mulN_ne a.isLt b.isLt this with c | c
  · exact .inl (BitVec.eq_of_toNat_eq c)
  · exact .inr (BitVec.eq_of_toNat_eq c)
def ginv (a : BitVec 8) : BitVec 8 := BitVec.ofNat 8 (inv8 a.toNat)
def gsub (a : BitVec 8) : BitVec 8 := BitVec.ofNat 8 (subN a.toNat)
def gunsub (a : BitVec 8) : BitVec 8 := BitVec.ofNat 8 (unsubN a.toNat)
theorem gunsub_gsub (a : BitVec 8) : gunsub (gsub a) = a := BitVec.eq_of_toNat_eq (by
  unfold gunsub gsub
  rw [BitVec.toNat_ofNat, BitVec.toNat_ofNat, Nat.mod_eq_of_lt (subN_lt a.isLt), Nat.mod_eq_of_lt (unsubN_lt (subN_lt a.isLt))]
  exact unsub_sub ⟨a.toNat, a.isLt⟩)
theorem gsub_gunsub (a : BitVec 8) : gsub (gunsub a) = a := BitVec.eq_of_toNat_eq (by
  unfold gunsub gsub
  rw [BitVec.toNat_ofNat, BitVec.toNat_ofNat, Nat.mod_eq_of_lt (unsubN_lt a.isLt), Nat.mod_eq_of_lt (subN_lt (unsubN_lt a.isLt))]
  exact sub_unsub ⟨a.toNat, a.isLt⟩)
/-! ## Columns -/
def dot (k l m n a b c d : BitVec 8) : BitVec 8 := gm k a ^^^ gm l b ^^^ gm m c ^^^ gm n d
def col (k l m n : BitVec 8) (x : BitVec 8 × BitVec 8 × BitVec 8 × BitVec 8) : BitVec 8 × BitVec 8 × BitVec 8 × BitVec 8 :=
  (dot k l m n x.1 x.2.1 x.2.2.1 x.2.2.2, dot k l m n x.2.1 x.2.2.1 x.2.2.2 x.1, dot k l m n x.2.2.1 x.2.2.2 x.1 x.2.1, dot k l m n x.2.2.2 x.1 x.2.1 x.2.2.1)
def mix := col 2 3 1 1
def unmix := col 14 11 13 9
theorem dot_add (k l m n a b c d a' b' c' d' : BitVec 8) : dot k l m n (a ^^^ a') (b ^^^ b') (c ^^^ c') (d ^^^ d') = dot k l m n a b c d ^^^ dot k l m n a' b' c' d' := by
  unfold dot
  simp only [gm_add]
  ac_rfl
/-- four of four: what becomes of each place -/
theorem dot_dot (k l m n k' l' m' n' a b c d A B C D : BitVec 8)
    (ha : gm k' (gm k a) ^^^ (gm l' (gm n a) ^^^ (gm m' (gm m a) ^^^ gm n' (gm l a))) = A)
    (hb : gm k' (gm l b) ^^^ (gm l' (gm k b) ^^^ (gm m' (gm n b) ^^^ gm n' (gm m b))) = B)
    (hc : gm k' (gm m c) ^^^ (gm l' (gm l c) ^^^ (gm m' (gm k c) ^^^ gm n' (gm n c))) = C)
    (hd : gm k' (gm n d) ^^^ (gm l' (gm m d) ^^^ (gm m' (gm l d) ^^^ gm n' (gm k d))) = D) :
    dot k' l' m' n' (dot k l m n a b c d) (dot k l m n b c d a) (dot k l m n c d a b) (dot k l m n d a b c) = A ^^^ (B ^^^ (C ^^^ D)) := by
  rw [← ha, ← hb, ← hc, ← hd]
  unfold dot
  simp only [gm_add]
  ac_rfl
theorem um0 : ∀ a : BitVec 8, gm 14 (gm 2 a) ^^^ (gm 11 (gm 1 a) ^^^ (gm 13 (gm 1 a) ^^^ gm 9 (gm 3 a))) = a := by decide +kernel
theorem um1 : ∀ a : BitVec 8, gm 14 (gm 3 a) ^^^ (gm 11 (gm 2 a) ^^^ (gm 13 (gm 1 a) ^^^ gm 9 (gm 1 a))) = 0#8 := by decide +kernel
theorem um2 : ∀ a : BitVec 8, gm 14 (gm 1 a) ^^^ (gm 11 (gm 3 a) ^^^ (gm 13 (gm 2 a) ^^^ gm 9 (gm 1 a))) = 0#8 := by decide +kernel
theorem um3 : ∀ a : BitVec 8, gm 14 (gm 1 a) ^^^ (gm 11 (gm 1 a) ^^^ (gm 13 (gm 3 a) ^^^ gm 9 (gm 2 a))) = 0#8 := by decide +kernel
theorem mu0 : ∀ a : BitVec 8, gm 2 (gm 14 a) ^^^ (gm 3 (gm 9 a) ^^^ (gm 1 (gm 13 a) ^^^ gm 1 (gm 11 a))) = a := by decide +kernel
theorem mu1 : ∀ a : BitVec 8, gm 2 (gm 11 a) ^^^ (gm 3 (gm 14 a) ^^^ (gm 1 (gm 9 a) ^^^ gm 1 (gm 13 a))) = 0#8 := by decide +kernel
theorem mu2 : ∀ a : BitVec 8, gm 2 (gm 13 a) ^^^ (gm 3 (gm 11 a) ^^^ (gm 1 (gm 14 a) ^^^ gm 1 (gm 9 a))) = 0#8 := by decide +kernel
theorem mu3 : ∀ a : BitVec 8, gm 2 (gm 9 a) ^^^ (gm 3 (gm 13 a) ^^^ (gm 1 (gm 11 a) ^^^ gm 1 (gm 14 a))) = 0#8 := by decide +kernel
theorem mm0 : ∀ a : BitVec 8, gm 2 (gm 2 a) ^^^ (gm 3 (gm 1 a) ^^^ (gm 1 (gm 1 a) ^^^ gm 1 (gm 3 a))) = gm 5 a := by decide +kernel
theorem mm1 : ∀ a : BitVec 8, gm 2 (gm 3 a) ^^^ (gm 3 (gm 2 a) ^^^ (gm 1 (gm 1 a) ^^^ gm 1 (gm 1 a))) = 0#8 := by decide +kernel
theorem mm2 : ∀ a : BitVec 8, gm 2 (gm 1 a) ^^^ (gm 3 (gm 3 a) ^^^ (gm 1 (gm 2 a) ^^^ gm 1 (gm 1 a))) = gm 4 a := by decide +kernel
theorem mm3 : ∀ a : BitVec 8, gm 2 (gm 1 a) ^^^ (gm 3 (gm 1 a) ^^^ (gm 1 (gm 3 a) ^^^ gm 1 (gm 2 a))) = 0#8 := by decide +kernel
theorem m40 : ∀ a : BitVec 8, gm 5 (gm 5 a) ^^^ (gm 0 (gm 0 a) ^^^ (gm 4 (gm 4 a) ^^^ gm 0 (gm 0 a))) = a := by decide +kernel
theorem m41 : ∀ a : BitVec 8, gm 5 (gm 0 a) ^^^ (gm 0 (gm 5 a) ^^^ (gm 4 (gm 0 a) ^^^ gm 0 (gm 4 a))) = 0#8 := by decide +kernel
theorem m42 : ∀ a : BitVec 8, gm 5 (gm 4 a) ^^^ (gm 0 (gm 0 a) ^^^ (gm 4 (gm 5 a) ^^^ gm 0 (gm 0 a))) = 0#8 := by decide +kernel
theorem m43 : ∀ a : BitVec 8, gm 5 (gm 0 a) ^^^ (gm 0 (gm 4 a) ^^^ (gm 4 (gm 0 a) ^^^ gm 0 (gm 5 a))) = 0#8 := by decide +kernel
theorem xor_000 (a : BitVec 8) : a ^^^ (0#8 ^^^ (0#8 ^^^ 0#8)) = a := by simp
theorem four {x y : BitVec 8 × BitVec 8 × BitVec 8 × BitVec 8} (h0 : x.1 = y.1) (h1 : x.2.1 = y.2.1) (h2 : x.2.2.1 = y.2.2.1) (h3 : x.2.2.2 = y.2.2.2) : x = y := Prod.ext h0 (Prod.ext h1 (Prod.ext h2 h3))
theorem unmix_mix (x : BitVec 8 × BitVec 8 × BitVec 8 × BitVec 8) : unmix (mix x) = x := by
  have h : ∀ a b c d, dot 14 11 13 9 (dot 2 3 1 1 a b c d) (dot 2 3 1 1 b c d a) (dot 2 3 1 1 c d a b) (dot 2 3 1 1 d a b c) = a := fun a b c d => (dot_dot _ _ _ _ _ _ _ _ a b c d _ _ _ _ (um0 a) (um1 b) (um2 c) (um3 d)).trans (xor_000 a)
  exact four (h _ _ _ _) (h _ _ _ _) (h _ _ _ _) (h _ _ _ _)
theorem mix_unmix (x : BitVec 8 × BitVec 8 × BitVec 8 × BitVec 8) : mix (unmix x) = x := by
  have h : ∀ a b c d, dot 2 3 1 1 (dot 14 11 13 9 a b c d) (dot 14 11 13 9 b c d a) (dot 14 11 13 9 c d a b) (dot 14 11 13 9 d a b c) = a := fun a b c d => (dot_dot _ _ _ _ _ _ _ _ a b c d _ _ _ _ (mu0 a) (mu1 b) (mu2 c) (mu3 d)).trans (xor_000 a)
  exact four (h _ _ _ _) (h _ _ _ _) (h _ _ _ _) (h _ _ _ _)
theorem mix_two (x : BitVec 8 × BitVec 8 × BitVec 8 × BitVec 8) : mix (mix x) = col 5 0 4 0 x := by
  have h : ∀ a b c d, dot 2 3 1 1 (dot 2 3 1 1 a b c d) (dot 2 3 1 1 b c d a) (dot 2 3 1 1 c d a b) (dot 2 3 1 1 d a b c) = dot 5 0 4 0 a b c d := fun a b c d => (dot_dot _ _ _ _ _ _ _ _ a b c d _ _ _ _ (mm0 a) (mm1 b) (mm2 c) (mm3 d)).trans (by
    have z : ∀ x, gm 0 x = 0#8 := fun x => by rw [gm_comm]; exact gm_zero x
    unfold dot; rw [z, z]; simp)
  exact four (h _ _ _ _) (h _ _ _ _) (h _ _ _ _) (h _ _ _ _)
theorem mix_four (x : BitVec 8 × BitVec 8 × BitVec 8 × BitVec 8) : mix (mix (mix (mix x))) = x := by
  rw [mix_two, mix_two]
  have h : ∀ a b c d, dot 5 0 4 0 (dot 5 0 4 0 a b c d) (dot 5 0 4 0 b c d a) (dot 5 0 4 0 c d a b) (dot 5 0 4 0 d a b c) = a := fun a b c d => (dot_dot _ _ _ _ _ _ _ _ a b c d _ _ _ _ (m40 a) (m41 b) (m42 c) (m43 d)).trans (xor_000 a)
  exact four (h _ _ _ _) (h _ _ _ _) (h _ _ _ _) (h _ _ _ _)
/-! ## At least five -/
def nz (a : BitVec 8) : Nat := bif decide (a = 0#8) then 0 else 1
theorem one_ne {k a : BitVec 8} (hk : k ≠ 0#8) (h : a ≠ 0#8) : gm k a ≠ 0#8 := fun e => (gm_ne e).elim hk h
theorem xor_eq {a b : BitVec 8} (h : a ^^^ b = 0#8) : a = b := by
  have : a ^^^ b ^^^ b = 0#8 ^^^ b := by rw [h]
  rw [BitVec.xor_assoc, BitVec.xor_self, BitVec.xor_zero, BitVec.zero_xor] at this
  exact this
/-- two noughts of two: only noughts -/
theorem two_two {k l m n a b : BitVec 8} (hd : gm n k ^^^ gm l m ≠ 0#8) (h1 : gm k a ^^^ gm l b = 0#8) (h2 : gm m a ^^^ gm n b = 0#8) : a = 0#8 := by
  have e1 := xor_eq h1
  have e2 := xor_eq h2
  have e3 : gm n (gm k a) = gm l (gm m a) := by
    rw [e1, e2, ← gm_assoc, ← gm_assoc, gm_comm n l]
  have e4 : gm (gm n k ^^^ gm l m) a = 0#8 := by
    rw [gm_add', gm_assoc, gm_assoc, e3, BitVec.xor_self]
  exact (gm_ne e4).resolve_left hd
theorem z_l (a : BitVec 8) : 0#8 ^^^ a = a := BitVec.zero_xor
theorem z_r (a : BitVec 8) : a ^^^ 0#8 = a := BitVec.xor_zero
theorem w1_00 {a : BitVec 8} (h : a ≠ 0#8) : dot 2 3 1 1 a 0#8 0#8 0#8 ≠ 0#8 := by
  unfold dot; simp only [gm_zero, z_r]; exact one_ne (by decide) h
theorem v1_00 {a : BitVec 8} (h : a ≠ 0#8) : dot 14 11 13 9 a 0#8 0#8 0#8 ≠ 0#8 := by
  unfold dot; simp only [gm_zero, z_r]; exact one_ne (by decide) h
theorem w1_01 {a : BitVec 8} (h : a ≠ 0#8) : dot 2 3 1 1 0#8 0#8 0#8 a ≠ 0#8 := by
  unfold dot; simp only [gm_zero, z_l, z_r]; exact one_ne (by decide) h
theorem v1_01 {a : BitVec 8} (h : a ≠ 0#8) : dot 14 11 13 9 0#8 0#8 0#8 a ≠ 0#8 := by
  unfold dot; simp only [gm_zero, z_l, z_r]; exact one_ne (by decide) h
theorem w1_02 {a : BitVec 8} (h : a ≠ 0#8) : dot 2 3 1 1 0#8 0#8 a 0#8 ≠ 0#8 := by
  unfold dot; simp only [gm_zero, z_l, z_r]; exact one_ne (by decide) h
theorem v1_02 {a : BitVec 8} (h : a ≠ 0#8) : dot 14 11 13 9 0#8 0#8 a 0#8 ≠ 0#8 := by
  unfold dot; simp only [gm_zero, z_l, z_r]; exact one_ne (by decide) h
theorem w1_03 {a : BitVec 8} (h : a ≠ 0#8) : dot 2 3 1 1 0#8 a 0#8 0#8 ≠ 0#8 := by
  unfold dot; simp only [gm_zero, z_l, z_r]; exact one_ne (by decide) h
theorem v1_03 {a : BitVec 8} (h : a ≠ 0#8) : dot 14 11 13 9 0#8 a 0#8 0#8 ≠ 0#8 := by
  unfold dot; simp only [gm_zero, z_l, z_r]; exact one_ne (by decide) h
theorem w1_10 {a : BitVec 8} (h : a ≠ 0#8) : dot 2 3 1 1 0#8 a 0#8 0#8 ≠ 0#8 := by
  unfold dot; simp only [gm_zero, z_l, z_r]; exact one_ne (by decide) h
theorem v1_10 {a : BitVec 8} (h : a ≠ 0#8) : dot 14 11 13 9 0#8 a 0#8 0#8 ≠ 0#8 := by
  unfold dot; simp only [gm_zero, z_l, z_r]; exact one_ne (by decide) h
theorem w1_11 {a : BitVec 8} (h : a ≠ 0#8) : dot 2 3 1 1 a 0#8 0#8 0#8 ≠ 0#8 := by
  unfold dot; simp only [gm_zero, z_r]; exact one_ne (by decide) h
theorem v1_11 {a : BitVec 8} (h : a ≠ 0#8) : dot 14 11 13 9 a 0#8 0#8 0#8 ≠ 0#8 := by
  unfold dot; simp only [gm_zero, z_r]; exact one_ne (by decide) h
theorem w1_12 {a : BitVec 8} (h : a ≠ 0#8) : dot 2 3 1 1 0#8 0#8 0#8 a ≠ 0#8 := by
  unfold dot; simp only [gm_zero, z_l, z_r]; exact one_ne (by decide) h
theorem v1_12 {a : BitVec 8} (h : a ≠ 0#8) : dot 14 11 13 9 0#8 0#8 0#8 a ≠ 0#8 := by
  unfold dot; simp only [gm_zero, z_l, z_r]; exact one_ne (by decide) h
theorem w1_13 {a : BitVec 8} (h : a ≠ 0#8) : dot 2 3 1 1 0#8 0#8 a 0#8 ≠ 0#8 := by
  unfold dot; simp only [gm_zero, z_l, z_r]; exact one_ne (by decide) h
theorem v1_13 {a : BitVec 8} (h : a ≠ 0#8) : dot 14 11 13 9 0#8 0#8 a 0#8 ≠ 0#8 := by
  unfold dot; simp only [gm_zero, z_l, z_r]; exact one_ne (by decide) h
theorem w1_20 {a : BitVec 8} (h : a ≠ 0#8) : dot 2 3 1 1 0#8 0#8 a 0#8 ≠ 0#8 := by
  unfold dot; simp only [gm_zero, z_l, z_r]; exact one_ne (by decide) h
theorem v1_20 {a : BitVec 8} (h : a ≠ 0#8) : dot 14 11 13 9 0#8 0#8 a 0#8 ≠ 0#8 := by
  unfold dot; simp only [gm_zero, z_l, z_r]; exact one_ne (by decide) h
theorem w1_21 {a : BitVec 8} (h : a ≠ 0#8) : dot 2 3 1 1 0#8 a 0#8 0#8 ≠ 0#8 := by
  unfold dot; simp only [gm_zero, z_l, z_r]; exact one_ne (by decide) h
theorem v1_21 {a : BitVec 8} (h : a ≠ 0#8) : dot 14 11 13 9 0#8 a 0#8 0#8 ≠ 0#8 := by
  unfold dot; simp only [gm_zero, z_l, z_r]; exact one_ne (by decide) h
theorem w1_22 {a : BitVec 8} (h : a ≠ 0#8) : dot 2 3 1 1 a 0#8 0#8 0#8 ≠ 0#8 := by
  unfold dot; simp only [gm_zero, z_r]; exact one_ne (by decide) h
theorem v1_22 {a : BitVec 8} (h : a ≠ 0#8) : dot 14 11 13 9 a 0#8 0#8 0#8 ≠ 0#8 := by
  unfold dot; simp only [gm_zero, z_r]; exact one_ne (by decide) h
theorem w1_23 {a : BitVec 8} (h : a ≠ 0#8) : dot 2 3 1 1 0#8 0#8 0#8 a ≠ 0#8 := by
  unfold dot; simp only [gm_zero, z_l, z_r]; exact one_ne (by decide) h
theorem v1_23 {a : BitVec 8} (h : a ≠ 0#8) : dot 14 11 13 9 0#8 0#8 0#8 a ≠ 0#8 := by
  unfold dot; simp only [gm_zero, z_l, z_r]; exact one_ne (by decide) h
theorem w1_30 {a : BitVec 8} (h : a ≠ 0#8) : dot 2 3 1 1 0#8 0#8 0#8 a ≠ 0#8 := by
  unfold dot; simp only [gm_zero, z_l, z_r]; exact one_ne (by decide) h
theorem v1_30 {a : BitVec 8} (h : a ≠ 0#8) : dot 14 11 13 9 0#8 0#8 0#8 a ≠ 0#8 := by
  unfold dot; simp only [gm_zero, z_l, z_r]; exact one_ne (by decide) h
theorem w1_31 {a : BitVec 8} (h : a ≠ 0#8) : dot 2 3 1 1 0#8 0#8 a 0#8 ≠ 0#8 := by
  unfold dot; simp only [gm_zero, z_l, z_r]; exact one_ne (by decide) h
theorem v1_31 {a : BitVec 8} (h : a ≠ 0#8) : dot 14 11 13 9 0#8 0#8 a 0#8 ≠ 0#8 := by
  unfold dot; simp only [gm_zero, z_l, z_r]; exact one_ne (by decide) h
theorem w1_32 {a : BitVec 8} (h : a ≠ 0#8) : dot 2 3 1 1 0#8 a 0#8 0#8 ≠ 0#8 := by
  unfold dot; simp only [gm_zero, z_l, z_r]; exact one_ne (by decide) h
theorem v1_32 {a : BitVec 8} (h : a ≠ 0#8) : dot 14 11 13 9 0#8 a 0#8 0#8 ≠ 0#8 := by
  unfold dot; simp only [gm_zero, z_l, z_r]; exact one_ne (by decide) h
theorem w1_33 {a : BitVec 8} (h : a ≠ 0#8) : dot 2 3 1 1 a 0#8 0#8 0#8 ≠ 0#8 := by
  unfold dot; simp only [gm_zero, z_r]; exact one_ne (by decide) h
theorem v1_33 {a : BitVec 8} (h : a ≠ 0#8) : dot 14 11 13 9 a 0#8 0#8 0#8 ≠ 0#8 := by
  unfold dot; simp only [gm_zero, z_r]; exact one_ne (by decide) h
theorem w2_0101 {a b : BitVec 8} (h1 : dot 2 3 1 1 a b 0#8 0#8 = 0#8) (h2 : dot 2 3 1 1 b 0#8 0#8 a = 0#8) : a = 0#8 := by
  unfold dot at h1 h2; simp only [gm_zero, z_r] at h1 h2
  rw [BitVec.xor_comm] at h2
  exact two_two (by decide) h1 h2
theorem w2_0102 {a b : BitVec 8} (h1 : dot 2 3 1 1 a b 0#8 0#8 = 0#8) (h2 : dot 2 3 1 1 0#8 0#8 a b = 0#8) : a = 0#8 := by
  unfold dot at h1 h2; simp only [gm_zero, z_l, z_r] at h1 h2
  exact two_two (by decide) h1 h2
theorem w2_0103 {a b : BitVec 8} (h1 : dot 2 3 1 1 a b 0#8 0#8 = 0#8) (h2 : dot 2 3 1 1 0#8 a b 0#8 = 0#8) : a = 0#8 := by
  unfold dot at h1 h2; simp only [gm_zero, z_l, z_r] at h1 h2
  exact two_two (by decide) h1 h2
theorem w2_0112 {a b : BitVec 8} (h1 : dot 2 3 1 1 b 0#8 0#8 a = 0#8) (h2 : dot 2 3 1 1 0#8 0#8 a b = 0#8) : a = 0#8 := by
  unfold dot at h1 h2; simp only [gm_zero, z_l, z_r] at h1 h2
  rw [BitVec.xor_comm] at h1
  exact two_two (by decide) h1 h2
theorem w2_0113 {a b : BitVec 8} (h1 : dot 2 3 1 1 b 0#8 0#8 a = 0#8) (h2 : dot 2 3 1 1 0#8 a b 0#8 = 0#8) : a = 0#8 := by
  unfold dot at h1 h2; simp only [gm_zero, z_l, z_r] at h1 h2
  rw [BitVec.xor_comm] at h1
  exact two_two (by decide) h1 h2
theorem w2_0123 {a b : BitVec 8} (h1 : dot 2 3 1 1 0#8 0#8 a b = 0#8) (h2 : dot 2 3 1 1 0#8 a b 0#8 = 0#8) : a = 0#8 := by
  unfold dot at h1 h2; simp only [gm_zero, z_l, z_r] at h1 h2
  exact two_two (by decide) h1 h2
theorem w2_0201 {a b : BitVec 8} (h1 : dot 2 3 1 1 a 0#8 b 0#8 = 0#8) (h2 : dot 2 3 1 1 0#8 b 0#8 a = 0#8) : a = 0#8 := by
  unfold dot at h1 h2; simp only [gm_zero, z_l, z_r] at h1 h2
  rw [BitVec.xor_comm] at h2
  exact two_two (by decide) h1 h2
theorem w2_0202 {a b : BitVec 8} (h1 : dot 2 3 1 1 a 0#8 b 0#8 = 0#8) (h2 : dot 2 3 1 1 b 0#8 a 0#8 = 0#8) : a = 0#8 := by
  unfold dot at h1 h2; simp only [gm_zero, z_r] at h1 h2
  rw [BitVec.xor_comm] at h2
  exact two_two (by decide) h1 h2
theorem w2_0203 {a b : BitVec 8} (h1 : dot 2 3 1 1 a 0#8 b 0#8 = 0#8) (h2 : dot 2 3 1 1 0#8 a 0#8 b = 0#8) : a = 0#8 := by
  unfold dot at h1 h2; simp only [gm_zero, z_l, z_r] at h1 h2
  exact two_two (by decide) h1 h2
theorem w2_0212 {a b : BitVec 8} (h1 : dot 2 3 1 1 0#8 b 0#8 a = 0#8) (h2 : dot 2 3 1 1 b 0#8 a 0#8 = 0#8) : a = 0#8 := by
  unfold dot at h1 h2; simp only [gm_zero, z_l, z_r] at h1 h2
  rw [BitVec.xor_comm] at h1
  rw [BitVec.xor_comm] at h2
  exact two_two (by decide) h1 h2
theorem w2_0213 {a b : BitVec 8} (h1 : dot 2 3 1 1 0#8 b 0#8 a = 0#8) (h2 : dot 2 3 1 1 0#8 a 0#8 b = 0#8) : a = 0#8 := by
  unfold dot at h1 h2; simp only [gm_zero, z_l, z_r] at h1 h2
  rw [BitVec.xor_comm] at h1
  exact two_two (by decide) h1 h2
theorem w2_0223 {a b : BitVec 8} (h1 : dot 2 3 1 1 b 0#8 a 0#8 = 0#8) (h2 : dot 2 3 1 1 0#8 a 0#8 b = 0#8) : a = 0#8 := by
  unfold dot at h1 h2; simp only [gm_zero, z_l, z_r] at h1 h2
  rw [BitVec.xor_comm] at h1
  exact two_two (by decide) h1 h2
theorem w2_0301 {a b : BitVec 8} (h1 : dot 2 3 1 1 a 0#8 0#8 b = 0#8) (h2 : dot 2 3 1 1 0#8 0#8 b a = 0#8) : a = 0#8 := by
  unfold dot at h1 h2; simp only [gm_zero, z_l, z_r] at h1 h2
  rw [BitVec.xor_comm] at h2
  exact two_two (by decide) h1 h2
theorem w2_0302 {a b : BitVec 8} (h1 : dot 2 3 1 1 a 0#8 0#8 b = 0#8) (h2 : dot 2 3 1 1 0#8 b a 0#8 = 0#8) : a = 0#8 := by
  unfold dot at h1 h2; simp only [gm_zero, z_l, z_r] at h1 h2
  rw [BitVec.xor_comm] at h2
  exact two_two (by decide) h1 h2
theorem w2_0303 {a b : BitVec 8} (h1 : dot 2 3 1 1 a 0#8 0#8 b = 0#8) (h2 : dot 2 3 1 1 b a 0#8 0#8 = 0#8) : a = 0#8 := by
  unfold dot at h1 h2; simp only [gm_zero, z_r] at h1 h2
  rw [BitVec.xor_comm] at h2
  exact two_two (by decide) h1 h2
theorem w2_0312 {a b : BitVec 8} (h1 : dot 2 3 1 1 0#8 0#8 b a = 0#8) (h2 : dot 2 3 1 1 0#8 b a 0#8 = 0#8) : a = 0#8 := by
  unfold dot at h1 h2; simp only [gm_zero, z_l, z_r] at h1 h2
  rw [BitVec.xor_comm] at h1
  rw [BitVec.xor_comm] at h2
  exact two_two (by decide) h1 h2
theorem w2_0313 {a b : BitVec 8} (h1 : dot 2 3 1 1 0#8 0#8 b a = 0#8) (h2 : dot 2 3 1 1 b a 0#8 0#8 = 0#8) : a = 0#8 := by
  unfold dot at h1 h2; simp only [gm_zero, z_l, z_r] at h1 h2
  rw [BitVec.xor_comm] at h1
  rw [BitVec.xor_comm] at h2
  exact two_two (by decide) h1 h2
theorem w2_0323 {a b : BitVec 8} (h1 : dot 2 3 1 1 0#8 b a 0#8 = 0#8) (h2 : dot 2 3 1 1 b a 0#8 0#8 = 0#8) : a = 0#8 := by
  unfold dot at h1 h2; simp only [gm_zero, z_l, z_r] at h1 h2
  rw [BitVec.xor_comm] at h1
  rw [BitVec.xor_comm] at h2
  exact two_two (by decide) h1 h2
theorem w2_1201 {a b : BitVec 8} (h1 : dot 2 3 1 1 0#8 a b 0#8 = 0#8) (h2 : dot 2 3 1 1 a b 0#8 0#8 = 0#8) : a = 0#8 := by
  unfold dot at h1 h2; simp only [gm_zero, z_l, z_r] at h1 h2
  exact two_two (by decide) h1 h2
theorem w2_1202 {a b : BitVec 8} (h1 : dot 2 3 1 1 0#8 a b 0#8 = 0#8) (h2 : dot 2 3 1 1 b 0#8 0#8 a = 0#8) : a = 0#8 := by
  unfold dot at h1 h2; simp only [gm_zero, z_l, z_r] at h1 h2
  rw [BitVec.xor_comm] at h2
  exact two_two (by decide) h1 h2
theorem w2_1203 {a b : BitVec 8} (h1 : dot 2 3 1 1 0#8 a b 0#8 = 0#8) (h2 : dot 2 3 1 1 0#8 0#8 a b = 0#8) : a = 0#8 := by
  unfold dot at h1 h2; simp only [gm_zero, z_l, z_r] at h1 h2
  exact two_two (by decide) h1 h2
theorem w2_1212 {a b : BitVec 8} (h1 : dot 2 3 1 1 a b 0#8 0#8 = 0#8) (h2 : dot 2 3 1 1 b 0#8 0#8 a = 0#8) : a = 0#8 := by
  unfold dot at h1 h2; simp only [gm_zero, z_r] at h1 h2
  rw [BitVec.xor_comm] at h2
  exact two_two (by decide) h1 h2
theorem w2_1213 {a b : BitVec 8} (h1 : dot 2 3 1 1 a b 0#8 0#8 = 0#8) (h2 : dot 2 3 1 1 0#8 0#8 a b = 0#8) : a = 0#8 := by
  unfold dot at h1 h2; simp only [gm_zero, z_l, z_r] at h1 h2
  exact two_two (by decide) h1 h2
theorem w2_1223 {a b : BitVec 8} (h1 : dot 2 3 1 1 b 0#8 0#8 a = 0#8) (h2 : dot 2 3 1 1 0#8 0#8 a b = 0#8) : a = 0#8 := by
  unfold dot at h1 h2; simp only [gm_zero, z_l, z_r] at h1 h2
  rw [BitVec.xor_comm] at h1
  exact two_two (by decide) h1 h2
theorem w2_1301 {a b : BitVec 8} (h1 : dot 2 3 1 1 0#8 a 0#8 b = 0#8) (h2 : dot 2 3 1 1 a 0#8 b 0#8 = 0#8) : a = 0#8 := by
  unfold dot at h1 h2; simp only [gm_zero, z_l, z_r] at h1 h2
  exact two_two (by decide) h1 h2
theorem w2_1302 {a b : BitVec 8} (h1 : dot 2 3 1 1 0#8 a 0#8 b = 0#8) (h2 : dot 2 3 1 1 0#8 b 0#8 a = 0#8) : a = 0#8 := by
  unfold dot at h1 h2; simp only [gm_zero, z_l, z_r] at h1 h2
  rw [BitVec.xor_comm] at h2
  exact two_two (by decide) h1 h2
theorem w2_1303 {a b : BitVec 8} (h1 : dot 2 3 1 1 0#8 a 0#8 b = 0#8) (h2 : dot 2 3 1 1 b 0#8 a 0#8 = 0#8) : a = 0#8 := by
  unfold dot at h1 h2; simp only [gm_zero, z_l, z_r] at h1 h2
  rw [BitVec.xor_comm] at h2
  exact two_two (by decide) h1 h2
theorem w2_1312 {a b : BitVec 8} (h1 : dot 2 3 1 1 a 0#8 b 0#8 = 0#8) (h2 : dot 2 3 1 1 0#8 b 0#8 a = 0#8) : a = 0#8 := by
  unfold dot at h1 h2; simp only [gm_zero, z_l, z_r] at h1 h2
  rw [BitVec.xor_comm] at h2
  exact two_two (by decide) h1 h2
theorem w2_1313 {a b : BitVec 8} (h1 : dot 2 3 1 1 a 0#8 b 0#8 = 0#8) (h2 : dot 2 3 1 1 b 0#8 a 0#8 = 0#8) : a = 0#8 := by
  unfold dot at h1 h2; simp only [gm_zero, z_r] at h1 h2
  rw [BitVec.xor_comm] at h2
  exact two_two (by decide) h1 h2
theorem w2_1323 {a b : BitVec 8} (h1 : dot 2 3 1 1 0#8 b 0#8 a = 0#8) (h2 : dot 2 3 1 1 b 0#8 a 0#8 = 0#8) : a = 0#8 := by
  unfold dot at h1 h2; simp only [gm_zero, z_l, z_r] at h1 h2
  rw [BitVec.xor_comm] at h1
  rw [BitVec.xor_comm] at h2
  exact two_two (by decide) h1 h2
theorem w2_2301 {a b : BitVec 8} (h1 : dot 2 3 1 1 0#8 0#8 a b = 0#8) (h2 : dot 2 3 1 1 0#8 a b 0#8 = 0#8) : a = 0#8 := by
  unfold dot at h1 h2; simp only [gm_zero, z_l, z_r] at h1 h2
  exact two_two (by decide) h1 h2
theorem w2_2302 {a b : BitVec 8} (h1 : dot 2 3 1 1 0#8 0#8 a b = 0#8) (h2 : dot 2 3 1 1 a b 0#8 0#8 = 0#8) : a = 0#8 := by
  unfold dot at h1 h2; simp only [gm_zero, z_l, z_r] at h1 h2
  exact two_two (by decide) h1 h2
theorem w2_2303 {a b : BitVec 8} (h1 : dot 2 3 1 1 0#8 0#8 a b = 0#8) (h2 : dot 2 3 1 1 b 0#8 0#8 a = 0#8) : a = 0#8 := by
  unfold dot at h1 h2; simp only [gm_zero, z_l, z_r] at h1 h2
  rw [BitVec.xor_comm] at h2
  exact two_two (by decide) h1 h2
theorem w2_2312 {a b : BitVec 8} (h1 : dot 2 3 1 1 0#8 a b 0#8 = 0#8) (h2 : dot 2 3 1 1 a b 0#8 0#8 = 0#8) : a = 0#8 := by
  unfold dot at h1 h2; simp only [gm_zero, z_l, z_r] at h1 h2
  exact two_two (by decide) h1 h2
theorem w2_2313 {a b : BitVec 8} (h1 : dot 2 3 1 1 0#8 a b 0#8 = 0#8) (h2 : dot 2 3 1 1 b 0#8 0#8 a = 0#8) : a = 0#8 := by
  unfold dot at h1 h2; simp only [gm_zero, z_l, z_r] at h1 h2
  rw [BitVec.xor_comm] at h2
  exact two_two (by decide) h1 h2
theorem w2_2323 {a b : BitVec 8} (h1 : dot 2 3 1 1 a b 0#8 0#8 = 0#8) (h2 : dot 2 3 1 1 b 0#8 0#8 a = 0#8) : a = 0#8 := by
  unfold dot at h1 h2; simp only [gm_zero, z_r] at h1 h2
  rw [BitVec.xor_comm] at h2
  exact two_two (by decide) h1 h2
theorem nz0 {a : BitVec 8} (h : a = 0#8) : nz a = 0 := by unfold nz; rw [decide_eq_true h]; rfl
theorem nz1 {a : BitVec 8} (h : a ≠ 0#8) : nz a = 1 := by unfold nz; rw [decide_eq_false h]; rfl
/-- what stays of one place alone -/
theorem un_one {a b c d : BitVec 8} (h : nz a + nz b + nz c + nz d = 1) : nz (dot 14 11 13 9 a b c d) + nz (dot 14 11 13 9 b c d a) + nz (dot 14 11 13 9 c d a b) + nz (dot 14 11 13 9 d a b c) = 4 := by
  by_cases ha : a = 0#8 <;> by_cases hb : b = 0#8 <;> by_cases hc : c = 0#8 <;> by_cases hd : d = 0#8
  · rw [nz0 ha, nz0 hb, nz0 hc, nz0 hd] at h; cases h
  · subst ha hb hc; rw [nz1 (v1_30 hd), nz1 (v1_31 hd), nz1 (v1_32 hd), nz1 (v1_33 hd)]
  · subst ha hb hd; rw [nz1 (v1_20 hc), nz1 (v1_21 hc), nz1 (v1_22 hc), nz1 (v1_23 hc)]
  · rw [nz0 ha, nz0 hb, nz1 hc, nz1 hd] at h; cases h
  · subst ha hc hd; rw [nz1 (v1_10 hb), nz1 (v1_11 hb), nz1 (v1_12 hb), nz1 (v1_13 hb)]
  · rw [nz0 ha, nz1 hb, nz0 hc, nz1 hd] at h; cases h
  · rw [nz0 ha, nz1 hb, nz1 hc, nz0 hd] at h; cases h
  · rw [nz0 ha, nz1 hb, nz1 hc, nz1 hd] at h; cases h
  · subst hb hc hd; rw [nz1 (v1_00 ha), nz1 (v1_01 ha), nz1 (v1_02 ha), nz1 (v1_03 ha)]
  · rw [nz1 ha, nz0 hb, nz0 hc, nz1 hd] at h; cases h
  · rw [nz1 ha, nz0 hb, nz1 hc, nz0 hd] at h; cases h
  · rw [nz1 ha, nz0 hb, nz1 hc, nz1 hd] at h; cases h
  · rw [nz1 ha, nz1 hb, nz0 hc, nz0 hd] at h; cases h
  · rw [nz1 ha, nz1 hb, nz0 hc, nz1 hd] at h; cases h
  · rw [nz1 ha, nz1 hb, nz1 hc, nz0 hd] at h; cases h
  · rw [nz1 ha, nz1 hb, nz1 hc, nz1 hd] at h; cases h
theorem five (a b c d : BitVec 8) (h : nz a + nz b + nz c + nz d + (nz (dot 2 3 1 1 a b c d) + nz (dot 2 3 1 1 b c d a) + nz (dot 2 3 1 1 c d a b) + nz (dot 2 3 1 1 d a b c)) < 5) : a = 0#8 ∧ b = 0#8 ∧ c = 0#8 ∧ d = 0#8 := by
  have hu := unmix_mix (a, b, c, d)
  have h1 := @un_one (dot 2 3 1 1 a b c d) (dot 2 3 1 1 b c d a) (dot 2 3 1 1 c d a b) (dot 2 3 1 1 d a b c)
  have ea : dot 14 11 13 9 (dot 2 3 1 1 a b c d) (dot 2 3 1 1 b c d a) (dot 2 3 1 1 c d a b) (dot 2 3 1 1 d a b c) = a := congrArg (fun x => x.1) hu
  have eb : dot 14 11 13 9 (dot 2 3 1 1 b c d a) (dot 2 3 1 1 c d a b) (dot 2 3 1 1 d a b c) (dot 2 3 1 1 a b c d) = b := congrArg (fun x => x.2.1) hu
  have ec : dot 14 11 13 9 (dot 2 3 1 1 c d a b) (dot 2 3 1 1 d a b c) (dot 2 3 1 1 a b c d) (dot 2 3 1 1 b c d a) = c := congrArg (fun x => x.2.2.1) hu
  have ed : dot 14 11 13 9 (dot 2 3 1 1 d a b c) (dot 2 3 1 1 a b c d) (dot 2 3 1 1 b c d a) (dot 2 3 1 1 c d a b) = d := congrArg (fun x => x.2.2.2) hu
  rw [ea, eb, ec, ed] at h1
  by_cases z : nz (dot 2 3 1 1 a b c d) + nz (dot 2 3 1 1 b c d a) + nz (dot 2 3 1 1 c d a b) + nz (dot 2 3 1 1 d a b c) = 0
  · have z1 : ∀ x : BitVec 8, nz x = 0 → x = 0#8 := fun x hx => by
      by_cases k : x = 0#8
      · exact k
      · rw [nz1 k] at hx; cases hx
    have e0 := z1 (dot 2 3 1 1 a b c d) (by omega)
    have e1 := z1 (dot 2 3 1 1 b c d a) (by omega)
    have e2 := z1 (dot 2 3 1 1 c d a b) (by omega)
    have e3 := z1 (dot 2 3 1 1 d a b c) (by omega)
    rw [e0, e1, e2, e3] at ea eb ec ed
    have o : dot 14 11 13 9 0#8 0#8 0#8 0#8 = 0#8 := by decide +kernel
    rw [o] at ea eb ec ed
    exact ⟨ea.symm, eb.symm, ec.symm, ed.symm⟩
  · have n1 : ¬(nz (dot 2 3 1 1 a b c d) + nz (dot 2 3 1 1 b c d a) + nz (dot 2 3 1 1 c d a b) + nz (dot 2 3 1 1 d a b c) = 1) := fun e => by
      have := h1 e; omega
    clear h1 hu ea eb ec ed
    by_cases ha : a = 0#8 <;> by_cases hb : b = 0#8 <;> by_cases hc : c = 0#8 <;> by_cases hd : d = 0#8
    · exact ⟨ha, hb, hc, hd⟩
    · exfalso; rw [nz0 ha, nz0 hb, nz0 hc, nz1 hd] at h; clear n1 z; subst ha hb hc; rw [nz1 (w1_30 hd), nz1 (w1_31 hd), nz1 (w1_32 hd), nz1 (w1_33 hd)] at h; omega
    · exfalso; rw [nz0 ha, nz0 hb, nz1 hc, nz0 hd] at h; clear n1 z; subst ha hb hd; rw [nz1 (w1_20 hc), nz1 (w1_21 hc), nz1 (w1_22 hc), nz1 (w1_23 hc)] at h; omega
    · exfalso; rw [nz0 ha, nz0 hb, nz1 hc, nz1 hd] at h; subst ha hb
      have p : ∀ x : BitVec 8, nz x = 0 ∧ x = 0#8 ∨ nz x = 1 := fun x => by
        by_cases k : x = 0#8
        · exact .inl ⟨nz0 k, k⟩
        · exact .inr (nz1 k)
      have p0 := p (dot 2 3 1 1 0#8 0#8 c d)
      have p1 := p (dot 2 3 1 1 0#8 c d 0#8)
      have p2 := p (dot 2 3 1 1 c d 0#8 0#8)
      have p3 := p (dot 2 3 1 1 d 0#8 0#8 c)
      have q01 : ¬(dot 2 3 1 1 0#8 0#8 c d = 0#8 ∧ dot 2 3 1 1 0#8 c d 0#8 = 0#8) := fun e => hc (w2_2301 e.1 e.2)
      have q02 : ¬(dot 2 3 1 1 0#8 0#8 c d = 0#8 ∧ dot 2 3 1 1 c d 0#8 0#8 = 0#8) := fun e => hc (w2_2302 e.1 e.2)
      have q03 : ¬(dot 2 3 1 1 0#8 0#8 c d = 0#8 ∧ dot 2 3 1 1 d 0#8 0#8 c = 0#8) := fun e => hc (w2_2303 e.1 e.2)
      have q12 : ¬(dot 2 3 1 1 0#8 c d 0#8 = 0#8 ∧ dot 2 3 1 1 c d 0#8 0#8 = 0#8) := fun e => hc (w2_2312 e.1 e.2)
      have q13 : ¬(dot 2 3 1 1 0#8 c d 0#8 = 0#8 ∧ dot 2 3 1 1 d 0#8 0#8 c = 0#8) := fun e => hc (w2_2313 e.1 e.2)
      have q23 : ¬(dot 2 3 1 1 c d 0#8 0#8 = 0#8 ∧ dot 2 3 1 1 d 0#8 0#8 c = 0#8) := fun e => hc (w2_2323 e.1 e.2)
      generalize dot 2 3 1 1 0#8 0#8 c d = o0 at *
      generalize dot 2 3 1 1 0#8 c d 0#8 = o1 at *
      generalize dot 2 3 1 1 c d 0#8 0#8 = o2 at *
      generalize dot 2 3 1 1 d 0#8 0#8 c = o3 at *
      rcases p0 with ⟨s0, t0⟩ | s0 <;> rcases p1 with ⟨s1, t1⟩ | s1 <;> rcases p2 with ⟨s2, t2⟩ | s2 <;> rcases p3 with ⟨s3, t3⟩ | s3 <;> first | omega | (exact q01 ⟨t0, t1⟩) | (exact q02 ⟨t0, t2⟩) | (exact q03 ⟨t0, t3⟩) | (exact q12 ⟨t1, t2⟩) | (exact q13 ⟨t1, t3⟩) | (exact q23 ⟨t2, t3⟩)
    · exfalso; rw [nz0 ha, nz1 hb, nz0 hc, nz0 hd] at h; clear n1 z; subst ha hc hd; rw [nz1 (w1_10 hb), nz1 (w1_11 hb), nz1 (w1_12 hb), nz1 (w1_13 hb)] at h; omega
    · exfalso; rw [nz0 ha, nz1 hb, nz0 hc, nz1 hd] at h; subst ha hc
      have p : ∀ x : BitVec 8, nz x = 0 ∧ x = 0#8 ∨ nz x = 1 := fun x => by
        by_cases k : x = 0#8
        · exact .inl ⟨nz0 k, k⟩
        · exact .inr (nz1 k)
      have p0 := p (dot 2 3 1 1 0#8 b 0#8 d)
      have p1 := p (dot 2 3 1 1 b 0#8 d 0#8)
      have p2 := p (dot 2 3 1 1 0#8 d 0#8 b)
      have p3 := p (dot 2 3 1 1 d 0#8 b 0#8)
      have q01 : ¬(dot 2 3 1 1 0#8 b 0#8 d = 0#8 ∧ dot 2 3 1 1 b 0#8 d 0#8 = 0#8) := fun e => hb (w2_1301 e.1 e.2)
      have q02 : ¬(dot 2 3 1 1 0#8 b 0#8 d = 0#8 ∧ dot 2 3 1 1 0#8 d 0#8 b = 0#8) := fun e => hb (w2_1302 e.1 e.2)
      have q03 : ¬(dot 2 3 1 1 0#8 b 0#8 d = 0#8 ∧ dot 2 3 1 1 d 0#8 b 0#8 = 0#8) := fun e => hb (w2_1303 e.1 e.2)
      have q12 : ¬(dot 2 3 1 1 b 0#8 d 0#8 = 0#8 ∧ dot 2 3 1 1 0#8 d 0#8 b = 0#8) := fun e => hb (w2_1312 e.1 e.2)
      have q13 : ¬(dot 2 3 1 1 b 0#8 d 0#8 = 0#8 ∧ dot 2 3 1 1 d 0#8 b 0#8 = 0#8) := fun e => hb (w2_1313 e.1 e.2)
      have q23 : ¬(dot 2 3 1 1 0#8 d 0#8 b = 0#8 ∧ dot 2 3 1 1 d 0#8 b 0#8 = 0#8) := fun e => hb (w2_1323 e.1 e.2)
      generalize dot 2 3 1 1 0#8 b 0#8 d = o0 at *
      generalize dot 2 3 1 1 b 0#8 d 0#8 = o1 at *
      generalize dot 2 3 1 1 0#8 d 0#8 b = o2 at *
      generalize dot 2 3 1 1 d 0#8 b 0#8 = o3 at *
      rcases p0 with ⟨s0, t0⟩ | s0 <;> rcases p1 with ⟨s1, t1⟩ | s1 <;> rcases p2 with ⟨s2, t2⟩ | s2 <;> rcases p3 with ⟨s3, t3⟩ | s3 <;> first | omega | (exact q01 ⟨t0, t1⟩) | (exact q02 ⟨t0, t2⟩) | (exact q03 ⟨t0, t3⟩) | (exact q12 ⟨t1, t2⟩) | (exact q13 ⟨t1, t3⟩) | (exact q23 ⟨t2, t3⟩)
    · exfalso; rw [nz0 ha, nz1 hb, nz1 hc, nz0 hd] at h; subst ha hd
      have p : ∀ x : BitVec 8, nz x = 0 ∧ x = 0#8 ∨ nz x = 1 := fun x => by
        by_cases k : x = 0#8
        · exact .inl ⟨nz0 k, k⟩
        · exact .inr (nz1 k)
      have p0 := p (dot 2 3 1 1 0#8 b c 0#8)
      have p1 := p (dot 2 3 1 1 b c 0#8 0#8)
      have p2 := p (dot 2 3 1 1 c 0#8 0#8 b)
      have p3 := p (dot 2 3 1 1 0#8 0#8 b c)
      have q01 : ¬(dot 2 3 1 1 0#8 b c 0#8 = 0#8 ∧ dot 2 3 1 1 b c 0#8 0#8 = 0#8) := fun e => hb (w2_1201 e.1 e.2)
      have q02 : ¬(dot 2 3 1 1 0#8 b c 0#8 = 0#8 ∧ dot 2 3 1 1 c 0#8 0#8 b = 0#8) := fun e => hb (w2_1202 e.1 e.2)
      have q03 : ¬(dot 2 3 1 1 0#8 b c 0#8 = 0#8 ∧ dot 2 3 1 1 0#8 0#8 b c = 0#8) := fun e => hb (w2_1203 e.1 e.2)
      have q12 : ¬(dot 2 3 1 1 b c 0#8 0#8 = 0#8 ∧ dot 2 3 1 1 c 0#8 0#8 b = 0#8) := fun e => hb (w2_1212 e.1 e.2)
      have q13 : ¬(dot 2 3 1 1 b c 0#8 0#8 = 0#8 ∧ dot 2 3 1 1 0#8 0#8 b c = 0#8) := fun e => hb (w2_1213 e.1 e.2)
      have q23 : ¬(dot 2 3 1 1 c 0#8 0#8 b = 0#8 ∧ dot 2 3 1 1 0#8 0#8 b c = 0#8) := fun e => hb (w2_1223 e.1 e.2)
      generalize dot 2 3 1 1 0#8 b c 0#8 = o0 at *
      generalize dot 2 3 1 1 b c 0#8 0#8 = o1 at *
      generalize dot 2 3 1 1 c 0#8 0#8 b = o2 at *
      generalize dot 2 3 1 1 0#8 0#8 b c = o3 at *
      rcases p0 with ⟨s0, t0⟩ | s0 <;> rcases p1 with ⟨s1, t1⟩ | s1 <;> rcases p2 with ⟨s2, t2⟩ | s2 <;> rcases p3 with ⟨s3, t3⟩ | s3 <;> first | omega | (exact q01 ⟨t0, t1⟩) | (exact q02 ⟨t0, t2⟩) | (exact q03 ⟨t0, t3⟩) | (exact q12 ⟨t1, t2⟩) | (exact q13 ⟨t1, t3⟩) | (exact q23 ⟨t2, t3⟩)
    · rw [nz0 ha, nz1 hb, nz1 hc, nz1 hd] at h; omega
    · exfalso; rw [nz1 ha, nz0 hb, nz0 hc, nz0 hd] at h; clear n1 z; subst hb hc hd; rw [nz1 (w1_00 ha), nz1 (w1_01 ha), nz1 (w1_02 ha), nz1 (w1_03 ha)] at h; omega
    · exfalso; rw [nz1 ha, nz0 hb, nz0 hc, nz1 hd] at h; subst hb hc
      have p : ∀ x : BitVec 8, nz x = 0 ∧ x = 0#8 ∨ nz x = 1 := fun x => by
        by_cases k : x = 0#8
        · exact .inl ⟨nz0 k, k⟩
        · exact .inr (nz1 k)
      have p0 := p (dot 2 3 1 1 a 0#8 0#8 d)
      have p1 := p (dot 2 3 1 1 0#8 0#8 d a)
      have p2 := p (dot 2 3 1 1 0#8 d a 0#8)
      have p3 := p (dot 2 3 1 1 d a 0#8 0#8)
      have q01 : ¬(dot 2 3 1 1 a 0#8 0#8 d = 0#8 ∧ dot 2 3 1 1 0#8 0#8 d a = 0#8) := fun e => ha (w2_0301 e.1 e.2)
      have q02 : ¬(dot 2 3 1 1 a 0#8 0#8 d = 0#8 ∧ dot 2 3 1 1 0#8 d a 0#8 = 0#8) := fun e => ha (w2_0302 e.1 e.2)
      have q03 : ¬(dot 2 3 1 1 a 0#8 0#8 d = 0#8 ∧ dot 2 3 1 1 d a 0#8 0#8 = 0#8) := fun e => ha (w2_0303 e.1 e.2)
      have q12 : ¬(dot 2 3 1 1 0#8 0#8 d a = 0#8 ∧ dot 2 3 1 1 0#8 d a 0#8 = 0#8) := fun e => ha (w2_0312 e.1 e.2)
      have q13 : ¬(dot 2 3 1 1 0#8 0#8 d a = 0#8 ∧ dot 2 3 1 1 d a 0#8 0#8 = 0#8) := fun e => ha (w2_0313 e.1 e.2)
      have q23 : ¬(dot 2 3 1 1 0#8 d a 0#8 = 0#8 ∧ dot 2 3 1 1 d a 0#8 0#8 = 0#8) := fun e => ha (w2_0323 e.1 e.2)
      generalize dot 2 3 1 1 a 0#8 0#8 d = o0 at *
      generalize dot 2 3 1 1 0#8 0#8 d a = o1 at *
      generalize dot 2 3 1 1 0#8 d a 0#8 = o2 at *
      generalize dot 2 3 1 1 d a 0#8 0#8 = o3 at *
      rcases p0 with ⟨s0, t0⟩ | s0 <;> rcases p1 with ⟨s1, t1⟩ | s1 <;> rcases p2 with ⟨s2, t2⟩ | s2 <;> rcases p3 with ⟨s3, t3⟩ | s3 <;> first | omega | (exact q01 ⟨t0, t1⟩) | (exact q02 ⟨t0, t2⟩) | (exact q03 ⟨t0, t3⟩) | (exact q12 ⟨t1, t2⟩) | (exact q13 ⟨t1, t3⟩) | (exact q23 ⟨t2, t3⟩)
    · exfalso; rw [nz1 ha, nz0 hb, nz1 hc, nz0 hd] at h; subst hb hd
      have p : ∀ x : BitVec 8, nz x = 0 ∧ x = 0#8 ∨ nz x = 1 := fun x => by
        by_cases k : x = 0#8
        · exact .inl ⟨nz0 k, k⟩
        · exact .inr (nz1 k)
      have p0 := p (dot 2 3 1 1 a 0#8 c 0#8)
      have p1 := p (dot 2 3 1 1 0#8 c 0#8 a)
      have p2 := p (dot 2 3 1 1 c 0#8 a 0#8)
      have p3 := p (dot 2 3 1 1 0#8 a 0#8 c)
      have q01 : ¬(dot 2 3 1 1 a 0#8 c 0#8 = 0#8 ∧ dot 2 3 1 1 0#8 c 0#8 a = 0#8) := fun e => ha (w2_0201 e.1 e.2)
      have q02 : ¬(dot 2 3 1 1 a 0#8 c 0#8 = 0#8 ∧ dot 2 3 1 1 c 0#8 a 0#8 = 0#8) := fun e => ha (w2_0202 e.1 e.2)
      have q03 : ¬(dot 2 3 1 1 a 0#8 c 0#8 = 0#8 ∧ dot 2 3 1 1 0#8 a 0#8 c = 0#8) := fun e => ha (w2_0203 e.1 e.2)
      have q12 : ¬(dot 2 3 1 1 0#8 c 0#8 a = 0#8 ∧ dot 2 3 1 1 c 0#8 a 0#8 = 0#8) := fun e => ha (w2_0212 e.1 e.2)
      have q13 : ¬(dot 2 3 1 1 0#8 c 0#8 a = 0#8 ∧ dot 2 3 1 1 0#8 a 0#8 c = 0#8) := fun e => ha (w2_0213 e.1 e.2)
      have q23 : ¬(dot 2 3 1 1 c 0#8 a 0#8 = 0#8 ∧ dot 2 3 1 1 0#8 a 0#8 c = 0#8) := fun e => ha (w2_0223 e.1 e.2)
      generalize dot 2 3 1 1 a 0#8 c 0#8 = o0 at *
      generalize dot 2 3 1 1 0#8 c 0#8 a = o1 at *
      generalize dot 2 3 1 1 c 0#8 a 0#8 = o2 at *
      generalize dot 2 3 1 1 0#8 a 0#8 c = o3 at *
      rcases p0 with ⟨s0, t0⟩ | s0 <;> rcases p1 with ⟨s1, t1⟩ | s1 <;> rcases p2 with ⟨s2, t2⟩ | s2 <;> rcases p3 with ⟨s3, t3⟩ | s3 <;> first | omega | (exact q01 ⟨t0, t1⟩) | (exact q02 ⟨t0, t2⟩) | (exact q03 ⟨t0, t3⟩) | (exact q12 ⟨t1, t2⟩) | (exact q13 ⟨t1, t3⟩) | (exact q23 ⟨t2, t3⟩)
    · rw [nz1 ha, nz0 hb, nz1 hc, nz1 hd] at h; omega
    · exfalso; rw [nz1 ha, nz1 hb, nz0 hc, nz0 hd] at h; subst hc hd
      have p : ∀ x : BitVec 8, nz x = 0 ∧ x = 0#8 ∨ nz x = 1 := fun x => by
        by_cases k : x = 0#8
        · exact .inl ⟨nz0 k, k⟩
        · exact .inr (nz1 k)
      have p0 := p (dot 2 3 1 1 a b 0#8 0#8)
      have p1 := p (dot 2 3 1 1 b 0#8 0#8 a)
      have p2 := p (dot 2 3 1 1 0#8 0#8 a b)
      have p3 := p (dot 2 3 1 1 0#8 a b 0#8)
      have q01 : ¬(dot 2 3 1 1 a b 0#8 0#8 = 0#8 ∧ dot 2 3 1 1 b 0#8 0#8 a = 0#8) := fun e => ha (w2_0101 e.1 e.2)
      have q02 : ¬(dot 2 3 1 1 a b 0#8 0#8 = 0#8 ∧ dot 2 3 1 1 0#8 0#8 a b = 0#8) := fun e => ha (w2_0102 e.1 e.2)
      have q03 : ¬(dot 2 3 1 1 a b 0#8 0#8 = 0#8 ∧ dot 2 3 1 1 0#8 a b 0#8 = 0#8) := fun e => ha (w2_0103 e.1 e.2)
      have q12 : ¬(dot 2 3 1 1 b 0#8 0#8 a = 0#8 ∧ dot 2 3 1 1 0#8 0#8 a b = 0#8) := fun e => ha (w2_0112 e.1 e.2)
      have q13 : ¬(dot 2 3 1 1 b 0#8 0#8 a = 0#8 ∧ dot 2 3 1 1 0#8 a b 0#8 = 0#8) := fun e => ha (w2_0113 e.1 e.2)
      have q23 : ¬(dot 2 3 1 1 0#8 0#8 a b = 0#8 ∧ dot 2 3 1 1 0#8 a b 0#8 = 0#8) := fun e => ha (w2_0123 e.1 e.2)
      generalize dot 2 3 1 1 a b 0#8 0#8 = o0 at *
      generalize dot 2 3 1 1 b 0#8 0#8 a = o1 at *
      generalize dot 2 3 1 1 0#8 0#8 a b = o2 at *
      generalize dot 2 3 1 1 0#8 a b 0#8 = o3 at *
      rcases p0 with ⟨s0, t0⟩ | s0 <;> rcases p1 with ⟨s1, t1⟩ | s1 <;> rcases p2 with ⟨s2, t2⟩ | s2 <;> rcases p3 with ⟨s3, t3⟩ | s3 <;> first | omega | (exact q01 ⟨t0, t1⟩) | (exact q02 ⟨t0, t2⟩) | (exact q03 ⟨t0, t3⟩) | (exact q12 ⟨t1, t2⟩) | (exact q13 ⟨t1, t3⟩) | (exact q23 ⟨t2, t3⟩)
    · rw [nz1 ha, nz1 hb, nz0 hc, nz1 hd] at h; omega
    · rw [nz1 ha, nz1 hb, nz1 hc, nz0 hd] at h; omega
    · rw [nz1 ha, nz1 hb, nz1 hc, nz1 hd] at h; omega
end Go.Gfn
