import Derived.KernelRfl
namespace Go.Fer
def pwm (p : Nat) : Nat → Nat → Nat → Nat → Nat
  | 0, _, _, acc => acc
  | f + 1, b, e, acc => bif Nat.beq e 0 then acc else pwm p f (b * b % p) (e / 2) (bif Nat.beq (e % 2) 1 then acc * b % p else acc)
theorem pwm_eq {p : Nat} : ∀ (f b e acc : Nat), e < 2 ^ f → pwm p f b e acc % p = acc * b ^ e % p
  | 0, b, e, acc, h => by
    have : e = 0 := by rw [Nat.pow_zero] at h; omega
    subst this; simp [pwm]
  | f + 1, b, e, acc, h => by
    unfold pwm
    cases h0 : Nat.beq e 0 with
    | true =>
      have := Nat.eq_of_beq_eq_true h0
      subst this; simp
    | false =>
      have hlt : e / 2 < 2 ^ f := by rw [Nat.pow_succ] at h; omega
      rw [cond_false, pwm_eq f _ _ _ hlt]
      have he := Nat.div_add_mod e 2
      cases h1 : Nat.beq (e % 2) 1 with
      | true =>
        have h1 := Nat.eq_of_beq_eq_true h1
        have e1 : b ^ e = b * (b * b) ^ (e / 2) := by
          have : e = 2 * (e / 2) + 1 := by omega
          conv => lhs; rw [this]
          rw [Nat.pow_succ, Nat.pow_mul, Nat.pow_two, Nat.mul_comm]
        rw [cond_true, e1, Nat.mul_mod, Nat.mod_mod, ← Nat.pow_mod, ← Nat.mul_mod, Nat.mul_assoc]
      | false =>
        have h1 : e % 2 = 0 := by
          have : e % 2 ≠ 1 := fun c => by rw [c] at h1; cases h1
          omega
        have e1 : b ^ e = (b * b) ^ (e / 2) := by
          have : e = 2 * (e / 2) := by omega
          conv => lhs; rw [this]
          rw [Nat.pow_mul, Nat.pow_two]
        rw [cond_false, e1, Nat.mul_mod, ← Nat.pow_mod, ← Nat.mul_mod]
def Fer (p : Nat) : Prop := 1 < p ∧ ∀ a, a % p ≠ 0 → a ^ (p - 1) % p = 1
theorem Fer.dvd_mul {p a b : Nat} (h : Fer p) (hd : p ∣ a * b) : p ∣ a ∨ p ∣ b := by
  by_cases ha : a % p = 0
  · exact .inl (Nat.dvd_of_mod_eq_zero ha)
  · right
    have h1 := h.2 a ha
    have hp := h.1
    have e1 : b * a ^ (p - 1) % p = b % p := by rw [Nat.mul_mod, h1, Nat.mul_one, Nat.mod_mod]
    have e2 : b * a ^ (p - 1) = a ^ (p - 2) * (a * b) := by
      rw [show p - 1 = (p - 2) + 1 by omega, Nat.pow_succ, Nat.mul_comm b, Nat.mul_assoc]
    rw [e2] at e1
    have e3 : a ^ (p - 2) * (a * b) % p = 0 := Nat.mod_eq_zero_of_dvd (Nat.dvd_trans hd (Nat.dvd_mul_left _ _))
    exact Nat.dvd_of_mod_eq_zero (e1.symm.trans e3)
theorem Fer.prime {p d : Nat} (h : Fer p) (hd : d ∣ p) : d = 1 ∨ d = p := by
  obtain ⟨k, hk⟩ := hd
  have hp := h.1
  rcases h.dvd_mul (a := d) (b := k) ⟨1, by omega⟩ with ⟨j, hj⟩ | ⟨j, hj⟩
  · right
    have hj0 : j ≠ 0 := fun e => by rw [e, Nat.mul_zero] at hj; rw [hj, Nat.zero_mul] at hk; omega
    have : d ≤ p := Nat.le_of_dvd (by omega) ⟨k, hk⟩
    have : p * 1 ≤ p * j := Nat.mul_le_mul_left _ (Nat.pos_of_ne_zero hj0)
    omega
  · left
    rw [hj] at hk
    have hd0 : d ≠ 0 := fun e => by rw [e, Nat.zero_mul] at hk; omega
    have e : d * (p * j) = p * (d * j) := by rw [Nat.mul_left_comm]
    rw [e] at hk
    have : d * j = 1 := by
      have h1 : p * (d * j) = p * 1 := by omega
      exact Nat.eq_of_mul_eq_mul_left (by omega) h1
    exact Nat.eq_one_of_mul_eq_one_right this
def prodL (l : List Nat) : Nat := l.foldr (fun a b => a * b) 1
theorem prod_dvd : ∀ {l : List Nat} {d k : Nat}, (∀ q ∈ l, Fer q) → d * k = prodL l → k ≠ 1 → ∃ q ∈ l, q ∣ k
  | [], d, k, _, h, hk => absurd (Nat.eq_one_of_mul_eq_one_left (show d * k = 1 from h)) hk
  | q :: l, d, k, hl, h, hk => by
    have hq := hl q (by simp)
    have h : d * k = q * prodL l := h
    rcases hq.dvd_mul (a := d) (b := k) ⟨prodL l, h⟩ with ⟨j, hj⟩ | hd
    · rw [hj, Nat.mul_assoc] at h
      have h2 := Nat.eq_of_mul_eq_mul_left (show 0 < q by have := hq.1; omega) h
      obtain ⟨r, hr, hrk⟩ := prod_dvd (fun q' hq' => hl q' (by simp [hq'])) h2 hk
      exact ⟨r, by simp [hr], hrk⟩
    · exact ⟨q, by simp, hd⟩
theorem pigeon : ∀ (n : Nat) (f : Nat → Nat), (∀ i, i < n → f i < n) → (∀ i j, i < n → j < n → f i = f j → i = j) → ∀ k, k < n → ∃ i, i < n ∧ f i = k
  | 0, _, _, _, k, hk => by omega
  | n + 1, f, hf, hi, k, hk => by
    have hv : f n < n + 1 := hf n (by omega)
    by_cases ev : f n = n
    · by_cases ek : k = n
      · exact ⟨n, by omega, by omega⟩
      · obtain ⟨i, h1, h2⟩ := pigeon n f (fun i h => by
          have h1 := hf i (by omega)
          have h2 : f i ≠ n := fun e => by have := hi i n (by omega) (by omega) (by omega); omega
          omega) (fun i j h1 h2 h => hi i j (by omega) (by omega) h) k (by omega)
        exact ⟨i, by omega, h2⟩
    · have hg : ∀ i, i < n → (if f i = n then f n else f i) < n := by
        intro i h
        have h1 := hf i (by omega)
        by_cases e : f i = n
        · rw [if_pos e]; omega
        · rw [if_neg e]; omega
      have hgi : ∀ i j, i < n → j < n → (if f i = n then f n else f i) = (if f j = n then f n else f j) → i = j := by
        intro i j h1 h2 h
        by_cases e1 : f i = n
        · by_cases e2 : f j = n
          · exact hi i j (by omega) (by omega) (by omega)
          · rw [if_pos e1, if_neg e2] at h
            have := hi n j (by omega) (by omega) h; omega
        · by_cases e2 : f j = n
          · rw [if_neg e1, if_pos e2] at h
            have := hi i n (by omega) (by omega) h; omega
          · rw [if_neg e1, if_neg e2] at h
            exact hi i j (by omega) (by omega) h
      by_cases e1 : k = f n
      · exact ⟨n, by omega, e1.symm⟩
      · by_cases e2 : k = n
        · obtain ⟨i, h1, h2⟩ := pigeon n _ hg hgi (f n) (by omega)
          by_cases e : f i = n
          · exact ⟨i, by omega, by omega⟩
          · simp only [if_neg e] at h2
            have := hi i n (by omega) (by omega) h2; omega
        · obtain ⟨i, h1, h2⟩ := pigeon n _ hg hgi k (by omega)
          by_cases e : f i = n
          · simp only [if_pos e] at h2; omega
          · simp only [if_neg e] at h2; exact ⟨i, by omega, h2⟩
theorem pow_gcd {g p : Nat} (hp : 1 < p) : ∀ (a b : Nat), g ^ a % p = 1 → g ^ b % p = 1 → g ^ Nat.gcd a b % p = 1 := by
  intro a b
  induction a, b using Nat.gcd.induction with
  | H0 n => intro _ h; rw [Nat.gcd_zero_left]; exact h
  | H1 m n hm ih =>
    intro h1 h2
    rw [Nat.gcd_rec]
    refine ih ?_ h1
    have e := Nat.div_add_mod n m
    rw [← e, Nat.pow_add, Nat.pow_mul, Nat.mul_mod, Nat.pow_mod, h1, Nat.one_pow, Nat.mod_eq_of_lt hp, Nat.one_mul, Nat.mod_mod] at h2
    exact h2
theorem pratt_of {p g : Nat} {l : List Nat} (hp : 1 < p) (hl : ∀ q ∈ l, Fer q) (hprod : prodL l = p - 1) (h1 : g ^ (p - 1) % p = 1) (h2 : ∀ q ∈ l, g ^ ((p - 1) / q) % p ≠ 1) : Fer p := by
  have hn : 0 < p - 1 := by omega
  have hord : ∀ m, 0 < m → m < p - 1 → g ^ m % p ≠ 1 := by
    intro m m0 mn e
    have hd := pow_gcd hp _ _ e h1
    obtain ⟨k, hk⟩ := Nat.gcd_dvd_right m (p - 1)
    have hle := Nat.le_of_dvd m0 (Nat.gcd_dvd_left m (p - 1))
    have hk1 : k ≠ 1 := fun e => by rw [e, Nat.mul_one] at hk; omega
    obtain ⟨q, hq, j, hj⟩ := prod_dvd hl (hk.symm.trans hprod.symm) hk1
    have hq0 : 0 < q := by have := (hl q hq).1; omega
    refine h2 q hq ?_
    have e1 : (p - 1) / q = Nat.gcd m (p - 1) * j := by
      rw [hj, Nat.mul_left_comm] at hk
      generalize Nat.gcd m (p - 1) = G at *
      rw [hk, Nat.mul_div_cancel_left _ hq0]
    rw [e1, Nat.pow_mul, Nat.pow_mod, hd, Nat.one_pow, Nat.mod_eq_of_lt hp]
  have hfull : ∀ i, i ≤ p - 1 → ∀ x, g ^ i % p = x % p → g ^ (p - 1 - i) * x % p = 1 := by
    intro i hi x hx
    rw [Nat.mul_mod, ← hx, ← Nat.mul_mod, ← Nat.pow_add, show p - 1 - i + i = p - 1 by omega, h1]
  have hne : ∀ i, i < p - 1 → g ^ i % p ≠ 0 := by
    intro i hi e
    have := hfull i (by omega) 0 (by rw [e, Nat.zero_mod])
    rw [Nat.mul_zero, Nat.zero_mod] at this
    omega
  refine ⟨hp, fun a ha => ?_⟩
  have hlt : ∀ x, x % p < p := fun x => Nat.mod_lt _ (by omega)
  obtain ⟨i, hi, ei⟩ := pigeon (p - 1) (fun i => g ^ i % p - 1) (fun i hi => by have := hlt (g ^ i); have := hne i hi; show g ^ i % p - 1 < p - 1; omega) (fun i j hi hj e => by
    have e : g ^ i % p - 1 = g ^ j % p - 1 := e
    have a1 := hne i hi
    have a2 := hne j hj
    have e : g ^ i % p = g ^ j % p := by omega
    rcases Nat.lt_trichotomy i j with c | c | c
    · exfalso
      have h3 := hfull i (by omega) (g ^ j) e
      rw [← Nat.pow_add, show p - 1 - i + j = (p - 1) + (j - i) by omega, Nat.pow_add, Nat.mul_mod, h1, Nat.one_mul, Nat.mod_mod] at h3
      exact hord (j - i) (by omega) (by omega) h3
    · exact c
    · exfalso
      have h3 := hfull j (by omega) (g ^ i) e.symm
      rw [← Nat.pow_add, show p - 1 - j + i = (p - 1) + (i - j) by omega, Nat.pow_add, Nat.mul_mod, h1, Nat.one_mul, Nat.mod_mod] at h3
      exact hord (i - j) (by omega) (by omega) h3) (a % p - 1) (by have := hlt a; omega)
  have ei : g ^ i % p - 1 = a % p - 1 := ei
  have a1 := hne i hi
  have e : g ^ i % p = a % p := by omega
  rw [Nat.pow_mod, ← e, ← Nat.pow_mod, ← Nat.pow_mul, Nat.mul_comm, Nat.pow_mul, Nat.pow_mod, h1, Nat.one_pow, Nat.mod_eq_of_lt hp]
def chk (g p : Nat) (l : List Nat) : Bool := Nat.blt 1 p && (Nat.blt p (2 ^ 256) && (Nat.beq (prodL l) (p - 1) && (Nat.beq (pwm p 256 g (p - 1) 1 % p) 1 && l.all fun q => !Nat.beq (pwm p 256 g ((p - 1) / q) 1 % p) 1)))
theorem pratt {p : Nat} (g : Nat) (l : List Nat) (hl : ∀ q ∈ l, Fer q) (h : chk g p l = true) : Fer p := by
  unfold chk at h
  simp only [Bool.and_eq_true, Nat.blt_eq, Nat.beq_eq, List.all_eq_true, Bool.not_eq_true'] at h
  obtain ⟨hp, hb, hprod, h1, h2⟩ := h
  have hlt : ∀ x, (p - 1) / x < 2 ^ 256 := fun x => Nat.lt_of_le_of_lt (Nat.div_le_self _ _) (by omega)
  refine pratt_of (g := g) hp hl hprod ?_ (fun q hq e => ?_)
  · have := pwm_eq (p := p) 256 g (p - 1) 1 (by omega)
    rw [Nat.one_mul] at this
    rw [← this]; exact h1
  · have := pwm_eq (p := p) 256 g ((p - 1) / q) 1 (hlt q)
    rw [Nat.one_mul, e] at this
    have h3 := h2 q hq
    rw [this] at h3
    cases h3
theorem FNil : ∀ q ∈ ([] : List Nat), Fer q := by simp
theorem FCons {q : Nat} {l : List Nat} (h : Fer q) (hl : ∀ q ∈ l, Fer q) : ∀ r ∈ q :: l, Fer r := by
  intro r hr
  rcases List.mem_cons.1 hr with rfl | hr
  · exact h
  · exact hl r hr
theorem fer2 : Fer 2 := ⟨by omega, fun a h => by rw [show 2 - 1 = 1 from rfl, Nat.pow_one]; omega⟩
end Go.Fer
