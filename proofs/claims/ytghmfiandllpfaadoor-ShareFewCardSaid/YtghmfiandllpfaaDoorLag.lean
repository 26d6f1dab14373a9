
namespace Go.Lag
variable {q : Nat} [NeZero q]
abbrev Pol (q : Nat) := List (Fin q)
def ev : Pol q → Fin q → Fin q
  | [], _ => 0
  | c :: p, x => c + x * ev p x
def subP : Pol q → Pol q → Pol q
  | [], p => p.map fun c => 0 - c
  | p, [] => p
  | a :: p, b :: r => (a - b) :: subP p r
theorem ev_neg : ∀ (p : Pol q) (x : Fin q), ev (p.map fun c => 0 - c) x = 0 - ev p x
  | [], x => by simp only [List.map_nil, ev]; grind
  | c :: p, x => by simp only [List.map_cons, ev, ev_neg p x]; grind
theorem ev_sub : ∀ (p r : Pol q) (x : Fin q), ev (subP p r) x = ev p x - ev r x
  | [], r, x => by simp only [subP, ev_neg, ev]
  | a :: p, [], x => by simp only [subP, ev]; grind
  | a :: p, b :: r, x => by simp only [subP, ev, ev_sub p r x]; grind
theorem len_sub : ∀ (p r : Pol q) (n : Nat), p.length ≤ n → r.length ≤ n → (subP p r).length ≤ n
  | [], r, n, _, h => by simp only [subP, List.length_map]; exact h
  | a :: p, [], n, h, _ => h
  | a :: p, b :: r, 0, h, _ => by simp at h
  | a :: p, b :: r, n + 1, h, k => by
    simp only [subP, List.length_cons] at *
    have := len_sub p r n (by omega) (by omega)
    omega
def addP : Pol q → Pol q → Pol q
  | [], p => p
  | p, [] => p
  | a :: p, b :: r => (a + b) :: addP p r
theorem ev_add : ∀ (p r : Pol q) (x : Fin q), ev (addP p r) x = ev p x + ev r x
  | [], r, x => by simp only [addP, ev]; grind
  | a :: p, [], x => by simp only [addP, ev]; grind
  | a :: p, b :: r, x => by simp only [addP, ev, ev_add p r x]; grind
omit [NeZero q] in
theorem len_add : ∀ (p r : Pol q) (n : Nat), p.length ≤ n → r.length ≤ n → (addP p r).length ≤ n
  | [], r, n, _, h => by simp only [addP]; exact h
  | a :: p, [], n, h, _ => h
  | a :: p, b :: r, 0, h, _ => by simp at h
  | a :: p, b :: r, n + 1, h, k => by
    simp only [addP, List.length_cons] at *
    have := len_add p r n (by omega) (by omega)
    omega
def sclP (c : Fin q) (p : Pol q) : Pol q := p.map fun a => c * a
theorem ev_scl (c : Fin q) : ∀ (p : Pol q) (x : Fin q), ev (sclP c p) x = c * ev p x
  | [], x => by simp only [sclP, List.map_nil, ev]; grind
  | a :: p, x => by
    have := ev_scl c p x
    simp only [sclP, List.map_cons, ev] at *
    rw [this]; grind
def linP (a : Fin q) (p : Pol q) : Pol q := subP (0 :: p) (sclP a p)
theorem ev_lin (a : Fin q) (p : Pol q) (x : Fin q) : ev (linP a p) x = ev p x * (x - a) := by
  unfold linP
  rw [ev_sub, ev_scl]
  simp only [ev]; grind
theorem len_lin (a : Fin q) (p : Pol q) : (linP a p).length ≤ p.length + 1 :=
  len_sub _ _ _ (by simp) (by simp [sclP])
def divP (a : Fin q) : Pol q → Pol q
  | [] => []
  | [_] => []
  | _ :: c :: p => ev (c :: p) a :: divP a (c :: p)
theorem len_div (a : Fin q) : ∀ p : Pol q, (divP a p).length = p.length - 1
  | [] => rfl
  | [_] => rfl
  | _ :: c :: p => by
    have := len_div a (c :: p)
    simp only [divP, List.length_cons] at *
    omega
theorem ev_div (a : Fin q) (x : Fin q) : ∀ p : Pol q, ev p x - ev p a = (x - a) * ev (divP a p) x
  | [] => by simp only [ev, divP]; grind
  | [c] => by simp only [ev, divP]; grind
  | b :: c :: p => by
    have h := ev_div a x (c :: p)
    have e1 : ev (b :: c :: p) x = b + x * ev (c :: p) x := rfl
    have e2 : ev (b :: c :: p) a = b + a * ev (c :: p) a := rfl
    have e3 : ev (divP a (b :: c :: p)) x = ev (c :: p) a + x * ev (divP a (c :: p)) x := rfl
    rw [e1, e2, e3]
    generalize ev (c :: p) x = u at *
    generalize ev (c :: p) a = v at *
    generalize ev (divP a (c :: p)) x = w at *
    grind
def Fld (iv : Fin q → Fin q) : Prop := (1 : Fin q) ≠ 0 ∧ ∀ a : Fin q, a ≠ 0 → a * iv a = 1
theorem Fld.hz {iv : Fin q → Fin q} (h : Fld iv) {a b : Fin q} (e : a * b = 0) (ha : a ≠ 0) : b = 0 := by
  have := h.2 a ha
  grind
theorem Fld.mulnz {iv : Fin q → Fin q} (h : Fld iv) {a b : Fin q} (ha : a ≠ 0) (hb : b ≠ 0) : a * b ≠ 0 := fun e => hb (h.hz e ha)
theorem Fld.ivnz {iv : Fin q → Fin q} (h : Fld iv) {a : Fin q} (ha : a ≠ 0) : iv a ≠ 0 := fun e => by
  have := h.2 a ha
  rw [e] at this
  exact h.1 (by grind)
def Dist (X : Nat → Fin q) (n : Nat) : Prop := ∀ i j, i < n → j < n → X i = X j → i = j
theorem roots {iv : Fin q → Fin q} (hf : Fld iv) : ∀ (n : Nat) (p : Pol q) (X : Nat → Fin q), Dist X n → p.length ≤ n → (∀ i, i < n → ev p (X i) = 0) → ∀ x, ev p x = 0
  | 0, p, _, _, hl, _, x => by
    have : p = [] := List.length_eq_zero_iff.1 (by omega)
    subst this; rfl
  | n + 1, p, X, hd, hl, hr, x => by
    have ha := hr n (by omega)
    have hq : ∀ y, ev (divP (X n) p) y = 0 := by
      refine roots hf n _ X (fun i j hi hj e => hd i j (by omega) (by omega) e) (by rw [len_div]; omega) (fun i hi => ?_)
      have h1 := ev_div (X n) (X i) p
      rw [hr i (by omega), ha] at h1
      have hne : X i - X n ≠ 0 := fun e => by
        have : X i = X n := by grind
        have := hd i n (by omega) (by omega) this
        omega
      exact hf.hz (a := X i - X n) (by grind) hne
    have h1 := ev_div (X n) x p
    rw [hq x, ha] at h1
    grind
theorem uniq {iv : Fin q → Fin q} (hf : Fld iv) {n : Nat} {p r : Pol q} {X : Nat → Fin q} (hd : Dist X n) (hp : p.length ≤ n) (hr : r.length ≤ n) (h : ∀ i, i < n → ev p (X i) = ev r (X i)) (x : Fin q) : ev p x = ev r x := by
  have h0 := roots hf n (subP p r) X hd (len_sub p r n hp hr) (fun i hi => by rw [ev_sub, h i hi]; grind) x
  rw [ev_sub] at h0
  grind
def upN (X : Nat → Fin q) (i : Nat) (x : Fin q) : Nat → Fin q
  | 0 => 1
  | j + 1 => bif Nat.beq i j then upN X i x j else upN X i x j * (x - X j)
def lagN (iv : Fin q → Fin q) (X Y : Nat → Fin q) (n : Nat) (x : Fin q) : Nat → Fin q
  | 0 => 0
  | i + 1 => lagN iv X Y n x i + Y i * (upN X i x n * iv (upN X i (X i) n))
def lag (iv : Fin q → Fin q) (X Y : Nat → Fin q) (n : Nat) (x : Fin q) : Fin q := lagN iv X Y n x n
def upP (X : Nat → Fin q) (i : Nat) : Nat → Pol q
  | 0 => [1]
  | j + 1 => bif Nat.beq i j then upP X i j else linP (X j) (upP X i j)
theorem ev_up (X : Nat → Fin q) (i : Nat) (x : Fin q) : ∀ j, ev (upP X i j) x = upN X i x j
  | 0 => by simp only [upP, upN, ev]; grind
  | j + 1 => by
    simp only [upP, upN]
    cases Nat.beq i j with
    | true => exact ev_up X i x j
    | false => simp only [cond_false]; rw [ev_lin, ev_up X i x j]
theorem len_up (X : Nat → Fin q) (i : Nat) : ∀ j, (upP X i j).length ≤ j + 1 ∧ (i < j → (upP X i j).length ≤ j)
  | 0 => ⟨by simp [upP], by omega⟩
  | j + 1 => by
    obtain ⟨h1, h2⟩ := len_up X i j
    simp only [upP]
    cases hb : Nat.beq i j with
    | true => simp only [cond_true]; exact ⟨by omega, fun _ => by omega⟩
    | false =>
      simp only [cond_false]
      have := len_lin (X j) (upP X i j)
      have hne : i ≠ j := fun e => by subst e; rw [Nat.beq_refl] at hb; cases hb
      exact ⟨by omega, fun h => by have := h2 (by omega); omega⟩
theorem lag_pol (iv : Fin q → Fin q) (X Y : Nat → Fin q) (n : Nat) : ∀ m, m ≤ n → ∃ p : Pol q, p.length ≤ n ∧ ∀ x, ev p x = lagN iv X Y n x m
  | 0, _ => ⟨[], by simp, fun _ => rfl⟩
  | m + 1, h => by
    obtain ⟨p, h1, h2⟩ := lag_pol iv X Y n m (by omega)
    refine ⟨addP p (sclP (Y m * iv (upN X m (X m) n)) (upP X m n)), len_add _ _ _ h1 ?_, fun x => ?_⟩
    · simp only [sclP, List.length_map]; exact (len_up X m n).2 (by omega)
    · rw [ev_add, ev_scl, ev_up, h2 x]
      simp only [lagN]
      generalize upN X m x n = u
      generalize iv (upN X m (X m) n) = v
      grind
theorem up_zero (X : Nat → Fin q) (i : Nat) (x : Fin q) {k : Nat} (hk : X k = x) (hne : i ≠ k) : ∀ j, k < j → upN X i x j = 0
  | 0, h => by omega
  | j + 1, h => by
    simp only [upN]
    by_cases e : k = j
    · subst e
      have hb : Nat.beq i k = false := by
        cases hb : Nat.beq i k with
        | true => exact absurd (Nat.eq_of_beq_eq_true hb) hne
        | false => rfl
      rw [hb, hk]
      simp only [cond_false]; grind
    · have := up_zero X i x hk hne j (by omega)
      rw [this]
      cases Nat.beq i j <;> simp only [cond_true, cond_false]; grind
theorem up_nz {iv : Fin q → Fin q} (hf : Fld iv) (X : Nat → Fin q) (i : Nat) (x : Fin q) : ∀ j, (∀ k, k < j → k ≠ i → X k ≠ x) → upN X i x j ≠ 0
  | 0, _ => by simp only [upN]; exact hf.1
  | j + 1, h => by
    have h1 := up_nz hf X i x j (fun k hk => h k (by omega))
    simp only [upN]
    cases hb : Nat.beq i j with
    | true => exact h1
    | false =>
      simp only [cond_false]
      refine hf.mulnz h1 (fun e => h j (by omega) (fun e => by subst e; rw [Nat.beq_refl] at hb; cases hb) ?_)
      grind
theorem lag_at {iv : Fin q → Fin q} (hf : Fld iv) {X Y : Nat → Fin q} {n k : Nat} (hd : Dist X n) (hk : k < n) : ∀ m, m ≤ n → lagN iv X Y n (X k) m = bif Nat.blt k m then Y k else 0
  | 0, _ => rfl
  | m + 1, h => by
    simp only [lagN]
    rw [lag_at hf hd hk m (by omega)]
    by_cases e : m = k
    · subst e
      have h1 : Nat.blt m m = false := by
        cases hb : Nat.blt m m with
        | true => have := Nat.le_of_ble_eq_true hb; omega
        | false => rfl
      have h2 : Nat.blt m (m + 1) = true := Nat.ble_eq_true_of_le (Nat.le_refl _)
      rw [h1, h2, hf.2 _ (up_nz hf X m (X m) n (fun j hj hne e => hne (hd j m hj hk e)))]
      simp only [cond_false, cond_true]; grind
    · rw [up_zero X m (X k) rfl e n hk]
      have h3 : Nat.blt k (m + 1) = Nat.blt k m := by
        cases hb : Nat.blt k m with
        | true => exact Nat.ble_eq_true_of_le (by have := Nat.le_of_ble_eq_true hb; omega)
        | false =>
          cases hc : Nat.blt k (m + 1) with
          | false => rfl
          | true =>
            have h5 := Nat.le_of_ble_eq_true hc
            have : Nat.blt k m = true := Nat.ble_eq_true_of_le (by omega)
            rw [hb] at this; cases this
      rw [h3]
      generalize iv (upN X m (X m) n) = u
      generalize (bif Nat.blt k m then Y k else 0) = w
      grind
theorem lag_own {iv : Fin q → Fin q} (hf : Fld iv) {X Y : Nat → Fin q} {n k : Nat} (hd : Dist X n) (hk : k < n) : lag iv X Y n (X k) = Y k := by
  unfold lag
  rw [lag_at hf hd hk n (Nat.le_refl _), show Nat.blt k n = true from Nat.ble_eq_true_of_le hk]; rfl
theorem lag_of {iv : Fin q → Fin q} (hf : Fld iv) {X Y : Nat → Fin q} {n : Nat} (hd : Dist X n) {p : Pol q} (hp : p.length ≤ n) (h : ∀ i, i < n → Y i = ev p (X i)) (x : Fin q) : lag iv X Y n x = ev p x := by
  obtain ⟨r, h1, h2⟩ := lag_pol iv X Y n n (Nat.le_refl _)
  have e : ∀ x, ev r x = lag iv X Y n x := h2
  rw [← e x]
  exact uniq hf hd h1 hp (fun i hi => by rw [e, lag_own hf hd hi, h i hi]) x
theorem lag_same {iv : Fin q → Fin q} (hf : Fld iv) {X Y X' Y' : Nat → Fin q} {n m : Nat} (hd' : Dist X' m) (hm : n ≤ m) (h : ∀ i, i < m → Y' i = lag iv X Y n (X' i)) (x : Fin q) : lag iv X' Y' m x = lag iv X Y n x := by
  obtain ⟨r, h1, h2⟩ := lag_pol iv X Y n n (Nat.le_refl _)
  have e : ∀ x, ev r x = lag iv X Y n x := h2
  rw [← e x]
  exact lag_of hf hd' (by omega) (fun i hi => by rw [h i hi, e]) x
theorem lag_line {iv : Fin q → Fin q} {X Y Y' : Nat → Fin q} {n : Nat} {x : Fin q} : ∀ m, (∀ i, i < m → Y i = Y' i) → lagN iv X Y n x m = lagN iv X Y' n x m
  | 0, _ => rfl
  | m + 1, h => by simp only [lagN]; rw [lag_line m (fun i hi => h i (by omega)), h m (by omega)]
end Go.Lag
