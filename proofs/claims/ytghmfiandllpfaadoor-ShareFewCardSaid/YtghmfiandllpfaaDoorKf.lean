import Derived.Test.YtghmfiandllpfaaDoorB0
import Derived.Test.YtghmfiandllpfaaDoorKe
namespace Go.Proofs.YtghmfiandllpfaaDoor.Lb
open Go.Ty
theorem wide_set {t : List (BitVec 64)} {n : Nat} {y : BitVec 64} (h : wideS.wfT t) : wideS.wfT (t.set n y) := ⟨by rw [List.length_set]; exact h.1, fun _ _ => trivial⟩
theorem mod_word (m : List (BitVec 64)) (j : Nat) : valN m % 2 ^ (64 * (j + 1)) = valN m % 2 ^ (64 * j) + 2 ^ (64 * j) * (rd u64S m j).toNat := by
  have key : ∀ (m : List (BitVec 64)) (j : Nat), valN m / 2 ^ (64 * j) % 2 ^ 64 = (rd u64S m j).toNat := by
    intro m
    induction m with
    | nil => intro j; have : rd u64S [] j = 0#64 := by cases j <;> rfl
             rw [this]; simp [valN]
    | cons x r ih =>
      intro j
      have hx := x.isLt
      cases j with
      | zero =>
        show (x.toNat + 2 ^ 64 * valN r) / 2 ^ (64 * 0) % 2 ^ 64 = x.toNat
        rw [Nat.mul_zero, Nat.pow_zero, Nat.div_one]; omega
      | succ j =>
        show (x.toNat + 2 ^ 64 * valN r) / 2 ^ (64 * (j + 1)) % 2 ^ 64 = (rd u64S r j).toNat
        rw [show 64 * (j + 1) = 64 + 64 * j by omega, Nat.pow_add, ← Nat.div_div_eq_div_mul, show (x.toNat + 2 ^ 64 * valN r) / 2 ^ 64 = valN r by omega]
        exact ih j
  rw [show 64 * (j + 1) = 64 * j + 64 by omega, Nat.pow_add, Nat.mod_mul, key]
theorem i64n {n : Nat} (h : n < 100) : IntKind.i64.wrap (n : Int) = (n : Int) := IntWalk.i64_in _ (by omega)
theorem bounds {n k : Nat} (h : n < k) : (decide (0 ≤ (n : Int)) && decide ((n : Int) < (k : Int))) = true := by
  rw [decide_eq_true (by omega), decide_eq_true (by omega)]; rfl
theorem mul_add2 {k y t c : Nat} (hk : k < 2 ^ 64) (hy : y < 2 ^ 64) (ht : t < 2 ^ 64) (hc : c < 2 ^ 64) :
    ∃ lo hi : Nat, lo < 2 ^ 64 ∧ hi < 2 ^ 64 ∧ lo + 2 ^ 64 * hi = k * y + t + c ∧ BitVec.ofNat 64 ((BitVec.ofNat 64 ((BitVec.ofNat 64 (k * y)).toNat + t + 0)).toNat + c + 0) = BitVec.ofNat 64 lo ∧
      BitVec.ofNat 64 (k * y / 2 ^ 64) + BitVec.ofNat 64 (((BitVec.ofNat 64 (k * y)).toNat + t + 0) / 2 ^ 64) + BitVec.ofNat 64 (((BitVec.ofNat 64 ((BitVec.ofNat 64 (k * y)).toNat + t + 0)).toNat + c + 0) / 2 ^ 64) = BitVec.ofNat 64 hi := by
  have h : k * y ≤ (2 ^ 64 - 1) * (2 ^ 64 - 1) := Nat.mul_le_mul (by omega) (by omega)
  generalize k * y = p at *
  refine ⟨(p + t + c) % 2 ^ 64, (p + t + c) / 2 ^ 64, by omega, by omega, by omega, ?_, ?_⟩
  · apply BitVec.eq_of_toNat_eq
    simp only [BitVec.toNat_ofNat]; omega
  · apply BitVec.eq_of_toNat_eq
    simp only [BitVec.toNat_add, BitVec.toNat_ofNat]; omega

theorem word_at : ∀ (m : List (BitVec 64)) (j : Nat), valN m / 2 ^ (64 * j) % 2 ^ 64 = (rd u64S m j).toNat
  | [], j => by
    have : rd u64S [] j = 0#64 := by cases j <;> rfl
    rw [this]; simp [valN]
  | x :: r, 0 => by
    have hx := x.isLt
    show (x.toNat + 2 ^ 64 * valN r) / 2 ^ (64 * 0) % 2 ^ 64 = x.toNat
    rw [Nat.mul_zero, Nat.pow_zero, Nat.div_one]; omega
  | x :: r, j + 1 => by
    have hx := x.isLt
    show (x.toNat + 2 ^ 64 * valN r) / 2 ^ (64 * (j + 1)) % 2 ^ 64 = (rd u64S r j).toNat
    rw [show 64 * (j + 1) = 64 + 64 * j by omega, Nat.pow_add, ← Nat.div_div_eq_div_mul, show (x.toNat + 2 ^ 64 * valN r) / 2 ^ 64 = valN r by omega]
    exact word_at r j
theorem mm3 (a x m : Nat) : a * (x % m * (x % m) % m) % m = a * x * x % m := by rw [← Nat.mul_mod, Nat.mul_mod_mod, Nat.mul_assoc]
theorem sq_mont {e M R : Nat} : e * R % M * (e * R % M) % M = e * e * R * R % M := by
  rw [← Nat.mul_mod]
  congr 1
  grind
theorem mul_mont {e a M R : Nat} : e * R % M * (a * R % M) % M = e * a * R * R % M := by
  rw [← Nat.mul_mod]
  congr 1
  grind
theorem blen_le {x k : Nat} : blen x ≤ k ↔ x < 2 ^ k := by
  unfold blen
  by_cases h : x = 0
  · subst h; simp [Nat.two_pow_pos]
  · rw [if_neg h, ← Nat.log2_lt h]; omega
theorem step_t {s : Sh} {x y : s.T} {p f : Prop} (h : x = y) (hp : p) : ifB (teq s x y) p f := ifB_of (fun _ => hp) (fun h' => teq_no h h')
theorem neg_mul {a b M : Nat} (ha : a < M) (hb : b < M) : (M - a) % M * ((M - b) % M) % M = a * b % M := by
  rw [← Nat.mul_mod]
  have e : (M - a) * (M - b) + M * (a + b) = M * M + a * b := by
    obtain ⟨x, hx⟩ : ∃ x, M = a + x := ⟨M - a, by omega⟩
    obtain ⟨y, hy⟩ : ∃ y, M = b + y := ⟨M - b, by omega⟩
    rw [show M - a = x by omega, show M - b = y by omega]
    have e1 : M * M = (a + x) * (b + y) := by rw [← hx, ← hy]
    rw [e1, Nat.mul_add M]
    have e2 : M * a = (b + y) * a := by rw [← hy]
    have e3 : M * b = (a + x) * b := by rw [← hx]
    rw [e2, e3]; grind
  have e2 := congrArg (· % M) e
  simp only [Nat.add_mul_mod_self_left] at e2
  rw [e2, Nat.mul_add_mod]
theorem sub_add_mod {A B M : Nat} (h : 0 < M) : ((A % M + M - B % M) % M + B) % M = A % M := by
  have h2 := Nat.mod_lt B h
  have e := Nat.div_add_mod B M
  have e2 : A % M + M - B % M + B = A % M + M * (B / M + 1) := by
    rw [Nat.mul_add, Nat.mul_one]
    generalize M * (B / M) = z at *
    omega
  rw [Nat.mod_add_mod, e2, Nat.add_mul_mod_self_left, Nat.mod_mod]
theorem teq_nn {s : Sh} {x : s.T} {p : Prop} (h : (!teq s x x) = true) : p := by rw [teq_of (s := s) (x := x) rfl] at h; cases h
theorem teq_eq {s : Sh} {x y : s.T} (h : x = y) : teq s x y = true := teq_iff.2 h
theorem teq_one {n : Nat} (h : n < 2 ^ 256) : teq (Sh.arr 4 (Sh.int IntKind.u64)) (wordsN 4 n) [1#64, 0#64, 0#64, 0#64] = decide (n = 1) := by
  by_cases e : n = 1
  · subst e; rw [decide_eq_true rfl]; exact teq_of (by rw [wordsN_eq]; decide)
  · rw [decide_eq_false e]
    refine Bool.eq_false_iff.2 fun h2 => e ?_
    have h2 : wordsN 4 n = [1#64, 0#64, 0#64, 0#64] := teq_iff.1 h2
    have := v4 h
    rw [h2] at this
    exact this.symm
theorem not_t {b : Bool} {p : Prop} (h : (!b) = false) (k : b = true → p) : p := k (by simpa using h)

theorem low_bit {a : List (BitVec 64)} : rd (Sh.int IntKind.u64) a 0 &&& 1#64 = 0#64 ↔ valN a % 2 = 0 := by
  have h := valN_bit a 0 0 (by omega)
  rw [show 64 * 0 + 0 = 0 from rfl, Nat.pow_zero, Nat.div_one, Nat.div_one] at h
  have h1 := and_one (rd u64S a 0) 0
  rw [BitVec.ushiftRight_zero, Nat.pow_zero, Nat.div_one, ← h] at h1
  rw [show rd (Sh.int IntKind.u64) a 0 &&& 1#64 = _ from h1]
  constructor
  · intro e
    have := congrArg BitVec.toNat e
    rw [BitVec.toNat_ofNat] at this
    have e1 : (0#64).toNat = 0 := rfl
    rw [e1] at this; omega
  · intro e; rw [e]
/-! ## 2^256, as a constant that the kernel does not look into (else it counts a closed sum down, one by one) -/
noncomputable def B256 : Nat := Classical.choose (⟨2 ^ 256, rfl⟩ : ∃ n : Nat, n = 2 ^ 256)
theorem B256_eq : B256 = 2 ^ 256 := Classical.choose_spec (⟨2 ^ 256, rfl⟩ : ∃ n : Nat, n = 2 ^ 256)
noncomputable def addB : HL [numS, numS] → SV := fun xs => .tup [.val numS (wordsN 4 (valN xs.1 + valN xs.2.1)), .val u64S (BitVec.ofNat 64 ((valN xs.1 + valN xs.2.1) / B256))]
noncomputable def subB : HL [numS, numS] → SV := fun xs => .tup [.val numS (wordsN 4 (valN xs.1 + B256 - valN xs.2.1)), .val u64S (bif decide (valN xs.1 < valN xs.2.1) then 1#64 else 0#64)]
noncomputable def highB : HL [wideS] → SV := fun xs => .av (.val numS (wordsN 4 (valN xs.1 / B256)))
noncomputable def wideB : HL [numS, numS] → SV := fun xs => .av (.val wideS (wordsN 8 (valN xs.1 + B256 * valN xs.2.1)))
theorem addB_eq : addB = addF := by funext xs; unfold addB addF; rw [B256_eq]
theorem subB_eq : subB = subF := by funext xs; unfold subB subF; rw [B256_eq]
theorem highB_eq : highB = highF := by funext xs; unfold highB highF; rw [B256_eq]
theorem wideB_eq : wideB = wideF := by funext xs; unfold wideB wideF; rw [B256_eq]
noncomputable def ctB : CTab := (42, conT [numS, numS] addB) :: (30, conT [numS, numS] subB) :: (72, conT [numS, numS] wideB) :: ct3
theorem ctB_ok : ∀ p ∈ ctB, COK Tryd.prog GL p.1 p.2 := CCons (by rw [addB_eq]; exact add_ok) (CCons (by rw [subB_eq]; exact sub_ok) (CCons (by rw [wideB_eq]; exact wide_ok) ct3_ok))
end Go.Proofs.YtghmfiandllpfaaDoor.Lb
