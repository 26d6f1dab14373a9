import Derived.Test.YtbdggonpjndpiaaAbRun
import Derived.Test.YtbdggonpjndpiaaProg
namespace Go.Proofs.Ytbdggonpjndpiaa
open Go.Ab

/-! ### the words of bytes, as the code has them -/
def bx (a b : Int) : Int := IntKind.u8.wrap (BitVec.ofInt 8 a ^^^ BitVec.ofInt 8 b).toNat
def ba (a b : Int) : Int := IntKind.u8.wrap (BitVec.ofInt 8 a &&& BitVec.ofInt 8 b).toNat
/-- a times 2 -/
def xt (a : Int) : Int := bx (IntKind.u8.wrap (a * 2 ^ 1)) (IntKind.u8.wrap (a.fdiv (2 ^ 7) * 27))
def mulL : Nat → Int → Int → Int → Int
  | 0, _, _, o => o
  | n + 1, a, b, o => if b > 0 then mulL n (xt a) (b.fdiv (2 ^ 1)) (if ba b 1 == 1 then bx o a else o) else o

noncomputable def c21 : Code := match Try.f21.body with | some c => c | none => .skip
def cl : Code → Code | .seq a _ => a | .block _ b => b | .loop b => b | .cond _ a _ => a | c => c
def cr : Code → Code | .seq _ b => b | .cond _ _ b => b | c => c

theorem mixed : Try.prog.follows .mixedOrders = true := by kernel_rfl

section
variable (hc : HOrc)
@[reducible] noncomputable def X0 : Cx := cx Try.prog []
noncomputable def m21 : Code := cl (cl (cr (cr c21)))   -- what stands in block 0
noncomputable def b21 : Code := cl m21     -- the loop's body

def st21 (E : Env) (H : Heap) (a b o : Int) : St := ⟨((E.set 0 (some (.int .u8 a))).set 1 (some (.int .u8 b))).set 5 (some (.int .u8 o)), H⟩

theorem set3 {E : Env} {k0 k1 k2 : Nat} {v0 v1 v2 : Option Value} (h0 : E k0 = v0) (h1 : E k1 = v1) (h2 : E k2 = v2) : ((E.set k0 v0).set k1 v1).set k2 v2 = E := by
  rw [Env.set_self h0, Env.set_self h1, Env.set_self h2]

theorem st21_of {s : St} {a b o : Int} (h0 : s.env 0 = some (.int .u8 a)) (h1 : s.env 1 = some (.int .u8 b)) (h2 : s.env 5 = some (.int .u8 o)) : s = st21 s.env s.heap a b o := by
  cases s; simp only [st21, set3 h0 h1 h2]

theorem round21 (E : Env) (H : Heap) (a b o : Int) (hb : b > 0) : ∃ s', Ru X0 hc 25 b21 (st21 E H a b o) .normal s' ∧ s' = st21 s'.env H (xt a) (b.fdiv (2 ^ 1)) (if ba b 1 == 1 then bx o a else o) := by
  have hb' : decide (b > 0) = true := by simpa using hb
  cases hbit : (ba b 1 == 1) with
  | true =>
    refine ⟨_, .seq (.seq (.region! (by kernel_rfl) (by kernel_rfl)) (.cond_t (t := decide (b > 0)) (by kernel_rfl) hb' .skip))
      (.block (.seq (.seq (.region! (by kernel_rfl) (by kernel_rfl)) (.cond_t (t := ba b 1 == 1) (by kernel_rfl) hbit (.region! (by kernel_rfl) (by kernel_rfl)))) (.run! 5 (by kernel_rfl)))), ?_⟩
    exact st21_of (by kernel_rfl) (by kernel_rfl) (by kernel_rfl)
  | false =>
    refine ⟨_, .seq (.seq (.region! (by kernel_rfl) (by kernel_rfl)) (.cond_t (t := decide (b > 0)) (by kernel_rfl) hb' .skip))
      (.block (.seq (.seq (.region! (by kernel_rfl) (by kernel_rfl)) (.cond_f (t := ba b 1 == 1) (by kernel_rfl) hbit .skip)) (.run! 5 (by kernel_rfl)))), ?_⟩
    exact st21_of (by kernel_rfl) (by kernel_rfl) (by kernel_rfl)

theorem loop21 (n : Nat) : ∀ (E : Env) (H : Heap) (a b o : Int), b < 2 ^ n → ∃ s', Ru X0 hc 25 m21 (st21 E H a b o) (.exit 0) s' ∧ s'.heap = H ∧ s'.env 5 = some (.int .u8 (mulL n a b o)) := by
  induction n with
  | zero =>
    intro E H a b o hb
    have hb' : decide (b > 0) = false := by simp at hb ⊢; omega
    exact ⟨_, .loop_exit (.seq_exit (.seq (.region! (by kernel_rfl) (by kernel_rfl)) (.cond_f (t := decide (b > 0)) (by kernel_rfl) hb' .exit))), by kernel_rfl, by kernel_rfl⟩
  | succ n ih =>
    intro E H a b o hb
    by_cases h : b > 0
    · obtain ⟨s1, h1, h2⟩ := round21 hc E H a b o h
      rw [h2] at h1
      have hlt : b.fdiv (2 ^ 1) < 2 ^ n := by
        rw [Int.fdiv_eq_ediv_of_nonneg _ (by omega)]
        have : (2 : Int) ^ (n + 1) = 2 ^ n * 2 := Int.pow_succ 2 n
        omega
      obtain ⟨s2, g1, g2, g3⟩ := ih s1.env H (xt a) (b.fdiv (2 ^ 1)) (if ba b 1 == 1 then bx o a else o) hlt
      refine ⟨s2, .loop h1 g1, g2, ?_⟩
      rw [g3, mulL, if_pos h]
    · have hb' : decide (b > 0) = false := by simpa using h
      refine ⟨_, .loop_exit (.seq_exit (.seq (.region! (by kernel_rfl) (by kernel_rfl)) (.cond_f (t := decide (b > 0)) (by kernel_rfl) hb' .exit))), by kernel_rfl, ?_⟩
      rw [mulL, if_neg h]
      kernel_rfl

/-- the product, as the code has it -/
def mulS (a b : Int) : Int := mulL b.toNat a b 0
def mulG : List Value → Option Value
  | [.int .u8 a, .int .u8 b] => some (.int .u8 (mulS a b))
  | _ => none
theorem mul_con : Con Try.prog 21 mulG := by
  intro l v h
  unfold mulG at h
  split at h
  · rename_i a b
    simp only [Option.some.injEq] at h
    subst h
    have hlt : b < 2 ^ b.toNat := by
      by_cases h0 : 0 ≤ b
      · have h1 : b.toNat < 2 ^ b.toNat := Nat.lt_two_pow_self
        have h2 : ((b.toNat : Nat) : Int) < ((2 ^ b.toNat : Nat) : Int) := by exact_mod_cast h1
        rw [Int.toNat_of_nonneg h0] at h2
        simpa using h2
      · have : (0 : Int) < 2 ^ b.toNat := Int.pow_pos (by omega)
        omega
    obtain ⟨s2, r2, e2⟩ := Ru.run_ex (X := X0) (hc := fun _ _ _ => none) (N := 25) (c := pre 2 c21) (s := ⟨envOf [.int .u8 a, .int .u8 b], []⟩) 5 (by kernel_rfl)
    have e2' : s2 = st21 s2.env s2.heap a b 0 := st21_of (by rw [e2]; kernel_rfl) (by rw [e2]; kernel_rfl) (by rw [e2]; kernel_rfl)
    obtain ⟨s3, r3, e3, e4⟩ := loop21 (fun _ _ _ => none) b.toNat s2.env s2.heap a b 0 hlt
    have e4 : s3.env 5 = some (.int .u8 (mulS a b)) := e4
    rw [← e2'] at r3
    obtain ⟨s4, r4, e5⟩ := Ru.run_ret_ex (X := X0) (hc := fun _ _ _ => none) (N := 25) (c := post 3 c21) (s := ⟨s3.env.set 5 (some (.int .u8 (mulS a b))), s3.heap⟩) 5 (by kernel_rfl)
    rw [← St.said1 e4] at r4
    refine PCall.of_ru (X := X0) (hc := fun _ _ _ => none) (c := c21) (x := .ret) (s' := s4) mixed OrcOK.nil HOK.none Try.func21 (by kernel_rfl) (by kernel_rfl) (by kernel_rfl) (Ru.cut 2 r2 (.seq (.block_out r3) r4)) (by simp) (by rw [e5]; kernel_rfl) rfl rfl
  · cases h

theorem int_lt_two_pow (b : Int) : b < 2 ^ b.toNat := by
  by_cases h0 : 0 ≤ b
  · have h1 : b.toNat < 2 ^ b.toNat := Nat.lt_two_pow_self
    have h2 : ((b.toNat : Nat) : Int) < ((2 ^ b.toNat : Nat) : Int) := by exact_mod_cast h1
    rw [Int.toNat_of_nonneg h0] at h2
    simpa using h2
  · have : (0 : Int) < 2 ^ b.toNat := Int.pow_pos (by omega)
    omega
theorem fdiv_lt {b : Int} {n : Nat} (hb : b < 2 ^ (n + 1)) : b.fdiv (2 ^ 1) < 2 ^ n := by
  rw [Int.fdiv_eq_ediv_of_nonneg _ (by omega)]
  have : (2 : Int) ^ (n + 1) = 2 ^ n * 2 := Int.pow_succ 2 n
  omega

/-! ### powers -/
def wa (a b : Int) : Int := IntKind.u64.wrap (BitVec.ofInt 64 a &&& BitVec.ofInt 64 b).toNat
def powL : Nat → Int → Int → Int → Int
  | 0, _, _, o => o
  | k + 1, a, n, o => if n > 0 then powL k (mulS a a) (n.fdiv (2 ^ 1)) (if wa n 1 == 1 then mulS o a else o) else o
def powS (a n : Int) : Int := powL n.toNat a n 1
def T1 : Tbl := [(21, mulG)]
theorem T1_ok : ∀ p ∈ T1, Con Try.prog p.1 p.2 := Cons.cons mul_con Cons.nil
@[reducible] noncomputable def X1 : Cx := cx Try.prog T1
noncomputable def c20 : Code := match Try.f20.body with | some c => c | none => .skip
noncomputable def m20 : Code := cl (cl (cr (cr c20)))
abbrev hn : HOrc := fun _ _ _ => none

theorem loop20 (k : Nat) : ∀ (s : St) (a n o : Int), n < 2 ^ k → s.env 0 = some (.int .u8 a) → s.env 1 = some (.int .u64 n) → s.env 5 = some (.int .u8 o) →
    ∃ s', Ru X1 hn 20 m20 s (.exit 0) s' ∧ s'.heap = s.heap ∧ s'.env 5 = some (.int .u8 (powL k a n o)) := by
  induction k with
  | zero =>
    intro s a n o hb h0 h1 h2
    have hb' : decide (n > 0) = false := by simp at hb ⊢; omega
    rw [St.said3 h0 h1 h2]
    exact ⟨_, .loop_exit (.seq_exit (.seq (.region! (by kernel_rfl) (by kernel_rfl)) (.cond_f (t := decide (n > 0)) (by kernel_rfl) hb' .exit))), by kernel_rfl, by kernel_rfl⟩
  | succ k ih =>
    intro s a n o hb h0 h1 h2
    by_cases h : n > 0
    · have hb' : decide (n > 0) = true := by simpa using h
      have step : ∃ s1, Ru X1 hn 20 (cl m20) s .normal s1 ∧ s1.heap = s.heap ∧ s1.env 0 = some (.int .u8 (mulS a a)) ∧ s1.env 1 = some (.int .u64 (n.fdiv (2 ^ 1))) ∧ s1.env 5 = some (.int .u8 (if wa n 1 == 1 then mulS o a else o)) := by
        rw [St.said3 h0 h1 h2]
        cases hbit : (wa n 1 == 1) with
        | true =>
          exact ⟨_, .seq (.seq (.region! (by kernel_rfl) (by kernel_rfl)) (.cond_t (t := decide (n > 0)) (by kernel_rfl) hb' .skip))
            (.seq (.block (.seq (.seq (.region! (by kernel_rfl) (by kernel_rfl)) (.cond_t (t := wa n 1 == 1) (by kernel_rfl) hbit (.region! (by kernel_rfl) (by kernel_rfl)))) (.run! 5 (by kernel_rfl)))) (.run! 5 (by kernel_rfl))), by kernel_rfl, by kernel_rfl, by kernel_rfl, by kernel_rfl⟩
        | false =>
          exact ⟨_, .seq (.seq (.region! (by kernel_rfl) (by kernel_rfl)) (.cond_t (t := decide (n > 0)) (by kernel_rfl) hb' .skip))
            (.seq (.block (.seq (.seq (.region! (by kernel_rfl) (by kernel_rfl)) (.cond_f (t := wa n 1 == 1) (by kernel_rfl) hbit .skip)) (.run! 5 (by kernel_rfl)))) (.run! 5 (by kernel_rfl))), by kernel_rfl, by kernel_rfl, by kernel_rfl, by kernel_rfl⟩
      obtain ⟨s1, r1, g1, g2, g3, g4⟩ := step
      obtain ⟨s2, r2, k1, k2⟩ := ih s1 _ _ _ (fdiv_lt hb) g2 g3 g4
      exact ⟨s2, .loop r1 r2, k1.trans g1, by rw [k2, powL, if_pos h]⟩
    · have hb' : decide (n > 0) = false := by simpa using h
      rw [powL, if_neg h, St.said3 h0 h1 h2]
      exact ⟨_, .loop_exit (.seq_exit (.seq (.region! (by kernel_rfl) (by kernel_rfl)) (.cond_f (t := decide (n > 0)) (by kernel_rfl) hb' .exit))), by kernel_rfl, by kernel_rfl⟩

def powG : List Value → Option Value
  | [.int .u8 a, .int .u64 n] => some (.int .u8 (powS a n))
  | _ => none
theorem pow_con : Con Try.prog 20 powG := by
  intro l v h
  unfold powG at h
  split at h
  · rename_i a n
    simp only [Option.some.injEq] at h
    subst h
    obtain ⟨s2, r2, e2⟩ := Ru.run_ex (X := X1) (hc := hn) (N := 20) (c := pre 2 c20) (s := ⟨envOf [.int .u8 a, .int .u64 n], []⟩) 5 (by kernel_rfl)
    obtain ⟨s3, r3, e3, e4⟩ := loop20 n.toNat s2 a n 1 (int_lt_two_pow n) (by rw [e2]; kernel_rfl) (by rw [e2]; kernel_rfl) (by rw [e2]; kernel_rfl)
    have e4 : s3.env 5 = some (.int .u8 (powS a n)) := e4
    obtain ⟨s4, r4, e5⟩ := Ru.run_ret_ex (X := X1) (hc := hn) (N := 20) (c := post 3 c20) (s := ⟨s3.env.set 5 (some (.int .u8 (powS a n))), s3.heap⟩) 5 (by kernel_rfl)
    rw [← St.said1 e4] at r4
    exact PCall.of_ru (X := X1) (hc := hn) (c := c20) (x := .ret) (s' := s4) mixed (OrcOK.of_tbl T1_ok) HOK.none Try.func20 (by kernel_rfl) (by kernel_rfl) (by kernel_rfl) (Ru.cut 2 r2 (.seq (.block_out r3) r4)) (by simp) (by rw [e5]; kernel_rfl) rfl rfl
  · cases h

/-! ### the rest of gf: no loop hangs on a value -/
def T2 : Tbl := (20, powG) :: T1
theorem T2_ok : ∀ p ∈ T2, Con Try.prog p.1 p.2 := Cons.cons pow_con T1_ok
def invS (a : Int) : Int := powS a 254
def invG : List Value → Option Value
  | [.int .u8 a] => some (.int .u8 (invS a))
  | _ => none
theorem inv_con : Con Try.prog 22 invG := by
  intro l v h
  unfold invG at h
  split at h
  · rename_i a
    simp only [Option.some.injEq] at h; subst h
    exact Con.of_val mixed T2_ok 50 1 (by kernel_rfl) rfl rfl
  · cases h
def T3 : Tbl := (22, invG) :: T2
theorem T3_ok : ∀ p ∈ T3, Con Try.prog p.1 p.2 := Cons.cons inv_con T2_ok
def bo (a b : Int) : Int := IntKind.u8.wrap (BitVec.ofInt 8 a ||| BitVec.ofInt 8 b).toNat
/-- turned round to the left, by n bits -/
def rotS (a : Int) (n : Nat) : Int := bo (IntKind.u8.wrap (a * 2 ^ n)) (a.fdiv (2 ^ (8 - n)))
def subS (a : Int) : Int := bx (bx (bx (bx (bx 99 (invS a)) (rotS (invS a) 1)) (rotS (invS a) 2)) (rotS (invS a) 3)) (rotS (invS a) 4)
def subG : List Value → Option Value
  | [.int .u8 a] => some (.int .u8 (subS a))
  | _ => none
theorem sub_con : Con Try.prog 26 subG := by
  intro l v h
  unfold subG at h
  split at h
  · rename_i a
    simp only [Option.some.injEq] at h; subst h
    exact Con.of_val mixed T3_ok 50 2 (by kernel_rfl) rfl rfl
  · cases h
def unsubS (a : Int) : Int := invS (bx (bx (rotS (bx a 99) 1) (rotS (bx a 99) 3)) (rotS (bx a 99) 6))
def unsubG : List Value → Option Value
  | [.int .u8 a] => some (.int .u8 (unsubS a))
  | _ => none
theorem unsub_con : Con Try.prog 25 unsubG := by
  intro l v h
  unfold unsubG at h
  split at h
  · rename_i a
    simp only [Option.some.injEq] at h; subst h
    exact Con.of_val mixed T3_ok 50 2 (by kernel_rfl) rfl rfl
  · cases h
end
end Go.Proofs.Ytbdggonpjndpiaa
