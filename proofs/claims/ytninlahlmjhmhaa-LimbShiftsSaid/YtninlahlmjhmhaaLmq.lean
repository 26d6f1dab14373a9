import Derived.Test.YtninlahlmjhmhaaLmp
import Derived.Test.YtninlahlmjhmhaaLmi
namespace Go.Proofs.Ytninlahlmjhmhaa
open Go.Ab

theorem blen_le {x k : Nat} : blen x ≤ k ↔ x < 2 ^ k := by
  unfold blen
  by_cases h : x = 0
  · subst h; simp; exact Nat.two_pow_pos k
  · rw [if_neg h]
    exact Nat.log2_lt h
theorem blen_div (x n : Nat) : blen (x / 2 ^ n) = blen x - n := by
  by_cases h : 2 ^ n ≤ x
  · have := blen_shift h; omega
  · have h1 : x / 2 ^ n = 0 := Nat.div_eq_of_lt (by omega)
    have h2 : blen x ≤ n := blen_le.2 (by omega)
    rw [h1, blen_zero]; omega
theorem shiftN_up (V m : Nat) (hm : m ≤ 255) : shiftN V (m : Int) = V * 2 ^ m := by
  unfold shiftN
  rw [if_neg (by omega), if_neg (by omega), if_pos (by omega), Int.toNat_natCast]; rfl
theorem shiftN_dn (V m : Nat) (hm : m ≤ 255) : shiftN V (IntKind.i64.wrap (0 - (m : Int))) = V / 2 ^ m := by
  rw [IntWalk.i64_in _ (by omega)]
  unfold shiftN
  by_cases h : m = 0
  · subst h
    rw [if_neg (by omega), if_neg (by omega), if_pos (by omega)]; simp [upN]
  · rw [if_neg (by omega), if_neg (by omega), if_neg (by omega)]
    have : (-(0 - (m : Int))).toNat = m := by omega
    rw [this]; rfl

@[reducible] noncomputable def X12 : Cx := cx Try.prog T12
noncomputable def c10 : Code := match Try.f10.body with | some c => c | none => .skip
def o10 : List Nat := [0, 1, 2, 3, 4, 5, 6, 7, 8, 9, 10]
def o10' : List Nat := [0, 1, 2, 3, 4, 5, 6, 8, 7, 9, 10]
noncomputable def s10a (a : Nat) (n : Int) : St := St.of3 (runCT X12 hn 68 30 (tkB [(8, decide (n < 0), false), (11, decide (n > 255), false)]) (pre 2 c10) ⟨envOf [numV a, .int .i64 n], []⟩) ⟨envOf [numV a, .int .i64 n], []⟩
noncomputable def s10 (a : Nat) (n : Int) (L : List Nat) : St := St.of (runIx X12 hn (opsOf (headC (post 2 c10))) 68 L (s10a a n)) (s10a a n)
def t10 (a : Nat) (n : Int) : List (Nat × Bool × Bool) :=
  [(31, !eq4 (shiftN (vlS a) n) (vlS a * vlS (shiftN (vl 1 0 0 0) n)), false),
   (38, eq4 (shiftN (vlS (shiftN (vlS a) n)) (IntKind.i64.wrap (0 - n))) a, eq4 (shiftN (vlS (shiftN (vlS a) n)) (IntKind.i64.wrap (0 - n))) a)]
theorem run10 (a : Nat) (n : Int) (u : Bool) (L : List Nat) (hL : L = o10 ∨ L = o10')
    (f1 : eq4 (shiftN (vlS a) n) (vlS a * vlS (shiftN (vl 1 0 0 0) n)) = true)
    (f2 : eq4 (shiftN (vlS (shiftN (vlS a) n)) (IntKind.i64.wrap (0 - n))) a = u) (f3 : decide (IntKind.i64.wrap (((blen (vlS a) : Nat) : Int) + n) ≤ 256) = u)
    (f4 : decide (cmpI (vlS (shiftN (vlS a) (IntKind.i64.wrap (0 - n)))) (vlS a) ≤ 0) = true)
    (f5 : decide (cmpI (vlS (shiftN (vlS (shiftN (vlS a) (IntKind.i64.wrap (0 - n)))) n)) (vlS a) ≤ 0) = true)
    (f6 : (((blen (vlS (shiftN (vlS a) (IntKind.i64.wrap (0 - n)))) : Nat) : Int) == (if IntKind.i64.wrap (((blen (vlS a) : Nat) : Int) - n) > 0 then IntKind.i64.wrap (((blen (vlS a) : Nat) : Int) - n) else 0)) = true) :
    ∃ s', Ru X12 hn 68 (tailC (post 2 c10)) (s10 a n L) .ret s' ∧ aresults X12 Try.f10 s' = some (.bool true) := by
  cases u <;> rcases hL with rfl | rfl
  · obtain ⟨s', r, e⟩ := Ru.tests (X := X12) (hc := hn) (N := 68) (c := tailC (post 2 c10)) (s := s10 a n o10) [(31, !eq4 (shiftN (vlS a) n) (vlS a * vlS (shiftN (vl 1 0 0 0) n)), false), (38, eq4 (shiftN (vlS (shiftN (vlS a) n)) (IntKind.i64.wrap (0 - n))) a, false), (43, decide (IntKind.i64.wrap (((blen (vlS a) : Nat) : Int) + n) ≤ 256), false), (49, decide (cmpI (vlS (shiftN (vlS a) (IntKind.i64.wrap (0 - n)))) (vlS a) ≤ 0), true), (56, decide (cmpI (vlS (shiftN (vlS (shiftN (vlS a) (IntKind.i64.wrap (0 - n)))) n)) (vlS a) ≤ 0), true), (66, ((blen (vlS (shiftN (vlS a) (IntKind.i64.wrap (0 - n)))) : Nat) : Int) == (if IntKind.i64.wrap (((blen (vlS a) : Nat) : Int) - n) > 0 then IntKind.i64.wrap (((blen (vlS a) : Nat) : Int) - n) else 0), true)] 30 (x := .ret) (by kernel_rfl) (tests_cons (not_f f1) (tests_cons f2 (tests_cons f3 (tests_cons f4 (tests_cons f5 (tests_cons f6 tests_nil))))))
    exact ⟨s', r, by rw [e]; kernel_rfl⟩
  · obtain ⟨s', r, e⟩ := Ru.tests (X := X12) (hc := hn) (N := 68) (c := tailC (post 2 c10)) (s := s10 a n o10') [(31, !eq4 (shiftN (vlS a) n) (vlS a * vlS (shiftN (vl 1 0 0 0) n)), false), (38, eq4 (shiftN (vlS (shiftN (vlS a) n)) (IntKind.i64.wrap (0 - n))) a, false), (43, decide (IntKind.i64.wrap (((blen (vlS a) : Nat) : Int) + n) ≤ 256), false), (49, decide (cmpI (vlS (shiftN (vlS a) (IntKind.i64.wrap (0 - n)))) (vlS a) ≤ 0), true), (56, decide (cmpI (vlS (shiftN (vlS (shiftN (vlS a) (IntKind.i64.wrap (0 - n)))) n)) (vlS a) ≤ 0), true), (66, ((blen (vlS (shiftN (vlS a) (IntKind.i64.wrap (0 - n)))) : Nat) : Int) == (if IntKind.i64.wrap (((blen (vlS a) : Nat) : Int) - n) > 0 then IntKind.i64.wrap (((blen (vlS a) : Nat) : Int) - n) else 0), true)] 30 (x := .ret) (by kernel_rfl) (tests_cons (not_f f1) (tests_cons f2 (tests_cons f3 (tests_cons f4 (tests_cons f5 (tests_cons f6 tests_nil))))))
    exact ⟨s', r, by rw [e]; kernel_rfl⟩
  · obtain ⟨s', r, e⟩ := Ru.tests (X := X12) (hc := hn) (N := 68) (c := tailC (post 2 c10)) (s := s10 a n o10) [(31, !eq4 (shiftN (vlS a) n) (vlS a * vlS (shiftN (vl 1 0 0 0) n)), false), (38, eq4 (shiftN (vlS (shiftN (vlS a) n)) (IntKind.i64.wrap (0 - n))) a, true), (43, decide (IntKind.i64.wrap (((blen (vlS a) : Nat) : Int) + n) ≤ 256), true), (49, decide (cmpI (vlS (shiftN (vlS a) (IntKind.i64.wrap (0 - n)))) (vlS a) ≤ 0), true), (56, decide (cmpI (vlS (shiftN (vlS (shiftN (vlS a) (IntKind.i64.wrap (0 - n)))) n)) (vlS a) ≤ 0), true), (66, ((blen (vlS (shiftN (vlS a) (IntKind.i64.wrap (0 - n)))) : Nat) : Int) == (if IntKind.i64.wrap (((blen (vlS a) : Nat) : Int) - n) > 0 then IntKind.i64.wrap (((blen (vlS a) : Nat) : Int) - n) else 0), true)] 30 (x := .ret) (by kernel_rfl) (tests_cons (not_f f1) (tests_cons f2 (tests_cons f3 (tests_cons f4 (tests_cons f5 (tests_cons f6 tests_nil))))))
    exact ⟨s', r, by rw [e]; kernel_rfl⟩
  · obtain ⟨s', r, e⟩ := Ru.tests (X := X12) (hc := hn) (N := 68) (c := tailC (post 2 c10)) (s := s10 a n o10') [(31, !eq4 (shiftN (vlS a) n) (vlS a * vlS (shiftN (vl 1 0 0 0) n)), false), (38, eq4 (shiftN (vlS (shiftN (vlS a) n)) (IntKind.i64.wrap (0 - n))) a, true), (43, decide (IntKind.i64.wrap (((blen (vlS a) : Nat) : Int) + n) ≤ 256), true), (49, decide (cmpI (vlS (shiftN (vlS a) (IntKind.i64.wrap (0 - n)))) (vlS a) ≤ 0), true), (56, decide (cmpI (vlS (shiftN (vlS (shiftN (vlS a) (IntKind.i64.wrap (0 - n)))) n)) (vlS a) ≤ 0), true), (66, ((blen (vlS (shiftN (vlS a) (IntKind.i64.wrap (0 - n)))) : Nat) : Int) == (if IntKind.i64.wrap (((blen (vlS a) : Nat) : Int) - n) > 0 then IntKind.i64.wrap (((blen (vlS a) : Nat) : Int) - n) else 0), true)] 30 (x := .ret) (by kernel_rfl) (tests_cons (not_f f1) (tests_cons f2 (tests_cons f3 (tests_cons f4 (tests_cons f5 (tests_cons f6 tests_nil))))))
    exact ⟨s', r, by rw [e]; kernel_rfl⟩

theorem shifts_call (a : Nat) (n : Int) : WCall Try.prog 10 [numV a, .int .i64 n] (.bool true) := by
  have ha := vlS_lt a
  have z : eq4 (shiftN (vlS a) 0) a = true := by
    have h := shiftN_up (vlS a) 0 (by omega)
    rw [Nat.pow_zero, Nat.mul_one] at h
    have h : shiftN (vlS a) 0 = vlS a := h
    exact eq4_tt (by rw [h, vlS_of ha])
  by_cases g1 : n < 0
  · exact WCall.of_tests mixed T12_ok 30 1 [(8, decide (n < 0), true), (16, eq4 (shiftN (vlS a) 0) a, true)] (by kernel_rfl) (tests_cons (dec_t g1) (tests_cons z tests_nil)) rfl rfl
  by_cases g2 : n > 255
  · exact WCall.of_tests mixed T12_ok 30 1 [(8, decide (n < 0), false), (11, decide (n > 255), true), (16, eq4 (shiftN (vlS a) 0) a, true)] (by kernel_rfl) (tests_cons (dec_f g1) (tests_cons (dec_t g2) (tests_cons z tests_nil))) rfl rfl
  obtain ⟨s1, r1, e1⟩ := Ru.tests (X := X12) (hc := hn) (N := 68) (c := pre 2 c10) (s := ⟨envOf [numV a, .int .i64 n], []⟩) [(8, decide (n < 0), false), (11, decide (n > 255), false)] 30 (x := .normal) (by kernel_rfl) (tests_cons (dec_f g1) (tests_cons (dec_f g2) tests_nil))
  obtain ⟨m, hm, rfl⟩ : ∃ m : Nat, m ≤ 255 ∧ n = (m : Int) := ⟨n.toNat, by omega, by omega⟩
  have hd : ∀ V, shiftN V (IntKind.i64.wrap (0 - (m : Int))) = V / 2 ^ m := fun V => shiftN_dn V m hm
  have hu : ∀ V, shiftN V (m : Int) = V * 2 ^ m := fun V => shiftN_up V m hm
  have hpow : 2 ^ m * 2 ^ (256 - m) = 2 ^ 256 := by rw [← Nat.pow_add]; congr 1; omega
  have hmp : 0 < 2 ^ m := Nat.two_pow_pos m
  have hmlt : 2 ^ m < 2 ^ 256 := Nat.pow_lt_pow_right (by omega) (by omega)
  have hdn : vlS (vlS a / 2 ^ m) = vlS a / 2 ^ m := vlS_of (Nat.lt_of_le_of_lt (Nat.div_le_self _ _) ha)
  have hbl : blen (vlS a) ≤ 256 := blen_le.2 ha
  have key : (vlS (vlS a * 2 ^ m) / 2 ^ m = vlS a) ↔ blen (vlS a) + m ≤ 256 := by
    rw [vlS_eq (vlS a * 2 ^ m)]
    have e : vlS a * 2 ^ m % 2 ^ 256 = 2 ^ m * (vlS a % 2 ^ (256 - m)) := by rw [← hpow, Nat.mul_comm (vlS a), Nat.mul_mod_mul_left]
    rw [e, Nat.mul_div_cancel_left _ hmp]
    constructor
    · intro h
      have h1 : vlS a < 2 ^ (256 - m) := by rw [← h]; exact Nat.mod_lt _ (Nat.two_pow_pos _)
      have := blen_le.2 h1; omega
    · intro h
      exact Nat.mod_eq_of_lt (blen_le.1 (by omega))
  have f1 : eq4 (shiftN (vlS a) (m : Int)) (vlS a * vlS (shiftN (vl 1 0 0 0) (m : Int))) = true := by
    rw [hu, hu, vl_one, Nat.one_mul, vlS_of hmlt]
    exact eq4_tt rfl
  have f3 : decide (IntKind.i64.wrap (((blen (vlS a) : Nat) : Int) + (m : Int)) ≤ 256) = decide (blen (vlS a) + m ≤ 256) := by
    rw [IntWalk.i64_in _ (by omega)]
    exact decide_eq_decide.2 (by omega)
  have f2 : eq4 (shiftN (vlS (shiftN (vlS a) (m : Int))) (IntKind.i64.wrap (0 - (m : Int)))) a = decide (blen (vlS a) + m ≤ 256) := by
    rw [hd, hu]
    have hlt : vlS (vlS a * 2 ^ m) / 2 ^ m < 2 ^ 256 := Nat.lt_of_le_of_lt (Nat.div_le_self _ _) (vlS_lt _)
    by_cases h : blen (vlS a) + m ≤ 256
    · rw [dec_t h]; exact eq4_tt (by rw [vlS_of hlt]; exact key.2 h)
    · rw [dec_f h]; exact eq4_ff (by rw [vlS_of hlt]; exact fun e => h (key.1 e))
  have f4 : decide (cmpI (vlS (shiftN (vlS a) (IntKind.i64.wrap (0 - (m : Int))))) (vlS a) ≤ 0) = true := by
    rw [hd, hdn]
    have := Nat.div_le_self (vlS a) (2 ^ m)
    rcases cmpI_cases (vlS a / 2 ^ m) (vlS a) with ⟨h, e⟩ | ⟨h, e⟩ | ⟨h, e⟩
    · rw [e]; rfl
    · omega
    · rw [e]; rfl
  have f5 : decide (cmpI (vlS (shiftN (vlS (shiftN (vlS a) (IntKind.i64.wrap (0 - (m : Int))))) (m : Int))) (vlS a) ≤ 0) = true := by
    rw [hd, hdn, hu]
    have h1 := Nat.div_mul_le_self (vlS a) (2 ^ m)
    rw [vlS_of (Nat.lt_of_le_of_lt h1 ha)]
    rcases cmpI_cases (vlS a / 2 ^ m * 2 ^ m) (vlS a) with ⟨h, e⟩ | ⟨h, e⟩ | ⟨h, e⟩
    · rw [e]; rfl
    · omega
    · rw [e]; rfl
  have f6 : (((blen (vlS (shiftN (vlS a) (IntKind.i64.wrap (0 - (m : Int))))) : Nat) : Int) == (if IntKind.i64.wrap (((blen (vlS a) : Nat) : Int) - (m : Int)) > 0 then IntKind.i64.wrap (((blen (vlS a) : Nat) : Int) - (m : Int)) else 0)) = true := by
    rw [hd, hdn, blen_div, IntWalk.i64_in _ (by omega)]
    apply eqi
    split <;> omega
  obtain ⟨s2, r2, v2⟩ := run10 a m _ o10 (.inl rfl) f1 f2 f3 f4 f5 f6
  obtain ⟨s3, r3, v3⟩ := run10 a m _ o10' (.inr rfl) f1 f2 f3 f4 f5 f6
  subst e1
  exact WCall.of_sem (t := T12) (c := c10) Try.func10 (by kernel_rfl) (by kernel_rfl) (by kernel_rfl) (SemW.cut mixed T12_ok 2 (by kernel_rfl) r1
    (SemW.fork_at mixed T12_ok 7 8 o10 o10' (by kernel_rfl) (by kernel_rfl) (by kernel_rfl) (by kernel_rfl) (by kernel_rfl) (by kernel_rfl) (by kernel_rfl) (by kernel_rfl)
      (.of_ru mixed T12_ok r2 ⟨by simp, v2⟩) (.of_ru mixed T12_ok r3 ⟨by simp, v3⟩))) T12_ok rfl rfl (.of_cell rfl)
end Go.Proofs.Ytninlahlmjhmhaa
