import Derived.Test.YtbdggonpjndpiaaGfo
import Derived.Test.YtbdggonpjndpiaaAbTests
import Derived.IntWalk
namespace Go.Proofs.Ytbdggonpjndpiaa
open Go.Ab

@[reducible] noncomputable def X2 : Cx := cx Try.prog T2
noncomputable def c3 : Code := match Try.f3.body with | some c => c | none => .skip
noncomputable def l3 : Code := cl (cr (cl (cr (cr (cr c3)))))

/-- a round that finds no power -/
theorem round3 (s : St) (a : Int) (n : Nat) (hn1 : n < 255) (h0 : s.env 0 = some (.int .u8 a)) (h7 : s.env 7 = some (.int .u64 n)) (h6 : s.env 6 = some (.bool false)) (hne : powS 3 n ≠ a) :
    ∃ s1, Ru X2 hn 48 (cl l3) s .normal s1 ∧ s1.heap = s.heap ∧ s1.env 0 = some (.int .u8 a) ∧ s1.env 7 = some (.int .u64 (n + 1 : Nat)) ∧ s1.env 6 = some (.bool false) := by
  rw [St.said3 h0 h7 h6]
  obtain ⟨s1, r1, e1⟩ := Ru.tests (X := X2) (hc := hn) (N := 48) (c := cl l3) (s := ⟨((s.env.set 0 (some (.int .u8 a))).set 7 (some (.int .u64 n))).set 6 (some (.bool false)), s.heap⟩) [(37, decide ((n : Int) < 255), true), (43, powS 3 n == a, false)] 12 (x := .normal) (by kernel_rfl) (tests_cons (dec_t (by omega)) (tests_cons (eq_ff hne) tests_nil))
  have hw : IntKind.u64.wrap ((n : Int) + 1) = ((n + 1 : Nat) : Int) := by rw [IntWalk.u64_in _ (by omega)]; omega
  have h : s1.env 7 = some (.int .u64 (IntKind.u64.wrap ((n : Int) + 1))) := by rw [e1]; kernel_rfl
  rw [hw] at h
  exact ⟨s1, r1, by rw [e1]; kernel_rfl, by rw [e1]; kernel_rfl, h, by rw [e1]; kernel_rfl⟩
/-- the round that finds it -/
theorem found3 (s : St) (a : Int) (n : Nat) (hn1 : n < 255) (h0 : s.env 0 = some (.int .u8 a)) (h7 : s.env 7 = some (.int .u64 n)) (he : powS 3 n = a) (ha : a ≠ 0) (h6 : s.env 6 = some (.bool false)) :
    ∃ s1, Ru X2 hn 48 (cl l3) s .ret s1 ∧ s1.heap = s.heap ∧ s1.env 6 = some (.bool true) := by
  rw [St.said3 h0 h7 h6]
  obtain ⟨s1, r1, e1⟩ := Ru.tests (X := X2) (hc := hn) (N := 48) (c := cl l3) (s := ⟨((s.env.set 0 (some (.int .u8 a))).set 7 (some (.int .u64 n))).set 6 (some (.bool false)), s.heap⟩) [(37, decide ((n : Int) < 255), true), (43, powS 3 n == a, true), (45, a != 0, true)] 12 (x := .ret) (by kernel_rfl) (tests_cons (dec_t (by omega)) (tests_cons (eq_tt he) (tests_cons (ne_tt ha) tests_nil)))
  exact ⟨s1, r1, by rw [e1]; kernel_rfl, by rw [e1]; kernel_rfl⟩
theorem pow3_nat {n : Nat} (h : n < 2 ^ 64) : powS 3 n = (npow 3 n : Nat) := powS_nat (a := 3) (n := n) (by omega) h

theorem none3 (k : Nat) : ∀ (s : St) (n : Nat), n + k = 255 → s.env 0 = some (.int .u8 0) → s.env 7 = some (.int .u64 n) → s.env 6 = some (.bool false) →
    ∃ s1, Ru X2 hn 48 l3 s (.exit 0) s1 ∧ s1.heap = s.heap ∧ s1.env 0 = some (.int .u8 0) := by
  induction k with
  | zero =>
    intro s n hk h0 h7 _
    rw [St.said2 h0 h7]
    obtain ⟨s1, r1, e1⟩ := Ru.tests (X := X2) (hc := hn) (N := 48) (c := cl l3) (s := ⟨(s.env.set 0 (some (.int .u8 0))).set 7 (some (.int .u64 n)), s.heap⟩) [(37, decide ((n : Int) < 255), false)] 12 (x := .exit 0) (by kernel_rfl) (tests_cons (dec_f (by omega)) tests_nil)
    exact ⟨s1, .loop_exit r1, by rw [e1]; kernel_rfl, by rw [e1]; kernel_rfl⟩
  | succ k ih =>
    intro s n hk h0 h7 h6
    have hne : powS 3 n ≠ 0 := by
      rw [pow3_nat (by omega)]
      have := pow3_ne n
      omega
    obtain ⟨s1, r1, g1, g2, g3, g4⟩ := round3 s 0 n (by omega) h0 h7 h6 hne
    obtain ⟨s2, r2, k1, k2⟩ := ih s1 (n + 1) (by omega) g2 g3 g4
    exact ⟨s2, .loop r1 r2, k1.trans g1, k2⟩

theorem some3 (a : Int) (ha : a ≠ 0) (m : Nat) (hm : m < 255) (hp : powS 3 m = a) (k : Nat) : ∀ (s : St) (n : Nat), n + k = m → s.env 0 = some (.int .u8 a) → s.env 7 = some (.int .u64 n) → s.env 6 = some (.bool false) →
    ∃ s1, Ru X2 hn 48 l3 s .ret s1 ∧ s1.heap = s.heap ∧ s1.env 6 = some (.bool true) := by
  induction k with
  | zero =>
    intro s n hk h0 h7 h6
    obtain rfl : n = m := by omega
    obtain ⟨s1, r1, g1, g2⟩ := found3 s a n hm h0 h7 hp ha h6
    exact ⟨s1, .loop_ret r1, g1, g2⟩
  | succ k ih =>
    intro s n hk h0 h7 h6
    by_cases hne : powS 3 n = a
    · obtain ⟨s1, r1, g1, g2⟩ := found3 s a n (by omega) h0 h7 hne ha h6
      exact ⟨s1, .loop_ret r1, g1, g2⟩
    · obtain ⟨s1, r1, g1, g2, g3, g4⟩ := round3 s a n (by omega) h0 h7 h6 hne
      obtain ⟨s2, r2, k1, k2⟩ := ih s1 (n + 1) (by omega) g2 g3 g4
      exact ⟨s2, .loop r1 r2, k1.trans g1, k2⟩

theorem powers_call (a i j : Nat) (ha : a < 256) (hi : i < 2 ^ 64) (hj : j < 2 ^ 64) : PCall (cx Try.prog []) 3 [.int .u8 a, .int .u64 i, .int .u64 j] (.bool true) := by
  by_cases h1 : (i : Int) > 2147483648
  · exact Con.of_tests mixed T2_ok 20 1 [(9, decide ((i : Int) > 2147483648), true)] (by kernel_rfl) (tests_cons (dec_t h1) tests_nil) rfl rfl
  by_cases h2 : (j : Int) > 2147483648
  · exact Con.of_tests mixed T2_ok 20 1 [(9, decide ((i : Int) > 2147483648), false), (12, decide ((j : Int) > 2147483648), true)] (by kernel_rfl) (tests_cons (dec_f h1) (tests_cons (dec_t h2) tests_nil)) rfl rfl
  have f1 : powS a (IntKind.u64.wrap ((i : Int) + j)) = mulS (powS a i) (powS a j) := by
    have hw : IntKind.u64.wrap ((i : Int) + j) = ((i + j : Nat) : Int) := by rw [IntWalk.u64_in _ (by omega)]; omega
    rw [hw, powS_nat ha (by omega), powS_nat ha hi, powS_nat ha hj, mulS_nat (npow_lt ha _) (npow_lt ha _), npow_add ha]
  by_cases h0 : a = 0
  · subst h0
    obtain ⟨s1, r1, e1⟩ := Ru.tests (X := X2) (hc := hn) (N := 48) (c := pre 3 c3) (s := ⟨envOf [.int .u8 ((0 : Nat) : Int), .int .u64 i, .int .u64 j], []⟩) [(9, decide ((i : Int) > 2147483648), false), (12, decide ((j : Int) > 2147483648), false), (26, powS (0 : Nat) (IntKind.u64.wrap ((i : Int) + j)) != mulS (powS (0 : Nat) i) (powS (0 : Nat) j), false), (29, ((0 : Nat) : Int) != 0, false)] 12 (x := .normal) (by kernel_rfl) (tests_cons (dec_f h1) (tests_cons (dec_f h2) (tests_cons (ne_ff f1) (tests_cons (ne_ff rfl) tests_nil))))
    obtain ⟨s2, r2, e2⟩ := Ru.whole (X := X2) (hc := hn) (N := 48) (c := cl (cl (cr (cr (cr c3))))) (s := ⟨((s1.env.set 0 (some (.int .u8 0))).set 6 (some (.bool false))), s1.heap⟩) 5 (x := .normal) (by kernel_rfl)
    rw [← St.said2 (s := s1) (by rw [e1]; kernel_rfl) (by rw [e1]; kernel_rfl)] at r2
    obtain ⟨s3, r3, g1, g2⟩ := none3 255 s2 0 rfl (by rw [e2]; kernel_rfl) (by rw [e2]; kernel_rfl) (by rw [e2]; kernel_rfl)
    obtain ⟨s4, r4, e4⟩ := Ru.whole (X := X2) (hc := hn) (N := 48) (c := post 4 c3) (s := ⟨s3.env.set 0 (some (.int .u8 0)), s3.heap⟩) 5 (x := .ret) (by kernel_rfl)
    rw [← St.said1 g2] at r4
    exact (PCall.of_ru (X := X2) (hc := hn) (c := c3) (x := .ret) (s' := s4) mixed (OrcOK.of_tbl T2_ok) HOK.none Try.func3 (by kernel_rfl) (by kernel_rfl) (by kernel_rfl) (Ru.cut 3 r1 (.seq (.seq r2 (.block_out r3)) r4)) (by simp) (by rw [e4]; kernel_rfl) rfl rfl)
  · obtain ⟨m, hm, hp⟩ := pow3 a ha h0
    have h0' : (a : Int) ≠ 0 := by omega
    have f2 : powS a 255 = 1 := by
      have := powS_nat (n := 255) ha (by omega)
      rw [npow_255 ha h0] at this; exact this
    obtain ⟨s1, r1, e1⟩ := Ru.tests (X := X2) (hc := hn) (N := 48) (c := pre 3 c3) (s := ⟨envOf [.int .u8 a, .int .u64 i, .int .u64 j], []⟩) [(9, decide ((i : Int) > 2147483648), false), (12, decide ((j : Int) > 2147483648), false), (26, powS a (IntKind.u64.wrap ((i : Int) + j)) != mulS (powS a i) (powS a j), false), (29, (a : Int) != 0, true), (33, powS a 255 != 1, false)] 12 (x := .normal) (by kernel_rfl) (tests_cons (dec_f h1) (tests_cons (dec_f h2) (tests_cons (ne_ff f1) (tests_cons (ne_tt h0') (tests_cons (ne_ff f2) tests_nil)))))
    obtain ⟨s2, r2, e2⟩ := Ru.whole (X := X2) (hc := hn) (N := 48) (c := cl (cl (cr (cr (cr c3))))) (s := ⟨((s1.env.set 0 (some (.int .u8 a))).set 6 (some (.bool false))), s1.heap⟩) 5 (x := .normal) (by kernel_rfl)
    rw [← St.said2 (s := s1) (by rw [e1]; kernel_rfl) (by rw [e1]; kernel_rfl)] at r2
    obtain ⟨s3, r3, g1, g2⟩ := some3 a h0' m hm (by rw [pow3_nat (by omega), hp]) m s2 0 (by omega) (by rw [e2]; kernel_rfl) (by rw [e2]; kernel_rfl) (by rw [e2]; kernel_rfl)
    exact PCall.of_ru (X := X2) (hc := hn) (c := c3) (x := .ret) (s' := s3) mixed (OrcOK.of_tbl T2_ok) HOK.none Try.func3 (by kernel_rfl) (by kernel_rfl) (by kernel_rfl) (Ru.cut 3 r1 (.seq_ret (.seq r2 (.block_ret r3)))) (by simp) (by rw [St.said1 g2]; kernel_rfl) rfl rfl
end Go.Proofs.Ytbdggonpjndpiaa
