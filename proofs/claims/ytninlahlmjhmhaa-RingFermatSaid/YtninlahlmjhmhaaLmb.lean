import Derived.Test.YtninlahlmjhmhaaLma
namespace Go.Proofs.Ytninlahlmjhmhaa
open Go.Ab

def vlS (a : Nat) : Nat := vl (w64 a 0) (w64 a 1) (w64 a 2) (w64 a 3)
def addN (a b : Nat) : Nat := vlS a + vlS b
def subN (a b : Nat) : Nat := vlS a + 2 ^ 256 - vlS b
def ltN (a b : Nat) : Nat := if vlS a < vlS b then 1 else 0
def eq4 (a b : Nat) : Bool := w64 a 0 == w64 b 0 && (w64 a 1 == w64 b 1 && (w64 a 2 == w64 b 2 && (w64 a 3 == w64 b 3 && true)))

theorem vlS_eq (a : Nat) : vlS a = a % 2 ^ 256 := by
  unfold vlS vl w64
  simp only [Int.toNat_natCast]
  omega
theorem vlS_lt (a : Nat) : vlS a < 2 ^ 256 := by rw [vlS_eq]; exact Nat.mod_lt _ (by omega)
theorem vlS_of {a : Nat} (h : a < 2 ^ 256) : vlS a = a := by rw [vlS_eq, Nat.mod_eq_of_lt h]
theorem w64_inj {a b : Nat} (h0 : w64 a 0 = w64 b 0) (h1 : w64 a 1 = w64 b 1) (h2 : w64 a 2 = w64 b 2) (h3 : w64 a 3 = w64 b 3) : vlS a = vlS b := by
  unfold vlS; rw [h0, h1, h2, h3]
theorem w64_mod (a i : Nat) (hi : i < 4) : w64 (a % 2 ^ 256) i = w64 a i := by
  have : i = 0 ∨ i = 1 ∨ i = 2 ∨ i = 3 := by omega
  unfold w64
  rcases this with rfl | rfl | rfl | rfl <;> (congr 1; omega)
theorem w64_congr {a b : Nat} (h : vlS a = vlS b) (i : Nat) (hi : i < 4) : w64 a i = w64 b i := by
  rw [vlS_eq, vlS_eq] at h
  rw [← w64_mod a i hi, ← w64_mod b i hi, h]
theorem eq4_tt {a b : Nat} (h : vlS a = vlS b) : eq4 a b = true := by
  unfold eq4
  simp [w64_congr h 0, w64_congr h 1, w64_congr h 2, w64_congr h 3]
theorem eq4_ff {a b : Nat} (h : vlS a ≠ vlS b) : eq4 a b = false := by
  cases he : eq4 a b with
  | false => rfl
  | true =>
    unfold eq4 at he
    simp only [Bool.and_eq_true, beq_iff_eq] at he
    exact absurd (w64_inj he.1 he.2.1 he.2.2.1 he.2.2.2.1) h
theorem eqi {a b : Int} (h : a = b) : (a == b) = true := by simpa using h
theorem numV_congr {a b : Nat} (h : vlS a = vlS b) : numV a = numV b := by
  unfold numV; rw [w64_congr h 0 (by omega), w64_congr h 1 (by omega), w64_congr h 2 (by omega), w64_congr h 3 (by omega)]

def T1 : Tbl := (21, addG) :: (22, subG) :: T0
theorem T1_ok : ∀ p ∈ T1, WCon Try.prog p.1 p.2 := WCons.cons add_con (WCons.cons sub_con T0_ok)

theorem back_call (a b : Nat) : WCall Try.prog 3 [numV a, numV b] (.bool true) := by
  have ha := vlS_lt a
  have hb := vlS_lt b
  have f1 : vlS (subN (addN a b) b) = vlS a := by
    rw [vlS_eq]; unfold subN; rw [vlS_eq (addN a b)]; unfold addN
    generalize vlS a = x at *; generalize vlS b = y at *
    omega
  have f2 : ((ltN (addN a b) b : Nat) : Int) = ((addN a b / 2 ^ 256 : Nat) : Int) := by
    unfold ltN; rw [vlS_eq (addN a b)]; unfold addN
    generalize vlS a = x at *; generalize vlS b = y at *
    split <;> omega
  have f3 : vlS (addN (subN a b) b) = vlS a := by
    rw [vlS_eq]; unfold addN; rw [vlS_eq (subN a b)]; unfold subN
    generalize vlS a = x at *; generalize vlS b = y at *
    omega
  have f4 : ((addN (subN a b) b / 2 ^ 256 : Nat) : Int) = ((ltN a b : Nat) : Int) := by
    unfold ltN addN; rw [vlS_eq (subN a b)]; unfold subN
    generalize vlS a = x at *; generalize vlS b = y at *
    split <;> omega
  have f5 : ((addN a b / 2 ^ 256 : Nat) : Int) ≤ 1 := by
    unfold addN
    generalize vlS a = x at *; generalize vlS b = y at *
    omega
  have f6 : ((ltN a b : Nat) : Int) ≤ 1 := by unfold ltN; split <;> omega
  exact WCall.of_tests mixed T1_ok 20 1 [(39, eq4 (subN (addN a b) b) a, true), (43, ((ltN (addN a b) b : Nat) : Int) == ((addN a b / 2 ^ 256 : Nat) : Int), true), (48, eq4 (addN (subN a b) b) a, true),
    (53, ((addN (subN a b) b / 2 ^ 256 : Nat) : Int) == ((ltN a b : Nat) : Int), true), (57, decide (((addN a b / 2 ^ 256 : Nat) : Int) ≤ 1), true), (61, decide (((ltN a b : Nat) : Int) ≤ 1), true)] (by kernel_rfl)
    (tests_cons (eq4_tt f1) (tests_cons (eqi f2) (tests_cons (eq4_tt f3) (tests_cons (eqi f4) (tests_cons (dec_t f5) (tests_cons (dec_t f6) tests_nil)))))) rfl rfl

def limbsG : List Value → Option Value
  | [] => some (.bool true)
  | _ => none
theorem limbs_con : WCon Try.prog 30 limbsG := by
  intro l v h
  unfold limbsG at h
  split at h
  · injection h with h; subst h
    exact WCall.of_val mixed T1_ok 60 4 (by kernel_rfl) rfl rfl
  · cases h
def T2 : Tbl := (30, limbsG) :: T1
theorem T2_ok : ∀ p ∈ T2, WCon Try.prog p.1 p.2 := WCons.cons limbs_con T1_ok

theorem sums_call (a b c : Nat) : WCall Try.prog 6 [numV a, numV b, numV c] (.bool true) := by
  have ha := vlS_lt a
  have hb := vlS_lt b
  have hc := vlS_lt c
  have f1 : vlS (addN a b) = vlS (addN b a) := by unfold addN; rw [Nat.add_comm]
  have f2 : ((addN a b / 2 ^ 256 : Nat) : Int) = ((addN b a / 2 ^ 256 : Nat) : Int) := by unfold addN; rw [Nat.add_comm]
  have f3 : vlS (addN (addN a b) c) = vlS (addN a (addN b c)) := by
    rw [vlS_eq, vlS_eq]; unfold addN; rw [vlS_eq (vlS a + vlS b), vlS_eq (vlS b + vlS c)]
    generalize vlS a = x at *; generalize vlS b = y at *; generalize vlS c = z at *
    omega
  have f4 : IntKind.u64.wrap (((addN a b / 2 ^ 256 : Nat) : Int) + ((addN (addN a b) c / 2 ^ 256 : Nat) : Int)) = IntKind.u64.wrap (((addN b c / 2 ^ 256 : Nat) : Int) + ((addN a (addN b c) / 2 ^ 256 : Nat) : Int)) := by
    congr 1
    unfold addN; rw [vlS_eq (vlS a + vlS b), vlS_eq (vlS b + vlS c)]
    generalize vlS a = x at *; generalize vlS b = y at *; generalize vlS c = z at *
    omega
  exact WCall.of_tests mixed T2_ok 20 1 [(51, eq4 (addN a b) (addN b a), true), (55, ((addN a b / 2 ^ 256 : Nat) : Int) == ((addN b a / 2 ^ 256 : Nat) : Int), true), (60, eq4 (addN (addN a b) c) (addN a (addN b c)), true),
    (69, IntKind.u64.wrap (((addN a b / 2 ^ 256 : Nat) : Int) + ((addN (addN a b) c / 2 ^ 256 : Nat) : Int)) == IntKind.u64.wrap (((addN b c / 2 ^ 256 : Nat) : Int) + ((addN a (addN b c) / 2 ^ 256 : Nat) : Int)), true)] (by kernel_rfl)
    (tests_cons (eq4_tt f1) (tests_cons (eqi f2) (tests_cons (eq4_tt f3) (tests_cons (eqi f4) tests_nil)))) rfl rfl
theorem num_of {zs : List Int} (hl : zs.length = 4) (hw : ∀ z ∈ zs, (Lit.int .u64 z).wf = true) : ∃ n, n < 2 ^ 256 ∧ (.agg ⟨zs.map (.int .u64)⟩ : Value) = numV n := by
  match zs, hl with
  | [a, b, c, d], _ =>
    obtain ⟨x0, h0, rfl⟩ := of_u64 (wfcB_lit (hw a (by simp)))
    obtain ⟨x1, h1, rfl⟩ := of_u64 (wfcB_lit (hw b (by simp)))
    obtain ⟨x2, h2, rfl⟩ := of_u64 (wfcB_lit (hw c (by simp)))
    obtain ⟨x3, h3, rfl⟩ := of_u64 (wfcB_lit (hw d (by simp)))
    have hV : vl x0 x1 x2 x3 = x0 + 2 ^ 64 * x1 + 2 ^ 128 * x2 + 2 ^ 192 * x3 + 2 ^ 256 * 0 := by unfold vl; simp only [Int.toNat_natCast]; omega
    obtain ⟨r0, r1, r2, r3⟩ := words4 h0 h1 h2 h3 hV
    refine ⟨vl x0 x1 x2 x3, by rw [hV]; omega, ?_⟩
    unfold numV
    rw [← r0, ← r1, ← r2, ← r3]
    rfl
end Go.Proofs.Ytninlahlmjhmhaa
