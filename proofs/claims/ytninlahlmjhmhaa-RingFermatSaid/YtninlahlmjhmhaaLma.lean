import Derived.Test.YtninlahlmjhmhaaAbB
import Derived.Test.YtninlahlmjhmhaaProg
import Derived.Laws.Externs
namespace Go.Proofs.Ytninlahlmjhmhaa
open Go.Ab

theorem mixed : Try.prog.follows .mixedOrders = true := by kernel_rfl

/-- a word of a number -/
def w64 (n i : Nat) : Int := ((n / 2 ^ (64 * i) % 18446744073709551616 : Nat) : Int)
/-- a number of 4 words -/
def numV (n : Nat) : Value := .agg ⟨[.int .u64 (w64 n 0), .int .u64 (w64 n 1), .int .u64 (w64 n 2), .int .u64 (w64 n 3)]⟩
/-- a number of 8 words -/
def wideV (n : Nat) : Value := .agg ⟨[.int .u64 (w64 n 0), .int .u64 (w64 n 1), .int .u64 (w64 n 2), .int .u64 (w64 n 3), .int .u64 (w64 n 4), .int .u64 (w64 n 5), .int .u64 (w64 n 6), .int .u64 (w64 n 7)]⟩
/-- what 4 words are worth -/
def vl (a b c d : Int) : Nat := a.toNat + 2 ^ 64 * b.toNat + 2 ^ 128 * c.toNat + 2 ^ 192 * d.toNat
abbrev u64 (n : Nat) : Value := .int .u64 ((n : Nat) : Int)

theorem w64_wf (n i : Nat) : wfcB (.int .u64 (w64 n i)) = true := by
  refine wfcB_int.2 fun _ => ?_
  unfold w64
  have : n / 2 ^ (64 * i) % 18446744073709551616 < 18446744073709551616 := Nat.mod_lt _ (by omega)
  simp [IntKind.max, IntKind.bits, IntKind.signed]; omega
theorem numV_wf (n : Nat) : WfT (numV n) := by
  intro c hc
  simp only [vcells, numV, List.mem_cons, List.not_mem_nil, or_false] at hc
  rcases hc with rfl | rfl | rfl | rfl <;> exact w64_wf _ _
theorem wideV_wf (n : Nat) : WfT (wideV n) := by
  intro c hc
  simp only [vcells, wideV, List.mem_cons, List.not_mem_nil, or_false] at hc
  rcases hc with rfl | rfl | rfl | rfl | rfl | rfl | rfl | rfl <;> exact w64_wf _ _
theorem u64_wf {n : Nat} (h : n < 18446744073709551616) : WfT (u64 n) := by
  refine .of_cell (wfcB_int.2 fun _ => ?_)
  simp [IntKind.max, IntKind.bits, IntKind.signed]; omega
theorem of_u64 {a : Int} (h : wfcB (.int .u64 a) = true) : ∃ n : Nat, n < 18446744073709551616 ∧ a = (n : Int) := by
  have := wfcB_int.1 h rfl
  simp [IntKind.max, IntKind.bits, IntKind.signed] at this
  exact ⟨a.toNat, by omega, by omega⟩

/-! ### what the model stands in for -/
def add64G : List Value → Option Value
  | [.int .u64 x, .int .u64 y, .int .u64 c] => bif c == 0 || c == 1 then some (.tuple ⟨[u64 ((x.toNat + y.toNat + c.toNat) % 18446744073709551616), u64 ((x.toNat + y.toNat + c.toNat) / 18446744073709551616)]⟩) else none
  | _ => none
def sub64G : List Value → Option Value
  | [.int .u64 x, .int .u64 y, .int .u64 c] => bif c == 0 || c == 1 then some (.tuple ⟨[u64 ((x.toNat + 18446744073709551616 - y.toNat - c.toNat) % 18446744073709551616), u64 (if x.toNat < y.toNat + c.toNat then 1 else 0)]⟩) else none
  | _ => none

theorem tup2_wf {a b : Value} (ha : WfV a) (hb : WfV b) : WfT (.tuple ⟨[a, b]⟩) := by
  intro x hx
  simp only [List.mem_cons, List.not_mem_nil, or_false] at hx
  rcases hx with rfl | rfl
  · exact ha
  · exact hb
theorem u64_wfV {n : Nat} (h : n < 18446744073709551616) : WfV (u64 n) := WfV.of_T (u64_wf h) rfl
theorem numV_wfV (n : Nat) : WfV (numV n) := WfV.of_T (numV_wf n) rfl

theorem add64_con : WCon Try.prog 52 add64G := by
  intro l v h hw
  unfold add64G at h
  split at h
  · rename_i x y c
    refine cond_elim' h (fun hc h => ?_)
    injection h with h; subst h
    obtain ⟨x, hx, rfl⟩ := of_u64 (wf_cellof (hw (.int .u64 x) (by simp)))
    obtain ⟨y, hy, rfl⟩ := of_u64 (wf_cellof (hw (.int .u64 y) (by simp)))
    have hc' : c = 0 ∨ c = 1 := by simpa using hc
    obtain ⟨k, hk, rfl⟩ : ∃ k : Nat, k ≤ 1 ∧ c = (k : Int) := by
      rcases hc' with rfl | rfl
      · exact ⟨0, by omega, rfl⟩
      · exact ⟨1, by omega, rfl⟩
    refine WCall.of_ext rfl rfl (fun w => ?_) ?_ hw
    · show (callFunc 52 #[.int .u64 x, .int .u64 y, .int .u64 k]).run Try.prog w = _
      rw [run_callFunc_extern Try.func52 (by kernel_rfl) (by kernel_rfl) (by kernel_rfl) (e := add64Entry) (by kernel_rfl), run_add64 x y k (by omega) (by omega) (by omega) (by omega)]
      simp only [Result.andThen, Int.toNat_natCast]
      congr 5 <;> omega
    · exact tup2_wf (u64_wfV (Nat.mod_lt _ (by omega))) (u64_wfV (by simp only [Int.toNat_natCast]; omega))
  · cases h
def subEntry : Array Value → Sem Value := fun args => do
  let (x, y, b) ← Extern.MathBitsCarry.three "Sub64" args
  pure (Extern.MathBitsCarry.pair ((x + Extern.MathBitsCarry.m64 - y - b) % Extern.MathBitsCarry.m64) (if x < y + b then 1 else 0))
theorem run_sub (x y b : Nat) (hb : b ≤ 1) (w : World) :
    (subEntry #[.int .u64 x, .int .u64 y, .int .u64 b]).run Try.prog w =
      .ok (.tuple #[.int .u64 (((x + 18446744073709551616 - y - b) % 18446744073709551616 : Nat) : Int), .int .u64 ((if x < y + b then 1 else 0 : Nat) : Int)]) w := by
  have : b = 0 ∨ b = 1 := by omega
  rcases this with rfl | rfl <;> rfl
theorem sub64_con : WCon Try.prog 53 sub64G := by
  intro l v h hw
  unfold sub64G at h
  split at h
  · rename_i x y c
    refine cond_elim' h (fun hc h => ?_)
    injection h with h; subst h
    obtain ⟨x, hx, rfl⟩ := of_u64 (wf_cellof (hw (.int .u64 x) (by simp)))
    obtain ⟨y, hy, rfl⟩ := of_u64 (wf_cellof (hw (.int .u64 y) (by simp)))
    have hc' : c = 0 ∨ c = 1 := by simpa using hc
    obtain ⟨k, hk, rfl⟩ : ∃ k : Nat, k ≤ 1 ∧ c = (k : Int) := by
      rcases hc' with rfl | rfl
      · exact ⟨0, by omega, rfl⟩
      · exact ⟨1, by omega, rfl⟩
    refine WCall.of_ext rfl rfl (fun w => ?_) ?_ hw
    · show (callFunc 53 #[.int .u64 x, .int .u64 y, .int .u64 k]).run Try.prog w = _
      rw [run_callFunc_extern Try.func53 (by kernel_rfl) (by kernel_rfl) (by kernel_rfl) (e := subEntry) (by kernel_rfl), run_sub x y k hk]
      rfl
    · exact tup2_wf (u64_wfV (Nat.mod_lt _ (by omega))) (u64_wfV (by split <;> omega))
  · cases h

def T0 : Tbl := [(52, add64G), (53, sub64G)]
theorem T0_ok : ∀ p ∈ T0, WCon Try.prog p.1 p.2 := WCons.cons add64_con (WCons.cons sub64_con WCons.nil)

/-! ### sums and differences -/
def addG : List Value → Option Value
  | [.agg ⟨[.int .u64 a0, .int .u64 a1, .int .u64 a2, .int .u64 a3]⟩, .agg ⟨[.int .u64 b0, .int .u64 b1, .int .u64 b2, .int .u64 b3]⟩] =>
    some (.tuple ⟨[numV (vl a0 a1 a2 a3 + vl b0 b1 b2 b3), u64 ((vl a0 a1 a2 a3 + vl b0 b1 b2 b3) / 2 ^ 256)]⟩)
  | _ => none

theorem bits4 {a0 a1 a2 a3 : Int} (h : WfT (.agg ⟨[.int .u64 a0, .int .u64 a1, .int .u64 a2, .int .u64 a3]⟩)) : ∃ x0 x1 x2 x3 : Nat, x0 < 18446744073709551616 ∧ x1 < 18446744073709551616 ∧ x2 < 18446744073709551616 ∧ x3 < 18446744073709551616 ∧ a0 = x0 ∧ a1 = x1 ∧ a2 = x2 ∧ a3 = x3 := by
  obtain ⟨x0, h0, e0⟩ := of_u64 (h (.int .u64 a0) (by simp [vcells]))
  obtain ⟨x1, h1, e1⟩ := of_u64 (h (.int .u64 a1) (by simp [vcells]))
  obtain ⟨x2, h2, e2⟩ := of_u64 (h (.int .u64 a2) (by simp [vcells]))
  obtain ⟨x3, h3, e3⟩ := of_u64 (h (.int .u64 a3) (by simp [vcells]))
  exact ⟨x0, x1, x2, x3, h0, h1, h2, h3, e0, e1, e2, e3⟩

theorem om {a b : Int} {l : Owe} (h : a = b) (hl : l.met) : Owe.met ((.int .u64 a, .int .u64 b) :: l) := .int h hl
def adT (V c1 c2 c3 : Nat) : Take := [(21, .int .u64 (w64 V 0)), (22, u64 c1), (21, .int .u64 (w64 V 1)), (22, u64 c2), (21, .int .u64 (w64 V 2)), (22, u64 c3), (21, .int .u64 (w64 V 3)), (22, u64 (V / 2 ^ 256))]
theorem add_con : WCon Try.prog 21 addG := by
  intro l v h hw
  unfold addG at h
  split at h
  · rename_i a0 a1 a2 a3 b0 b1 b2 b3
    injection h with h; subst h
    obtain ⟨x0, x1, x2, x3, h0, h1, h2, h3, rfl, rfl, rfl, rfl⟩ := bits4 (hw (.agg ⟨[.int .u64 a0, .int .u64 a1, .int .u64 a2, .int .u64 a3]⟩) (by simp))
    obtain ⟨y0, y1, y2, y3, k0, k1, k2, k3, rfl, rfl, rfl, rfl⟩ := bits4 (hw (.agg ⟨[.int .u64 b0, .int .u64 b1, .int .u64 b2, .int .u64 b3]⟩) (by simp))
    obtain ⟨c1, e1⟩ : ∃ c, c = (x0 + y0) / 18446744073709551616 := ⟨_, rfl⟩
    obtain ⟨c2, e2⟩ : ∃ c, c = (x1 + y1 + c1) / 18446744073709551616 := ⟨_, rfl⟩
    obtain ⟨c3, e3⟩ : ∃ c, c = (x2 + y2 + c2) / 18446744073709551616 := ⟨_, rfl⟩
    have d1 : c1 = 0 ∨ c1 = 1 := by omega
    have d2 : c2 = 0 ∨ c2 = 1 := by omega
    have d3 : c3 = 0 ∨ c3 = 1 := by omega
    have s0 : (((x0 + y0 + 0) % 18446744073709551616 : Nat) : Int) = w64 (vl x0 x1 x2 x3 + vl y0 y1 y2 y3) 0 := by
      unfold w64 vl; simp only [Int.toNat_natCast]; omega
    have s1 : (((x1 + y1 + c1) % 18446744073709551616 : Nat) : Int) = w64 (vl x0 x1 x2 x3 + vl y0 y1 y2 y3) 1 := by
      unfold w64 vl; simp only [Int.toNat_natCast]; omega
    have s2 : (((x2 + y2 + c2) % 18446744073709551616 : Nat) : Int) = w64 (vl x0 x1 x2 x3 + vl y0 y1 y2 y3) 2 := by
      unfold w64 vl; simp only [Int.toNat_natCast]; omega
    have s3 : (((x3 + y3 + c3) % 18446744073709551616 : Nat) : Int) = w64 (vl x0 x1 x2 x3 + vl y0 y1 y2 y3) 3 := by
      unfold w64 vl; simp only [Int.toNat_natCast]; omega
    have s4 : (((x3 + y3 + c3) / 18446744073709551616 : Nat) : Int) = ((vl x0 x1 x2 x3 + vl y0 y1 y2 y3) / 2 ^ 256 : Nat) := by
      unfold vl; simp only [Int.toNat_natCast]; omega
    have t1 : (((x0 + y0 + 0) / 18446744073709551616 : Nat) : Int) = (c1 : Int) := by omega
    have t2 : (((x1 + y1 + c1) / 18446744073709551616 : Nat) : Int) = (c2 : Int) := by omega
    have t3 : (((x2 + y2 + c2) / 18446744073709551616 : Nat) : Int) = (c3 : Int) := by omega
    clear e1 e2 e3
    revert hw
    rcases d1 with rfl | rfl <;> rcases d2 with rfl | rfl <;> rcases d3 with rfl | rfl
    · exact WCall.of_taken mixed T0_ok (adT (vl x0 x1 x2 x3 + vl y0 y1 y2 y3) 0 0 0) 40 1 _ (by kernel_rfl) (om s0 (om t1 (om s1 (om t2 (om s2 (om t3 (om s3 (om s4 .nil)))))))) rfl rfl
    · exact WCall.of_taken mixed T0_ok (adT (vl x0 x1 x2 x3 + vl y0 y1 y2 y3) 0 0 1) 40 1 _ (by kernel_rfl) (om s0 (om t1 (om s1 (om t2 (om s2 (om t3 (om s3 (om s4 .nil)))))))) rfl rfl
    · exact WCall.of_taken mixed T0_ok (adT (vl x0 x1 x2 x3 + vl y0 y1 y2 y3) 0 1 0) 40 1 _ (by kernel_rfl) (om s0 (om t1 (om s1 (om t2 (om s2 (om t3 (om s3 (om s4 .nil)))))))) rfl rfl
    · exact WCall.of_taken mixed T0_ok (adT (vl x0 x1 x2 x3 + vl y0 y1 y2 y3) 0 1 1) 40 1 _ (by kernel_rfl) (om s0 (om t1 (om s1 (om t2 (om s2 (om t3 (om s3 (om s4 .nil)))))))) rfl rfl
    · exact WCall.of_taken mixed T0_ok (adT (vl x0 x1 x2 x3 + vl y0 y1 y2 y3) 1 0 0) 40 1 _ (by kernel_rfl) (om s0 (om t1 (om s1 (om t2 (om s2 (om t3 (om s3 (om s4 .nil)))))))) rfl rfl
    · exact WCall.of_taken mixed T0_ok (adT (vl x0 x1 x2 x3 + vl y0 y1 y2 y3) 1 0 1) 40 1 _ (by kernel_rfl) (om s0 (om t1 (om s1 (om t2 (om s2 (om t3 (om s3 (om s4 .nil)))))))) rfl rfl
    · exact WCall.of_taken mixed T0_ok (adT (vl x0 x1 x2 x3 + vl y0 y1 y2 y3) 1 1 0) 40 1 _ (by kernel_rfl) (om s0 (om t1 (om s1 (om t2 (om s2 (om t3 (om s3 (om s4 .nil)))))))) rfl rfl
    · exact WCall.of_taken mixed T0_ok (adT (vl x0 x1 x2 x3 + vl y0 y1 y2 y3) 1 1 1) 40 1 _ (by kernel_rfl) (om s0 (om t1 (om s1 (om t2 (om s2 (om t3 (om s3 (om s4 .nil)))))))) rfl rfl
  · cases h

def subG : List Value → Option Value
  | [.agg ⟨[.int .u64 a0, .int .u64 a1, .int .u64 a2, .int .u64 a3]⟩, .agg ⟨[.int .u64 b0, .int .u64 b1, .int .u64 b2, .int .u64 b3]⟩] =>
    some (.tuple ⟨[numV (vl a0 a1 a2 a3 + 2 ^ 256 - vl b0 b1 b2 b3), u64 (if vl a0 a1 a2 a3 < vl b0 b1 b2 b3 then 1 else 0)]⟩)
  | _ => none
theorem ite_bit {x y : Nat} : ∃ c : Nat, (if x < y then 1 else 0) = c ∧ ((c = 1 ∧ x < y) ∨ (c = 0 ∧ y ≤ x)) := by
  by_cases h : x < y
  · exact ⟨1, if_pos h, .inl ⟨rfl, h⟩⟩
  · exact ⟨0, if_neg h, .inr ⟨rfl, by omega⟩⟩
theorem words4 {V d0 d1 d2 d3 k : Nat} (h0 : d0 < 18446744073709551616) (h1 : d1 < 18446744073709551616) (h2 : d2 < 18446744073709551616) (h3 : d3 < 18446744073709551616)
    (hV : V = d0 + 2 ^ 64 * d1 + 2 ^ 128 * d2 + 2 ^ 192 * d3 + 2 ^ 256 * k) : (d0 : Int) = w64 V 0 ∧ (d1 : Int) = w64 V 1 ∧ (d2 : Int) = w64 V 2 ∧ (d3 : Int) = w64 V 3 := by
  subst hV
  unfold w64
  refine ⟨?_, ?_, ?_, ?_⟩ <;> (congr 1; omega)
theorem step_sub {x y b c : Nat} (hx : x < 18446744073709551616) (hy : y < 18446744073709551616) (hb : b ≤ 1) (e : (c = 1 ∧ x < y + b) ∨ (c = 0 ∧ y + b ≤ x)) :
    (x + 18446744073709551616 - y - b) % 18446744073709551616 + y + b = x + 18446744073709551616 * c ∧ c ≤ 1 := by
  rcases e with ⟨rfl, e⟩ | ⟨rfl, e⟩ <;> constructor <;> omega
theorem sub_words {x0 x1 x2 x3 y0 y1 y2 y3 c1 c2 c3 c4 c5 : Nat} (h0 : x0 < 18446744073709551616) (h1 : x1 < 18446744073709551616) (h2 : x2 < 18446744073709551616) (h3 : x3 < 18446744073709551616)
    (k0 : y0 < 18446744073709551616) (k1 : y1 < 18446744073709551616) (k2 : y2 < 18446744073709551616) (k3 : y3 < 18446744073709551616)
    (e1 : (c1 = 1 ∧ x0 < y0 + 0) ∨ (c1 = 0 ∧ y0 + 0 ≤ x0)) (e2 : (c2 = 1 ∧ x1 < y1 + c1) ∨ (c2 = 0 ∧ y1 + c1 ≤ x1)) (e3 : (c3 = 1 ∧ x2 < y2 + c2) ∨ (c3 = 0 ∧ y2 + c2 ≤ x2)) (e4 : (c4 = 1 ∧ x3 < y3 + c3) ∨ (c4 = 0 ∧ y3 + c3 ≤ x3))
    (e5 : (c5 = 1 ∧ vl x0 x1 x2 x3 < vl y0 y1 y2 y3) ∨ (c5 = 0 ∧ vl y0 y1 y2 y3 ≤ vl x0 x1 x2 x3)) :
    (((x0 + 18446744073709551616 - y0 - 0) % 18446744073709551616 : Nat) : Int) = w64 (vl x0 x1 x2 x3 + 2 ^ 256 - vl y0 y1 y2 y3) 0 ∧
    (((x1 + 18446744073709551616 - y1 - c1) % 18446744073709551616 : Nat) : Int) = w64 (vl x0 x1 x2 x3 + 2 ^ 256 - vl y0 y1 y2 y3) 1 ∧
    (((x2 + 18446744073709551616 - y2 - c2) % 18446744073709551616 : Nat) : Int) = w64 (vl x0 x1 x2 x3 + 2 ^ 256 - vl y0 y1 y2 y3) 2 ∧
    (((x3 + 18446744073709551616 - y3 - c3) % 18446744073709551616 : Nat) : Int) = w64 (vl x0 x1 x2 x3 + 2 ^ 256 - vl y0 y1 y2 y3) 3 ∧ c4 = c5 := by
  obtain ⟨g0, b1⟩ := step_sub h0 k0 (Nat.zero_le 1) e1
  obtain ⟨g1, b2⟩ := step_sub h1 k1 b1 e2
  obtain ⟨g2, b3⟩ := step_sub h2 k2 b2 e3
  obtain ⟨g3, b4⟩ := step_sub h3 k3 b3 e4
  clear e1 e2 e3 e4
  have m0 := Nat.mod_lt (x0 + 18446744073709551616 - y0 - 0) (by omega : 0 < 18446744073709551616)
  have m1 := Nat.mod_lt (x1 + 18446744073709551616 - y1 - c1) (by omega : 0 < 18446744073709551616)
  have m2 := Nat.mod_lt (x2 + 18446744073709551616 - y2 - c2) (by omega : 0 < 18446744073709551616)
  have m3 := Nat.mod_lt (x3 + 18446744073709551616 - y3 - c3) (by omega : 0 < 18446744073709551616)
  generalize (x0 + 18446744073709551616 - y0 - 0) % 18446744073709551616 = d0 at *
  generalize (x1 + 18446744073709551616 - y1 - c1) % 18446744073709551616 = d1 at *
  generalize (x2 + 18446744073709551616 - y2 - c2) % 18446744073709551616 = d2 at *
  generalize (x3 + 18446744073709551616 - y3 - c3) % 18446744073709551616 = d3 at *
  have hX : vl x0 x1 x2 x3 = x0 + 2 ^ 64 * x1 + 2 ^ 128 * x2 + 2 ^ 192 * x3 := by unfold vl; simp only [Int.toNat_natCast]
  have hY : vl y0 y1 y2 y3 = y0 + 2 ^ 64 * y1 + 2 ^ 128 * y2 + 2 ^ 192 * y3 := by unfold vl; simp only [Int.toNat_natCast]
  have hV : vl x0 x1 x2 x3 + 2 ^ 256 * c4 = (d0 + 2 ^ 64 * d1 + 2 ^ 128 * d2 + 2 ^ 192 * d3) + vl y0 y1 y2 y3 := by
    rw [hX, hY]; omega
  have hc : c4 = c5 := by
    generalize vl x0 x1 x2 x3 = X at *
    generalize vl y0 y1 y2 y3 = Y at *
    omega
  have hV2 : vl x0 x1 x2 x3 + 2 ^ 256 - vl y0 y1 y2 y3 = d0 + 2 ^ 64 * d1 + 2 ^ 128 * d2 + 2 ^ 192 * d3 + 2 ^ 256 * (1 - c4) := by
    generalize vl x0 x1 x2 x3 = X at *
    generalize vl y0 y1 y2 y3 = Y at *
    omega
  obtain ⟨r0, r1, r2, r3⟩ := words4 m0 m1 m2 m3 hV2
  exact ⟨r0, r1, r2, r3, hc⟩
def sbT (V B c1 c2 c3 : Nat) : Take := [(21, .int .u64 (w64 V 0)), (22, u64 c1), (21, .int .u64 (w64 V 1)), (22, u64 c2), (21, .int .u64 (w64 V 2)), (22, u64 c3), (21, .int .u64 (w64 V 3)), (22, u64 B)]
theorem sub_con : WCon Try.prog 22 subG := by
  intro l v h hw
  unfold subG at h
  split at h
  · rename_i a0 a1 a2 a3 b0 b1 b2 b3
    injection h with h; subst h
    obtain ⟨x0, x1, x2, x3, h0, h1, h2, h3, rfl, rfl, rfl, rfl⟩ := bits4 (hw (.agg ⟨[.int .u64 a0, .int .u64 a1, .int .u64 a2, .int .u64 a3]⟩) (by simp))
    obtain ⟨y0, y1, y2, y3, k0, k1, k2, k3, rfl, rfl, rfl, rfl⟩ := bits4 (hw (.agg ⟨[.int .u64 b0, .int .u64 b1, .int .u64 b2, .int .u64 b3]⟩) (by simp))
    obtain ⟨c1, f1, e1⟩ := ite_bit (x := x0) (y := y0 + 0)
    obtain ⟨c2, f2, e2⟩ := ite_bit (x := x1) (y := y1 + c1)
    obtain ⟨c3, f3, e3⟩ := ite_bit (x := x2) (y := y2 + c2)
    obtain ⟨c4, f4, e4⟩ := ite_bit (x := x3) (y := y3 + c3)
    obtain ⟨c5, f5, e5⟩ := ite_bit (x := vl x0 x1 x2 x3) (y := vl y0 y1 y2 y3)
    obtain ⟨s0, s1, s2, s3, e6⟩ := sub_words h0 h1 h2 h3 k0 k1 k2 k3 e1 e2 e3 e4 e5
    have t1 : (((if x0 < y0 + 0 then 1 else 0 : Nat) : Nat) : Int) = (c1 : Int) := by rw [f1]
    have t2 : (((if x1 < y1 + c1 then 1 else 0 : Nat) : Nat) : Int) = (c2 : Int) := by rw [f2]
    have t3 : (((if x2 < y2 + c2 then 1 else 0 : Nat) : Nat) : Int) = (c3 : Int) := by rw [f3]
    have t4 : (((if x3 < y3 + c3 then 1 else 0 : Nat) : Nat) : Int) = ((if vl x0 x1 x2 x3 < vl y0 y1 y2 y3 then 1 else 0 : Nat) : Int) := by rw [f4, f5, e6]
    have d1 : c1 = 0 ∨ c1 = 1 := by omega
    have d2 : c2 = 0 ∨ c2 = 1 := by omega
    have d3 : c3 = 0 ∨ c3 = 1 := by omega
    clear e1 e2 e3 e4 e5 f1 f2 f3 f4 f5 e6
    revert hw
    rcases d1 with rfl | rfl <;> rcases d2 with rfl | rfl <;> rcases d3 with rfl | rfl
    · exact WCall.of_taken mixed T0_ok (sbT (vl x0 x1 x2 x3 + 2 ^ 256 - vl y0 y1 y2 y3) (if vl x0 x1 x2 x3 < vl y0 y1 y2 y3 then 1 else 0) 0 0 0) 40 1 _ (by kernel_rfl) (om s0 (om t1 (om s1 (om t2 (om s2 (om t3 (om s3 (om t4 .nil)))))))) rfl rfl
    · exact WCall.of_taken mixed T0_ok (sbT (vl x0 x1 x2 x3 + 2 ^ 256 - vl y0 y1 y2 y3) (if vl x0 x1 x2 x3 < vl y0 y1 y2 y3 then 1 else 0) 0 0 1) 40 1 _ (by kernel_rfl) (om s0 (om t1 (om s1 (om t2 (om s2 (om t3 (om s3 (om t4 .nil)))))))) rfl rfl
    · exact WCall.of_taken mixed T0_ok (sbT (vl x0 x1 x2 x3 + 2 ^ 256 - vl y0 y1 y2 y3) (if vl x0 x1 x2 x3 < vl y0 y1 y2 y3 then 1 else 0) 0 1 0) 40 1 _ (by kernel_rfl) (om s0 (om t1 (om s1 (om t2 (om s2 (om t3 (om s3 (om t4 .nil)))))))) rfl rfl
    · exact WCall.of_taken mixed T0_ok (sbT (vl x0 x1 x2 x3 + 2 ^ 256 - vl y0 y1 y2 y3) (if vl x0 x1 x2 x3 < vl y0 y1 y2 y3 then 1 else 0) 0 1 1) 40 1 _ (by kernel_rfl) (om s0 (om t1 (om s1 (om t2 (om s2 (om t3 (om s3 (om t4 .nil)))))))) rfl rfl
    · exact WCall.of_taken mixed T0_ok (sbT (vl x0 x1 x2 x3 + 2 ^ 256 - vl y0 y1 y2 y3) (if vl x0 x1 x2 x3 < vl y0 y1 y2 y3 then 1 else 0) 1 0 0) 40 1 _ (by kernel_rfl) (om s0 (om t1 (om s1 (om t2 (om s2 (om t3 (om s3 (om t4 .nil)))))))) rfl rfl
    · exact WCall.of_taken mixed T0_ok (sbT (vl x0 x1 x2 x3 + 2 ^ 256 - vl y0 y1 y2 y3) (if vl x0 x1 x2 x3 < vl y0 y1 y2 y3 then 1 else 0) 1 0 1) 40 1 _ (by kernel_rfl) (om s0 (om t1 (om s1 (om t2 (om s2 (om t3 (om s3 (om t4 .nil)))))))) rfl rfl
    · exact WCall.of_taken mixed T0_ok (sbT (vl x0 x1 x2 x3 + 2 ^ 256 - vl y0 y1 y2 y3) (if vl x0 x1 x2 x3 < vl y0 y1 y2 y3 then 1 else 0) 1 1 0) 40 1 _ (by kernel_rfl) (om s0 (om t1 (om s1 (om t2 (om s2 (om t3 (om s3 (om t4 .nil)))))))) rfl rfl
    · exact WCall.of_taken mixed T0_ok (sbT (vl x0 x1 x2 x3 + 2 ^ 256 - vl y0 y1 y2 y3) (if vl x0 x1 x2 x3 < vl y0 y1 y2 y3 then 1 else 0) 1 1 1) 40 1 _ (by kernel_rfl) (om s0 (om t1 (om s1 (om t2 (om s2 (om t3 (om s3 (om t4 .nil)))))))) rfl rfl
  · cases h
end Go.Proofs.Ytninlahlmjhmhaa
