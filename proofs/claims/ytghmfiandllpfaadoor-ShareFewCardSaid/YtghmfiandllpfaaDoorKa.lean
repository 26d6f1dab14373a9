import Derived.Test.YtghmfiandllpfaaDoorAbB
import Derived.Test.YtghmfiandllpfaaDoorProg
import Derived.Laws.Externs
namespace Go.Proofs.YtghmfiandllpfaaDoor.Lb
open Go.Ab

theorem mixed : Tryd.prog.follows .mixedOrders = true := by kernel_rfl

/-- a word of a number -/
def w64 (n i : Nat) : Int := ((n / 2 ^ (64 * i) % 18446744073709551616 : Nat) : Int)
/-- a number of 4 words -/
def numV (n : Nat) : Value := .agg ⟨[.int .u64 (w64 n 0), .int .u64 (w64 n 1), .int .u64 (w64 n 2), .int .u64 (w64 n 3)]⟩
/-- a number of 8 words -/
def wideV (n : Nat) : Value := .agg ⟨[.int .u64 (w64 n 0), .int .u64 (w64 n 1), .int .u64 (w64 n 2), .int .u64 (w64 n 3), .int .u64 (w64 n 4), .int .u64 (w64 n 5), .int .u64 (w64 n 6), .int .u64 (w64 n 7)]⟩
/-- what 4 words are worth -/
def vl (a b c d : Int) : Nat := a.toNat + 2 ^ 64 * b.toNat + 2 ^ 128 * c.toNat + 2 ^ 192 * d.toNat
abbrev u64 (n : Nat) : Value := .int .u64 ((n : Nat) : Int)

theorem w64_wf (n i : Nat) : wfcB (.int .u64 (w64 n i)) = true := by
  refine wfcB_int.2 fun _ => ?_
  unfold w64
  have : n / 2 ^ (64 * i) % 18446744073709551616 < 18446744073709551616 := Nat.mod_lt _ (by omega)
  simp [IntKind.max, IntKind.bits, IntKind.signed]; omega
theorem numV_wf (n : Nat) : WfT (numV n) := by
  intro c hc
  simp only [vcells, numV, List.mem_cons, List.not_mem_nil, or_false] at hc
  rcases hc with rfl | rfl | rfl | rfl <;> exact w64_wf _ _
theorem wideV_wf (n : Nat) : WfT (wideV n) := by
  intro c hc
  simp only [vcells, wideV, List.mem_cons, List.not_mem_nil, or_false] at hc
  rcases hc with rfl | rfl | rfl | rfl | rfl | rfl | rfl | rfl <;> exact w64_wf _ _
theorem u64_wf {n : Nat} (h : n < 18446744073709551616) : WfT (u64 n) := by
  refine .of_cell (wfcB_int.2 fun _ => ?_)
  simp [IntKind.max, IntKind.bits, IntKind.signed]; omega
theorem of_u64 {a : Int} (h : wfcB (.int .u64 a) = true) : ∃ n : Nat, n < 18446744073709551616 ∧ a = (n : Int) := by
  have := wfcB_int.1 h rfl
  simp [IntKind.max, IntKind.bits, IntKind.signed] at this
  exact ⟨a.toNat, by omega, by omega⟩

/-! ### what the model stands in for -/
def add64G : List Value → Option Value
  | [.int .u64 x, .int .u64 y, .int .u64 c] => bif c == 0 || c == 1 then some (.tuple ⟨[u64 ((x.toNat + y.toNat + c.toNat) % 18446744073709551616), u64 ((x.toNat + y.toNat + c.toNat) / 18446744073709551616)]⟩) else none
  | _ => none
def sub64G : List Value → Option Value
  | [.int .u64 x, .int .u64 y, .int .u64 c] => bif c == 0 || c == 1 then some (.tuple ⟨[u64 ((x.toNat + 18446744073709551616 - y.toNat - c.toNat) % 18446744073709551616), u64 (if x.toNat < y.toNat + c.toNat then 1 else 0)]⟩) else none
  | _ => none

theorem tup2_wf {a b : Value} (ha : WfV a) (hb : WfV b) : WfT (.tuple ⟨[a, b]⟩) := by
  intro x hx
  simp only [List.mem_cons, List.not_mem_nil, or_false] at hx
  rcases hx with rfl | rfl
  · exact ha
  · exact hb
theorem u64_wfV {n : Nat} (h : n < 18446744073709551616) : WfV (u64 n) := WfV.of_T (u64_wf h) rfl
theorem numV_wfV (n : Nat) : WfV (numV n) := WfV.of_T (numV_wf n) rfl

theorem add64_con : WCon Tryd.prog 68 add64G := by
  intro l v h hw
  unfold add64G at h
  split at h
  · rename_i x y c
    refine cond_elim' h (fun hc h => ?_)
    injection h with h; subst h
    obtain ⟨x, hx, rfl⟩ := of_u64 (wf_cellof (hw (.int .u64 x) (by simp)))
    obtain ⟨y, hy, rfl⟩ := of_u64 (wf_cellof (hw (.int .u64 y) (by simp)))
    have hc' : c = 0 ∨ c = 1 := by simpa using hc
    obtain ⟨k, hk, rfl⟩ : ∃ k : Nat, k ≤ 1 ∧ c = (k : Int) := by
      rcases hc' with rfl | rfl
      · exact ⟨0, by omega, rfl⟩
      · exact ⟨1, by omega, rfl⟩
    refine WCall.of_ext rfl rfl (fun w => ?_) ?_ hw
    · show (callFunc 68 #[.int .u64 x, .int .u64 y, .int .u64 k]).run Tryd.prog w = _
      rw [run_callFunc_extern Tryd.func68 (by kernel_rfl) (by kernel_rfl) (by kernel_rfl) (e := add64Entry) (by kernel_rfl), run_add64 x y k (by omega) (by omega) (by omega) (by omega)]
      simp only [Result.andThen, Int.toNat_natCast]
      congr 5 <;> omega
    · exact tup2_wf (u64_wfV (Nat.mod_lt _ (by omega))) (u64_wfV (by simp only [Int.toNat_natCast]; omega))
  · cases h
def subEntry : Array Value → Sem Value := fun args => do
  let (x, y, b) ← Extern.MathBitsCarry.three "Sub64" args
  pure (Extern.MathBitsCarry.pair ((x + Extern.MathBitsCarry.m64 - y - b) % Extern.MathBitsCarry.m64) (if x < y + b then 1 else 0))
theorem run_sub (x y b : Nat) (hb : b ≤ 1) (w : World) :
    (subEntry #[.int .u64 x, .int .u64 y, .int .u64 b]).run Tryd.prog w =
      .ok (.tuple #[.int .u64 (((x + 18446744073709551616 - y - b) % 18446744073709551616 : Nat) : Int), .int .u64 ((if x < y + b then 1 else 0 : Nat) : Int)]) w := by
  have : b = 0 ∨ b = 1 := by omega
  rcases this with rfl | rfl <;> rfl
theorem sub64_con : WCon Tryd.prog 56 sub64G := by
  intro l v h hw
  unfold sub64G at h
  split at h
  · rename_i x y c
    refine cond_elim' h (fun hc h => ?_)
    injection h with h; subst h
    obtain ⟨x, hx, rfl⟩ := of_u64 (wf_cellof (hw (.int .u64 x) (by simp)))
    obtain ⟨y, hy, rfl⟩ := of_u64 (wf_cellof (hw (.int .u64 y) (by simp)))
    have hc' : c = 0 ∨ c = 1 := by simpa using hc
    obtain ⟨k, hk, rfl⟩ : ∃ k : Nat, k ≤ 1 ∧ c = (k : Int) := by
      rcases hc' with rfl | rfl
      · exact ⟨0, by omega, rfl⟩
      · exact ⟨1, by omega, rfl⟩
    refine WCall.of_ext rfl rfl (fun w => ?_) ?_ hw
    · show (callFunc 56 #[.int .u64 x, .int .u64 y, .int .u64 k]).run Tryd.prog w = _
      rw [run_callFunc_extern Tryd.func56 (by kernel_rfl) (by kernel_rfl) (by kernel_rfl) (e := subEntry) (by kernel_rfl), run_sub x y k hk]
      rfl
    · exact tup2_wf (u64_wfV (Nat.mod_lt _ (by omega))) (u64_wfV (by split <;> omega))
  · cases h

def T0 : Tbl := [(68, add64G), (56, sub64G)]
theorem T0_ok : ∀ p ∈ T0, WCon Tryd.prog p.1 p.2 := WCons.cons add64_con (WCons.cons sub64_con WCons.nil)

/-! ### sums and differences -/
def addG : List Value → Option Value
  | [.agg ⟨[.int .u64 a0, .int .u64 a1, .int .u64 a2, .int .u64 a3]⟩, .agg ⟨[.int .u64 b0, .int .u64 b1, .int .u64 b2, .int .u64 b3]⟩] =>
    some (.tuple ⟨[numV (vl a0 a1 a2 a3 + vl b0 b1 b2 b3), u64 ((vl a0 a1 a2 a3 + vl b0 b1 b2 b3) / 2 ^ 256)]⟩)
  | _ => none

theorem bits4 {a0 a1 a2 a3 : Int} (h : WfT (.agg ⟨[.int .u64 a0, .int .u64 a1, .int .u64 a2, .int .u64 a3]⟩)) : ∃ x0 x1 x2 x3 : Nat, x0 < 18446744073709551616 ∧ x1 < 18446744073709551616 ∧ x2 < 18446744073709551616 ∧ x3 < 18446744073709551616 ∧ a0 = x0 ∧ a1 = x1 ∧ a2 = x2 ∧ a3 = x3 := by
  obtain ⟨x0, h0, e0⟩ := of_u64 (h (.int .u64 a0) (by simp [vcells]))
  obtain ⟨x1, h1, e1⟩ := of_u64 (h (.int .u64 a1) (by simp [vcells]))
  obtain ⟨x2, h2, e2⟩ := of_u64 (h (.int .u64 a2) (by simp [vcells]))
  obtain ⟨x3, h3, e3⟩ := of_u64 (h (.int .u64 a3) (by simp [vcells]))
  exact ⟨x0, x1, x2, x3, h0, h1, h2, h3, e0, e1, e2, e3⟩

theorem om {a b : Int} {l : Owe} (h : a = b) (hl : l.met) : Owe.met ((.int .u64 a, .int .u64 b) :: l) := .int h hl
def adT (V c1 c2 c3 : Nat) : Take := [(21, .int .u64 (w64 V 0)), (22, u64 c1), (21, .int .u64 (w64 V 1)), (22, u64 c2), (21, .int .u64 (w64 V 2)), (22, u64 c3), (21, .int .u64 (w64 V 3)), (22, u64 (V / 2 ^ 256))]
theorem add_con : WCon Tryd.prog 42 addG := by
  intro l v h hw
  unfold addG at h
  split at h
  · rename_i a0 a1 a2 a3 b0 b1 b2 b3
    injection h with h; subst h
    obtain ⟨x0, x1, x2, x3, h0, h1, h2, h3, rfl, rfl, rfl, rfl⟩ := bits4 (hw (.agg ⟨[.int .u64 a0, .int .u64 a1, .int .u64 a2, .int .u64 a3]⟩) (by simp))
    obtain ⟨y0, y1, y2, y3, k0, k1, k2, k3, rfl, rfl, rfl, rfl⟩ := bits4 (hw (.agg ⟨[.int .u64 b0, .int .u64 b1, .int .u64 b2, .int .u64 b3]⟩) (by simp))
    obtain ⟨c1, e1⟩ : ∃ c, c = (x0 + y0) / 18446744073709551616 := ⟨_, rfl⟩
    obtain ⟨c2, e2⟩ : ∃ c, c = (x1 + y1 + c1) / 18446744073709551616 := ⟨_, rfl⟩
    obtain ⟨c3, e3⟩ : ∃ c, c = (x2 + y2 + c2) / 18446744073709551616 := ⟨_, rfl⟩
    have d1 : c1 = 0 ∨ c1 = 1 := by omega
    have d2 : c2 = 0 ∨ c2 = 1 := by omega
    have d3 : c3 = 0 ∨ c3 = 1 := by omega
    have s0 : (((x0 + y0 + 0) % 18446744073709551616 : Nat) : Int) = w64 (vl x0 x1 x2 x3 + vl y0 y1 y2 y3) 0 := by
      unfold w64 vl; simp only [Int.toNat_natCast]; omega
    have s1 : (((x1 + y1 + c1) % 18446744073709551616 : Nat) : Int) = w64 (vl x0 x1 x2 x3 + vl y0 y1 y2 y3) 1 := by
      unfold w64 vl; simp only [Int.toNat_natCast]; omega
    have s2 : (((x2 + y2 + c2) % 18446744073709551616 : Nat) : Int) = w64 (vl x0 x1 x2 x3 + vl y0 y1 y2 y3) 2 := by
      unfold w64 vl; simp only [Int.toNat_natCast]; omega
    have s3 : (((x3 + y3 + c3) % 18446744073709551616 : Nat) : Int) = w64 (vl x0 x1 x2 x3 + vl y0 y1 y2 y3) 3 := by
      unfold w64 vl; simp only [Int.toNat_natCast]; omega
    have s4 : (((x3 + y3 + c3) / 18446744073709551616 : Nat) : Int) = ((vl x0 x1 x2 x3 + vl y0 y1 y2 y3) / 2 ^ 256 : Nat) := by
      unfold vl; simp only [Int.toNat_natCast]; omega
    have t1 : (((x0 + y0 + 0) / 18446744073709551616 : Nat) : Int) = (c1 : Int) := by omega
    have t2 : (((x1 + y1 + c1) / 18446744073709551616 : Nat) : Int) = (c2 : Int) := by omega
    have t3 : (((x2 + y2 + c2) / 18446744073709551616 : Nat) : Int) = (c3 : Int) := by omega
    clear e1 e2 e3
    revert hw
    rcases d1 with rfl | rfl <;> rcases d2 with rfl | rfl <;> rcases d3 with rfl | rfl
    · exact WCall.of_taken mixed T0_ok (adT (vl x0 x1 x2 x3 + vl y0 y1 y2 y3) 0 0 0) 40 1 _ (by kernel_rfl) (om s0 (om t1 (om s1 (om t2 (om s2 (om t3 (om s3 (om s4 .nil)))))))) rfl rfl
    · exact WCall.of_taken mixed T0_ok (adT (vl x0 x1 x2 x3 + vl y0 y1 y2 y3) 0 0 1) 40 1 _ (by kernel_rfl) (om s0 (om t1 (om s1 (om t2 (om s2 (om t3 (om s3 (om s4 .nil)))))))) rfl rfl
    · exact WCall.of_taken mixed T0_ok (adT (vl x0 x1 x2 x3 + vl y0 y1 y2 y3) 0 1 0) 40 1 _ (by kernel_rfl) (om s0 (om t1 (om s1 (om t2 (om s2 (om t3 (om s3 (om s4 .nil)))))))) rfl rfl
    · exact WCall.of_taken mixed T0_ok (adT (vl x0 x1 x2 x3 + vl y0 y1 y2 y3) 0 1 1) 40 1 _ (by kernel_rfl) (om s0 (om t1 (om s1 (om t2 (om s2 (om t3 (om s3 (om s4 .nil)))))))) rfl rfl
    · exact WCall.of_taken mixed T0_ok (adT (vl x0 x1 x2 x3 + vl y0 y1 y2 y3) 1 0 0) 40 1 _ (by kernel_rfl) (om s0 (om t1 (om s1 (om t2 (om s2 (om t3 (om s3 (om s4 .nil)))))))) rfl rfl
    · exact WCall.of_taken mixed T0_ok (adT (vl x0 x1 x2 x3 + vl y0 y1 y2 y3) 1 0 1) 40 1 _ (by kernel_rfl) (om s0 (om t1 (om s1 (om t2 (om s2 (om t3 (om s3 (om s4 .nil)))))))) rfl rfl
    · exact WCall.of_taken mixed T0_ok (adT (vl x0 x1 x2 x3 + vl y0 y1 y2 y3) 1 1 0) 40 1 _ (by kernel_rfl) (om s0 (om t1 (om s1 (om t2 (om s2 (om t3 (om s3 (om s4 .nil)))))))) rfl rfl
    · exact WCall.of_taken mixed T0_ok (adT (vl x0 x1 x2 x3 + vl y0 y1 y2 y3) 1 1 1) 40 1 _ (by kernel_rfl) (om s0 (om t1 (om s1 (om t2 (om s2 (om t3 (om s3 (om s4 .nil)))))))) rfl rfl
  · cases h

def subG : List Value → Option Value
  | [.agg ⟨[.int .u64 a0, .int .u64 a1, .int .u64 a2, .int .u64 a3]⟩, .agg ⟨[.int .u64 b0, .int .u64 b1, .int .u64 b2, .int .u64 b3]⟩] =>
    some (.tuple ⟨[numV (vl a0 a1 a2 a3 + 2 ^ 256 - vl b0 b1 b2 b3), u64 (if vl a0 a1 a2 a3 < vl b0 b1 b2 b3 then 1 else 0)]⟩)
  | _ => none
theorem ite_bit {x y : Nat} : ∃ c : Nat, (if x < y then 1 else 0) = c ∧ ((c = 1 ∧ x < y) ∨ (c = 0 ∧ y ≤ x)) := by
  by_cases h : x < y
  · exact ⟨1, if_pos h, .inl ⟨rfl, h⟩⟩
  · exact ⟨0, if_neg h, .inr ⟨rfl, by omega⟩⟩
theorem words4 {V d0 d1 d2 d3 k : Nat} (h0 : d0 < 18446744073709551616) (h1 : d1 < 18446744073709551616) (h2 : d2 < 18446744073709551616) (h3 : d3 < 18446744073709551616)
    (hV : V = d0 + 2 ^ 64 * d1 + 2 ^ 128 * d2 + 2 ^ 192 * d3 + 2 ^ 256 * k) : (d0 : Int) = w64 V 0 ∧ (d1 : Int) = w64 V 1 ∧ (d2 : Int) = w64 V 2 ∧ (d3 : Int) = w64 V 3 := by
  subst hV
  unfold w64
  refine ⟨?_, ?_, ?_, ?_⟩ <;> (congr 1; omega)
theorem step_sub {x y b c : Nat} (hx : x < 18446744073709551616) (hy : y < 18446744073709551616) (hb : b ≤ 1) (e : (c = 1 ∧ x < y + b) ∨ (c = 0 ∧ y + b ≤ x)) :
    (x + 18446744073709551616 - y - b) % 18446744073709551616 + y + b = x + 18446744073709551616 * c ∧ c ≤ 1 := by
  rcases e with ⟨rfl, e⟩ | ⟨rfl, e⟩ <;> constructor <;> omega
theorem sub_words {x0 x1 x2 x3 y0 y1 y2 y3 c1 c2 c3 c4 c5 : Nat} (h0 : x0 < 18446744073709551616) (h1 : x1 < 18446744073709551616) (h2 : x2 < 18446744073709551616) (h3 : x3 < 18446744073709551616)
    (k0 : y0 < 18446744073709551616) (k1 : y1 < 18446744073709551616) (k2 : y2 < 18446744073709551616) (k3 : y3 < 18446744073709551616)
    (e1 : (c1 = 1 ∧ x0 < y0 + 0) ∨ (c1 = 0 ∧ y0 + 0 ≤ x0)) (e2 : (c2 = 1 ∧ x1 < y1 + c1) ∨ (c2 = 0 ∧ y1 + c1 ≤ x1)) (e3 : (c3 = 1 ∧ x2 < y2 + c2) ∨ (c3 = 0 ∧ y2 + c2 ≤ x2)) (e4 : (c4 = 1 ∧ x3 < y3 + c3) ∨ (c4 = 0 ∧ y3 + c3 ≤ x3))
    (e5 : (c5 = 1 ∧ vl x0 x1 x2 x3 < vl y0 y1 y2 y3) ∨ (c5 = 0 ∧ vl y0 y1 y2 y3 ≤ vl x0 x1 x2 x3)) :
    (((x0 + 18446744073709551616 - y0 - 0) % 18446744073709551616 : Nat) : Int) = w64 (vl x0 x1 x2 x3 + 2 ^ 256 - vl y0 y1 y2 y3) 0 ∧
    (((x1 + 18446744073709551616 - y1 - c1) % 18446744073709551616 : Nat) : Int) = w64 (vl x0 x1 x2 x3 + 2 ^ 256 - vl y0 y1 y2 y3) 1 ∧
    (((x2 + 18446744073709551616 - y2 - c2) % 18446744073709551616 : Nat) : Int) = w64 (vl x0 x1 x2 x3 + 2 ^ 256 - vl y0 y1 y2 y3) 2 ∧
    (((x3 + 18446744073709551616 - y3 - c3) % 18446744073709551616 : Nat) : Int) = w64 (vl x0 x1 x2 x3 + 2 ^ 256 - vl y0 y1 y2 y3) 3 ∧ c4 = c5 := by
  obtain ⟨g0, b1⟩ := step_sub h0 k0 (Nat.zero_le 1) e1
  obtain ⟨g1, b2⟩ := step_sub h1 k1 b1 e2
  obtain ⟨g2, b3⟩ := step_sub h2 k2 b2 e3
  obtain ⟨g3, b4⟩ := step_sub h3 k3 b3 e4
  clear e1 e2 e3 e4
  have m0 := Nat.mod_lt (x0 + 18446744073709551616 - y0 - 0) (by omega : 0 < 18446744073709551616)
  have m1 := Nat.mod_lt (x1 + 18446744073709551616 - y1 - c1) (by omega : 0 < 18446744073709551616)
  have m2 := Nat.mod_lt (x2 + 18446744073709551616 - y2 - c2) (by omega : 0 < 18446744073709551616)
  have m3 := Nat.mod_lt (x3 + 18446744073709551616 - y3 - c3) (by omega : 0 < 18446744073709551616)
  generalize (x0 + 18446744073709551616 - y0 - 0) % 18446744073709551616 = d0 at *
  generalize (x1 + 18446744073709551616 - y1 - c1) % 18446744073709551616 = d1 at *
  generalize (x2 + 18446744073709551616 - y2 - c2) % 18446744073709551616 = d2 at *
  generalize (x3 + 18446744073709551616 - y3 - c3) % 18446744073709551616 = d3 at *
  have hX : vl x0 x1 x2 x3 = x0 + 2 ^ 64 * x1 + 2 ^ 128 * x2 + 2 ^ 192 * x3 := by unfold vl; simp only [Int.toNat_natCast]
  have hY : vl y0 y1 y2 y3 = y0 + 2 ^ 64 * y1 + 2 ^ 128 * y2 + 2 ^ 192 * y3 := by unfold vl; simp only [Int.toNat_natCast]
  have hV : vl x0 x1 x2 x3 + 2 ^ 256 * c4 = (d0 + 2 ^ 64 * d1 + 2 ^ 128 * d2 + 2 ^ 192 * d3) + vl y0 y1 y2 y3 := by
    rw [hX, hY]; omega
  have hc : c4 = c5 := by
    generalize vl x0 x1 x2 x3 = X at *
    generalize vl y0 y1 y2 y3 = Y at *
    omega
  have hV2 : vl x0 x1 x2 x3 + 2 ^ 256 - vl y0 y1 y2 y3 = d0 + 2 ^ 64 * d1 + 2 ^ 128 * d2 + 2 ^ 192 * d3 + 2 ^ 256 * (1 - c4) := by
    generalize vl x0 x1 x2 x3 = X at *
    generalize vl y0 y1 y2 y3 = Y at *
    omega
  obtain ⟨r0, r1, r2, r3⟩ := words4 m0 m1 m2 m3 hV2
  exact ⟨r0, r1, r2, r3, hc⟩
def sbT (V B c1 c2 c3 : Nat) : Take := [(21, .int .u64 (w64 V 0)), (22, u64 c1), (21, .int .u64 (w64 V 1)), (22, u64 c2), (21, .int .u64 (w64 V 2)), (22, u64 c3), (21, .int .u64 (w64 V 3)), (22, u64 B)]
theorem sub_con : WCon Tryd.prog 30 subG := by
  intro l v h hw
  unfold subG at h
  split at h
  · rename_i a0 a1 a2 a3 b0 b1 b2 b3
    injection h with h; subst h
    obtain ⟨x0, x1, x2, x3, h0, h1, h2, h3, rfl, rfl, rfl, rfl⟩ := bits4 (hw (.agg ⟨[.int .u64 a0, .int .u64 a1, .int .u64 a2, .int .u64 a3]⟩) (by simp))
    obtain ⟨y0, y1, y2, y3, k0, k1, k2, k3, rfl, rfl, rfl, rfl⟩ := bits4 (hw (.agg ⟨[.int .u64 b0, .int .u64 b1, .int .u64 b2, .int .u64 b3]⟩) (by simp))
    obtain ⟨c1, f1, e1⟩ := ite_bit (x := x0) (y := y0 + 0)
    obtain ⟨c2, f2, e2⟩ := ite_bit (x := x1) (y := y1 + c1)
    obtain ⟨c3, f3, e3⟩ := ite_bit (x := x2) (y := y2 + c2)
    obtain ⟨c4, f4, e4⟩ := ite_bit (x := x3) (y := y3 + c3)
    obtain ⟨c5, f5, e5⟩ := ite_bit (x := vl x0 x1 x2 x3) (y := vl y0 y1 y2 y3)
    obtain ⟨s0, s1, s2, s3, e6⟩ := sub_words h0 h1 h2 h3 k0 k1 k2 k3 e1 e2 e3 e4 e5
    have t1 : (((if x0 < y0 + 0 then 1 else 0 : Nat) : Nat) : Int) = (c1 : Int) := by rw [f1]
    have t2 : (((if x1 < y1 + c1 then 1 else 0 : Nat) : Nat) : Int) = (c2 : Int) := by rw [f2]
    have t3 : (((if x2 < y2 + c2 then 1 else 0 : Nat) : Nat) : Int) = (c3 : Int) := by rw [f3]
    have t4 : (((if x3 < y3 + c3 then 1 else 0 : Nat) : Nat) : Int) = ((if vl x0 x1 x2 x3 < vl y0 y1 y2 y3 then 1 else 0 : Nat) : Int) := by rw [f4, f5, e6]
    have d1 : c1 = 0 ∨ c1 = 1 := by omega
    have d2 : c2 = 0 ∨ c2 = 1 := by omega
    have d3 : c3 = 0 ∨ c3 = 1 := by omega
    clear e1 e2 e3 e4 e5 f1 f2 f3 f4 f5 e6
    revert hw
    rcases d1 with rfl | rfl <;> rcases d2 with rfl | rfl <;> rcases d3 with rfl | rfl
    · exact WCall.of_taken mixed T0_ok (sbT (vl x0 x1 x2 x3 + 2 ^ 256 - vl y0 y1 y2 y3) (if vl x0 x1 x2 x3 < vl y0 y1 y2 y3 then 1 else 0) 0 0 0) 40 1 _ (by kernel_rfl) (om s0 (om t1 (om s1 (om t2 (om s2 (om t3 (om s3 (om t4 .nil)))))))) rfl rfl
    · exact WCall.of_taken mixed T0_ok (sbT (vl x0 x1 x2 x3 + 2 ^ 256 - vl y0 y1 y2 y3) (if vl x0 x1 x2 x3 < vl y0 y1 y2 y3 then 1 else 0) 0 0 1) 40 1 _ (by kernel_rfl) (om s0 (om t1 (om s1 (om t2 (om s2 (om t3 (om s3 (om t4 .nil)))))))) rfl rfl
    · exact WCall.of_taken mixed T0_ok (sbT (vl x0 x1 x2 x3 + 2 ^ 256 - vl y0 y1 y2 y3) (if vl x0 x1 x2 x3 < vl y0 y1 y2 y3 then 1 else 0) 0 1 0) 40 1 _ (by kernel_rfl) (om s0 (om t1 (om s1 (om t2 (om s2 (om t3 (om s3 (om t4 .nil)))))))) rfl rfl
    · exact WCall.of_taken mixed T0_ok (sbT (vl x0 x1 x2 x3 + 2 ^ 256 - vl y0 y1 y2 y3) (if vl x0 x1 x2 x3 < vl y0 y1 y2 y3 then 1 else 0) 0 1 1) 40 1 _ (by kernel_rfl) (om s0 (om t1 (om s1 (om t2 (om s2 (om t3 (om s3 (om t4 .nil)))))))) rfl rfl
    · exact WCall.of_taken mixed T0_ok (sbT (vl x0 x1 x2 x3 + 2 ^ 256 - vl y0 y1 y2 y3) (if vl x0 x1 x2 x3 < vl y0 y1 y2 y3 then 1 else 0) 1 0 0) 40 1 _ (by kernel_rfl) (om s0 (om t1 (om s1 (om t2 (om s2 (om t3 (om s3 (om t4 .nil)))))))) rfl rfl
    · exact WCall.of_taken mixed T0_ok (sbT (vl x0 x1 x2 x3 + 2 ^ 256 - vl y0 y1 y2 y3) (if vl x0 x1 x2 x3 < vl y0 y1 y2 y3 then 1 else 0) 1 0 1) 40 1 _ (by kernel_rfl) (om s0 (om t1 (om s1 (om t2 (om s2 (om t3 (om s3 (om t4 .nil)))))))) rfl rfl
    · exact WCall.of_taken mixed T0_ok (sbT (vl x0 x1 x2 x3 + 2 ^ 256 - vl y0 y1 y2 y3) (if vl x0 x1 x2 x3 < vl y0 y1 y2 y3 then 1 else 0) 1 1 0) 40 1 _ (by kernel_rfl) (om s0 (om t1 (om s1 (om t2 (om s2 (om t3 (om s3 (om t4 .nil)))))))) rfl rfl
    · exact WCall.of_taken mixed T0_ok (sbT (vl x0 x1 x2 x3 + 2 ^ 256 - vl y0 y1 y2 y3) (if vl x0 x1 x2 x3 < vl y0 y1 y2 y3 then 1 else 0) 1 1 1) 40 1 _ (by kernel_rfl) (om s0 (om t1 (om s1 (om t2 (om s2 (om t3 (om s3 (om t4 .nil)))))))) rfl rfl
  · cases h
end Go.Proofs.YtghmfiandllpfaaDoor.Lb
namespace Go.Proofs.YtghmfiandllpfaaDoor.Lb
open Go.Ab

def vlS (a : Nat) : Nat := vl (w64 a 0) (w64 a 1) (w64 a 2) (w64 a 3)
def addN (a b : Nat) : Nat := vlS a + vlS b
def subN (a b : Nat) : Nat := vlS a + 2 ^ 256 - vlS b
def ltN (a b : Nat) : Nat := if vlS a < vlS b then 1 else 0
def eq4 (a b : Nat) : Bool := w64 a 0 == w64 b 0 && (w64 a 1 == w64 b 1 && (w64 a 2 == w64 b 2 && (w64 a 3 == w64 b 3 && true)))

theorem vlS_eq (a : Nat) : vlS a = a % 2 ^ 256 := by
  unfold vlS vl w64
  simp only [Int.toNat_natCast]
  omega
theorem vlS_lt (a : Nat) : vlS a < 2 ^ 256 := by rw [vlS_eq]; exact Nat.mod_lt _ (by omega)
theorem vlS_of {a : Nat} (h : a < 2 ^ 256) : vlS a = a := by rw [vlS_eq, Nat.mod_eq_of_lt h]
theorem w64_inj {a b : Nat} (h0 : w64 a 0 = w64 b 0) (h1 : w64 a 1 = w64 b 1) (h2 : w64 a 2 = w64 b 2) (h3 : w64 a 3 = w64 b 3) : vlS a = vlS b := by
  unfold vlS; rw [h0, h1, h2, h3]
theorem w64_mod (a i : Nat) (hi : i < 4) : w64 (a % 2 ^ 256) i = w64 a i := by
  have : i = 0 ∨ i = 1 ∨ i = 2 ∨ i = 3 := by omega
  unfold w64
  rcases this with rfl | rfl | rfl | rfl <;> (congr 1; omega)
theorem w64_congr {a b : Nat} (h : vlS a = vlS b) (i : Nat) (hi : i < 4) : w64 a i = w64 b i := by
  rw [vlS_eq, vlS_eq] at h
  rw [← w64_mod a i hi, ← w64_mod b i hi, h]
theorem eq4_tt {a b : Nat} (h : vlS a = vlS b) : eq4 a b = true := by
  unfold eq4
  simp [w64_congr h 0, w64_congr h 1, w64_congr h 2, w64_congr h 3]
theorem eq4_ff {a b : Nat} (h : vlS a ≠ vlS b) : eq4 a b = false := by
  cases he : eq4 a b with
  | false => rfl
  | true =>
    unfold eq4 at he
    simp only [Bool.and_eq_true, beq_iff_eq] at he
    exact absurd (w64_inj he.1 he.2.1 he.2.2.1 he.2.2.2.1) h
theorem eqi {a b : Int} (h : a = b) : (a == b) = true := by simpa using h
theorem numV_congr {a b : Nat} (h : vlS a = vlS b) : numV a = numV b := by
  unfold numV; rw [w64_congr h 0 (by omega), w64_congr h 1 (by omega), w64_congr h 2 (by omega), w64_congr h 3 (by omega)]

def T1 : Tbl := (42, addG) :: (30, subG) :: T0
theorem T1_ok : ∀ p ∈ T1, WCon Tryd.prog p.1 p.2 := WCons.cons add_con (WCons.cons sub_con T0_ok)

def T2 : Tbl := T1
theorem T2_ok : ∀ p ∈ T2, WCon Tryd.prog p.1 p.2 := T1_ok

theorem num_of {zs : List Int} (hl : zs.length = 4) (hw : ∀ z ∈ zs, (Lit.int .u64 z).wf = true) : ∃ n, n < 2 ^ 256 ∧ (.agg ⟨zs.map (.int .u64)⟩ : Value) = numV n := by
  match zs, hl with
  | [a, b, c, d], _ =>
    obtain ⟨x0, h0, rfl⟩ := of_u64 (wfcB_lit (hw a (by simp)))
    obtain ⟨x1, h1, rfl⟩ := of_u64 (wfcB_lit (hw b (by simp)))
    obtain ⟨x2, h2, rfl⟩ := of_u64 (wfcB_lit (hw c (by simp)))
    obtain ⟨x3, h3, rfl⟩ := of_u64 (wfcB_lit (hw d (by simp)))
    have hV : vl x0 x1 x2 x3 = x0 + 2 ^ 64 * x1 + 2 ^ 128 * x2 + 2 ^ 192 * x3 + 2 ^ 256 * 0 := by unfold vl; simp only [Int.toNat_natCast]; omega
    obtain ⟨r0, r1, r2, r3⟩ := words4 h0 h1 h2 h3 hV
    refine ⟨vl x0 x1 x2 x3, by rw [hV]; omega, ?_⟩
    unfold numV
    rw [← r0, ← r1, ← r2, ← r3]
    rfl
end Go.Proofs.YtghmfiandllpfaaDoor.Lb
namespace Go.Proofs.YtghmfiandllpfaaDoor.Lb
open Go.Ab

def cmpI (x y : Nat) : Int := if x < y then -1 else if y < x then 1 else 0
def cmpG : List Value → Option Value
  | [.agg ⟨[.int .u64 a0, .int .u64 a1, .int .u64 a2, .int .u64 a3]⟩, .agg ⟨[.int .u64 b0, .int .u64 b1, .int .u64 b2, .int .u64 b3]⟩] => some (.int .i64 (cmpI (vl a0 a1 a2 a3) (vl b0 b1 b2 b3)))
  | _ => none
theorem cmpI_lt {x y : Nat} (h : x < y) : cmpI x y = -1 := by unfold cmpI; rw [if_pos h]
theorem cmpI_gt {x y : Nat} (h : y < x) : cmpI x y = 1 := by unfold cmpI; rw [if_neg (by omega), if_pos h]
theorem cmpI_eq {x y : Nat} (h : x = y) : cmpI x y = 0 := by unfold cmpI; rw [if_neg (by omega), if_neg (by omega)]
theorem vl_nat (x0 x1 x2 x3 : Nat) : vl x0 x1 x2 x3 = x0 + 2 ^ 64 * x1 + 2 ^ 128 * x2 + 2 ^ 192 * x3 := by unfold vl; simp only [Int.toNat_natCast]
theorem cmp_con : WCon Tryd.prog 18 cmpG := by
  intro l v h hw
  unfold cmpG at h
  split at h
  · rename_i a0 a1 a2 a3 b0 b1 b2 b3
    injection h with h; subst h
    obtain ⟨x0, x1, x2, x3, h0, h1, h2, h3, rfl, rfl, rfl, rfl⟩ := bits4 (hw (.agg ⟨[.int .u64 a0, .int .u64 a1, .int .u64 a2, .int .u64 a3]⟩) (by simp))
    obtain ⟨y0, y1, y2, y3, k0, k1, k2, k3, rfl, rfl, rfl, rfl⟩ := bits4 (hw (.agg ⟨[.int .u64 b0, .int .u64 b1, .int .u64 b2, .int .u64 b3]⟩) (by simp))
    have vx := vl_nat x0 x1 x2 x3
    have vy := vl_nat y0 y1 y2 y3
    revert hw
    by_cases p3 : (x3 : Int) < (y3 : Int)
    · rw [cmpI_lt (by rw [vx, vy]; omega)]
      exact WCall.of_tests mixed T0_ok 40 1 [(17, decide ((x3 : Int) < (y3 : Int)), true)] (by kernel_rfl) (tests_cons (dec_t p3) (tests_nil)) rfl rfl
    by_cases q3 : (x3 : Int) > (y3 : Int)
    · rw [cmpI_gt (by rw [vx, vy]; omega)]
      exact WCall.of_tests mixed T0_ok 40 1 [(17, decide ((x3 : Int) < (y3 : Int)), false), (25, decide ((x3 : Int) > (y3 : Int)), true)] (by kernel_rfl) (tests_cons (dec_f p3) (tests_cons (dec_t q3) (tests_nil))) rfl rfl
    by_cases p2 : (x2 : Int) < (y2 : Int)
    · rw [cmpI_lt (by rw [vx, vy]; omega)]
      exact WCall.of_tests mixed T0_ok 40 1 [(17, decide ((x3 : Int) < (y3 : Int)), false), (25, decide ((x3 : Int) > (y3 : Int)), false), (17, decide ((x2 : Int) < (y2 : Int)), true)] (by kernel_rfl) (tests_cons (dec_f p3) (tests_cons (dec_f q3) (tests_cons (dec_t p2) (tests_nil)))) rfl rfl
    by_cases q2 : (x2 : Int) > (y2 : Int)
    · rw [cmpI_gt (by rw [vx, vy]; omega)]
      exact WCall.of_tests mixed T0_ok 40 1 [(17, decide ((x3 : Int) < (y3 : Int)), false), (25, decide ((x3 : Int) > (y3 : Int)), false), (17, decide ((x2 : Int) < (y2 : Int)), false), (25, decide ((x2 : Int) > (y2 : Int)), true)] (by kernel_rfl) (tests_cons (dec_f p3) (tests_cons (dec_f q3) (tests_cons (dec_f p2) (tests_cons (dec_t q2) (tests_nil))))) rfl rfl
    by_cases p1 : (x1 : Int) < (y1 : Int)
    · rw [cmpI_lt (by rw [vx, vy]; omega)]
      exact WCall.of_tests mixed T0_ok 40 1 [(17, decide ((x3 : Int) < (y3 : Int)), false), (25, decide ((x3 : Int) > (y3 : Int)), false), (17, decide ((x2 : Int) < (y2 : Int)), false), (25, decide ((x2 : Int) > (y2 : Int)), false), (17, decide ((x1 : Int) < (y1 : Int)), true)] (by kernel_rfl) (tests_cons (dec_f p3) (tests_cons (dec_f q3) (tests_cons (dec_f p2) (tests_cons (dec_f q2) (tests_cons (dec_t p1) (tests_nil)))))) rfl rfl
    by_cases q1 : (x1 : Int) > (y1 : Int)
    · rw [cmpI_gt (by rw [vx, vy]; omega)]
      exact WCall.of_tests mixed T0_ok 40 1 [(17, decide ((x3 : Int) < (y3 : Int)), false), (25, decide ((x3 : Int) > (y3 : Int)), false), (17, decide ((x2 : Int) < (y2 : Int)), false), (25, decide ((x2 : Int) > (y2 : Int)), false), (17, decide ((x1 : Int) < (y1 : Int)), false), (25, decide ((x1 : Int) > (y1 : Int)), true)] (by kernel_rfl) (tests_cons (dec_f p3) (tests_cons (dec_f q3) (tests_cons (dec_f p2) (tests_cons (dec_f q2) (tests_cons (dec_f p1) (tests_cons (dec_t q1) (tests_nil))))))) rfl rfl
    by_cases p0 : (x0 : Int) < (y0 : Int)
    · rw [cmpI_lt (by rw [vx, vy]; omega)]
      exact WCall.of_tests mixed T0_ok 40 1 [(17, decide ((x3 : Int) < (y3 : Int)), false), (25, decide ((x3 : Int) > (y3 : Int)), false), (17, decide ((x2 : Int) < (y2 : Int)), false), (25, decide ((x2 : Int) > (y2 : Int)), false), (17, decide ((x1 : Int) < (y1 : Int)), false), (25, decide ((x1 : Int) > (y1 : Int)), false), (17, decide ((x0 : Int) < (y0 : Int)), true)] (by kernel_rfl) (tests_cons (dec_f p3) (tests_cons (dec_f q3) (tests_cons (dec_f p2) (tests_cons (dec_f q2) (tests_cons (dec_f p1) (tests_cons (dec_f q1) (tests_cons (dec_t p0) (tests_nil)))))))) rfl rfl
    by_cases q0 : (x0 : Int) > (y0 : Int)
    · rw [cmpI_gt (by rw [vx, vy]; omega)]
      exact WCall.of_tests mixed T0_ok 40 1 [(17, decide ((x3 : Int) < (y3 : Int)), false), (25, decide ((x3 : Int) > (y3 : Int)), false), (17, decide ((x2 : Int) < (y2 : Int)), false), (25, decide ((x2 : Int) > (y2 : Int)), false), (17, decide ((x1 : Int) < (y1 : Int)), false), (25, decide ((x1 : Int) > (y1 : Int)), false), (17, decide ((x0 : Int) < (y0 : Int)), false), (25, decide ((x0 : Int) > (y0 : Int)), true)] (by kernel_rfl) (tests_cons (dec_f p3) (tests_cons (dec_f q3) (tests_cons (dec_f p2) (tests_cons (dec_f q2) (tests_cons (dec_f p1) (tests_cons (dec_f q1) (tests_cons (dec_f p0) (tests_cons (dec_t q0) (tests_nil))))))))) rfl rfl
    rw [cmpI_eq (by rw [vx, vy]; omega)]
    exact WCall.of_tests mixed T0_ok 40 1 [(17, decide ((x3 : Int) < (y3 : Int)), false), (25, decide ((x3 : Int) > (y3 : Int)), false), (17, decide ((x2 : Int) < (y2 : Int)), false), (25, decide ((x2 : Int) > (y2 : Int)), false), (17, decide ((x1 : Int) < (y1 : Int)), false), (25, decide ((x1 : Int) > (y1 : Int)), false), (17, decide ((x0 : Int) < (y0 : Int)), false), (25, decide ((x0 : Int) > (y0 : Int)), false)] (by kernel_rfl) (tests_cons (dec_f p3) (tests_cons (dec_f q3) (tests_cons (dec_f p2) (tests_cons (dec_f q2) (tests_cons (dec_f p1) (tests_cons (dec_f q1) (tests_cons (dec_f p0) (tests_cons (dec_f q0) (tests_nil))))))))) rfl rfl
  · cases h
def T3 : Tbl := (18, cmpG) :: T2
theorem T3_ok : ∀ p ∈ T3, WCon Tryd.prog p.1 p.2 := WCons.cons cmp_con T2_ok
end Go.Proofs.YtghmfiandllpfaaDoor.Lb
namespace Go.Proofs.YtghmfiandllpfaaDoor.Lb
open Go.Ab

theorem cmpI_cases (x y : Nat) : (x < y ∧ cmpI x y = -1) ∨ (y < x ∧ cmpI x y = 1) ∨ (x = y ∧ cmpI x y = 0) := by
  rcases Nat.lt_trichotomy x y with h | h | h
  · exact .inl ⟨h, cmpI_lt h⟩
  · exact .inr (.inr ⟨h, cmpI_eq h⟩)
  · exact .inr (.inl ⟨h, cmpI_gt h⟩)
theorem beq_of {a b : Bool} (h : a = b) : (a == b) = true := by simp [h]

end Go.Proofs.YtghmfiandllpfaaDoor.Lb
namespace Go.Proofs.YtghmfiandllpfaaDoor.Lb
open Go.Ab

theorem and_low (x : Nat) (hx : x < 18446744073709551616) : IntKind.u64.wrap (BitVec.ofInt 64 (x : Int) &&& BitVec.ofInt 64 4294967295).toNat = ((x % 4294967296 : Nat) : Int) := by
  have h1 : (BitVec.ofInt 64 (x : Int)).toNat = x := by
    rw [BitVec.toNat_ofInt]; omega
  have h2 : (BitVec.ofInt 64 4294967295).toNat = 2 ^ 32 - 1 := by decide
  rw [BitVec.toNat_and, h1, h2, Nat.and_two_pow_sub_one_eq_mod, IntWalk.u64_in _ (by omega)]
theorem shr32 (x : Nat) : (x : Int).fdiv (2 ^ 32) = ((x / 4294967296 : Nat) : Int) := by
  rw [Int.fdiv_eq_ediv_of_nonneg _ (by omega)]
  omega
theorem wrap_is {a : Int} {n : Nat} (h : a = (n : Int)) (hn : n < 18446744073709551616) : IntKind.u64.wrap a = (n : Int) := by
  rw [h, IntWalk.u64_in _ (by omega)]

theorem mul_parts (x y : Nat) (hx : x < 18446744073709551616) (hy : y < 18446744073709551616) : ∃ p q r s : Nat, p = (x % 4294967296) * (y % 4294967296) ∧ q = (x / 4294967296) * (y % 4294967296) ∧ r = (x % 4294967296) * (y / 4294967296) ∧ s = (x / 4294967296) * (y / 4294967296) ∧
    p ≤ 18446744065119617025 ∧ q ≤ 18446744065119617025 ∧ r ≤ 18446744065119617025 ∧ s ≤ 18446744065119617025 ∧ x * y = s * 18446744073709551616 + (q + r) * 4294967296 + p := by
  have b (u v : Nat) (hu : u ≤ 4294967295) (hv : v ≤ 4294967295) : u * v ≤ 18446744065119617025 := Nat.mul_le_mul hu hv
  refine ⟨_, _, _, _, rfl, rfl, rfl, rfl, b _ _ (by omega) (by omega), b _ _ (by omega) (by omega), b _ _ (by omega) (by omega), b _ _ (by omega) (by omega), ?_⟩
  have ex : x = (x / 4294967296) * 4294967296 + x % 4294967296 := by omega
  have ey : y = (y / 4294967296) * 4294967296 + y % 4294967296 := by omega
  generalize x / 4294967296 = a at *
  generalize x % 4294967296 = c at *
  generalize y / 4294967296 = e at *
  generalize y % 4294967296 = d at *
  rw [ex, ey, Nat.add_mul, Nat.mul_add, Nat.mul_add]
  have h1 : a * 4294967296 * (e * 4294967296) = a * e * 18446744073709551616 := by
    rw [Nat.mul_assoc, Nat.mul_left_comm 4294967296 e, ← Nat.mul_assoc]
  have h2 : a * 4294967296 * d = a * d * 4294967296 := by rw [Nat.mul_assoc, Nat.mul_comm 4294967296 d, ← Nat.mul_assoc]
  have h3 : c * (e * 4294967296) = c * e * 4294967296 := by rw [← Nat.mul_assoc]
  rw [h1, h2, h3]; omega

def mul64G : List Value → Option Value
  | [.int .u64 x, .int .u64 y] => some (.tuple ⟨[u64 (x.toNat * y.toNat / 18446744073709551616), u64 (x.toNat * y.toNat % 18446744073709551616)]⟩)
  | _ => none
theorem mul64_con : WCon Tryd.prog 93 mul64G := by
  intro l v h hw
  unfold mul64G at h
  split at h
  · rename_i x y
    injection h with h; subst h
    obtain ⟨x, hx, rfl⟩ := of_u64 (wf_cellof (hw (.int .u64 x) (by simp)))
    obtain ⟨y, hy, rfl⟩ := of_u64 (wf_cellof (hw (.int .u64 y) (by simp)))
    obtain ⟨p, q, r, s, ep, eq, er, es, bp, bq, br, bs, exy⟩ := mul_parts x y hx hy
    revert hw
    simp only [Int.toNat_natCast]
    have g1 := and_low x hx
    have g2 := shr32 x
    have g3 := and_low y hy
    have g4 := shr32 y
    have g5 : IntKind.u64.wrap (((x % 4294967296 : Nat) : Int) * ((y % 4294967296 : Nat) : Int)) = (p : Int) := wrap_is (by rw [ep]; exact (Int.natCast_mul _ _).symm) (by omega)
    have g6 : IntKind.u64.wrap (((x / 4294967296 : Nat) : Int) * ((y % 4294967296 : Nat) : Int)) = (q : Int) := wrap_is (by rw [eq]; exact (Int.natCast_mul _ _).symm) (by omega)
    have g7 := shr32 p
    have g8 : IntKind.u64.wrap ((q : Int) + ((p / 4294967296 : Nat) : Int)) = ((q + p / 4294967296 : Nat) : Int) := wrap_is (by omega) (by omega)
    have g9 := and_low (q + p / 4294967296) (by omega)
    have g10 := shr32 (q + p / 4294967296)
    have g11 : IntKind.u64.wrap (((x % 4294967296 : Nat) : Int) * ((y / 4294967296 : Nat) : Int)) = (r : Int) := wrap_is (by rw [er]; exact (Int.natCast_mul _ _).symm) (by omega)
    have g12 : IntKind.u64.wrap ((((q + p / 4294967296) % 4294967296 : Nat) : Int) + (r : Int)) = (((q + p / 4294967296) % 4294967296 + r : Nat) : Int) := wrap_is (by omega) (by omega)
    have g13 : IntKind.u64.wrap (((x / 4294967296 : Nat) : Int) * ((y / 4294967296 : Nat) : Int)) = (s : Int) := wrap_is (by rw [es]; exact (Int.natCast_mul _ _).symm) (by omega)
    have g14 : IntKind.u64.wrap ((s : Int) + (((q + p / 4294967296) / 4294967296 : Nat) : Int)) = ((s + (q + p / 4294967296) / 4294967296 : Nat) : Int) := wrap_is (by omega) (by omega)
    have g15 := shr32 ((q + p / 4294967296) % 4294967296 + r)
    have g16 : IntKind.u64.wrap (((s + (q + p / 4294967296) / 4294967296 : Nat) : Int) + ((((q + p / 4294967296) % 4294967296 + r) / 4294967296 : Nat) : Int)) = ((x * y / 18446744073709551616 : Nat) : Int) := wrap_is (by rw [exy]; omega) (by rw [exy]; omega)
    have g17 : IntKind.u64.wrap ((x : Int) * (y : Int)) = ((x * y % 18446744073709551616 : Nat) : Int) := by
      rw [IntKind.wrap_u64, ← Int.natCast_mul]; omega
    exact WCall.of_taken mixed T0_ok [(15, u64 (x % 4294967296)), (17, u64 (x / 4294967296)), (19, u64 (y % 4294967296)), (21, u64 (y / 4294967296)), (24, u64 p), (27, u64 q), (29, u64 (p / 4294967296)), (30, u64 (q + p / 4294967296)),
        (32, u64 ((q + p / 4294967296) % 4294967296)), (34, u64 ((q + p / 4294967296) / 4294967296)), (38, u64 r), (39, u64 ((q + p / 4294967296) % 4294967296 + r)), (42, u64 s), (44, u64 (s + (q + p / 4294967296) / 4294967296)),
        (46, u64 (((q + p / 4294967296) % 4294967296 + r) / 4294967296)), (47, u64 (x * y / 18446744073709551616)), (50, u64 (x * y % 18446744073709551616))] 40 1 _ (by kernel_rfl)
      (om g1 (om g2 (om g3 (om g4 (om g5 (om g6 (om g7 (om g8 (om g9 (om g10 (om g11 (om g12 (om g13 (om g14 (om g15 (om g16 (om g17 .nil))))))))))))))))) rfl rfl
  · cases h
def T4 : Tbl := (93, mul64G) :: T3
theorem T4_ok : ∀ p ∈ T4, WCon Tryd.prog p.1 p.2 := WCons.cons mul64_con T3_ok

/-- a product, and two numbers more -/
def stepG : List Value → Option Value
  | [.int .u64 a, .int .u64 b, .int .u64 c, .int .u64 d] => some (.tuple ⟨[u64 ((a.toNat * b.toNat + c.toNat + d.toNat) % 18446744073709551616), u64 ((a.toNat * b.toNat + c.toNat + d.toNat) / 18446744073709551616)]⟩)
  | _ => none
theorem step_con : WCon Tryd.prog 74 stepG := by
  intro l v h hw
  unfold stepG at h
  split at h
  · rename_i a b c d
    injection h with h; subst h
    obtain ⟨a, ha, rfl⟩ := of_u64 (wf_cellof (hw (.int .u64 a) (by simp)))
    obtain ⟨b, hb, rfl⟩ := of_u64 (wf_cellof (hw (.int .u64 b) (by simp)))
    obtain ⟨c, hc, rfl⟩ := of_u64 (wf_cellof (hw (.int .u64 c) (by simp)))
    obtain ⟨d, hd, rfl⟩ := of_u64 (wf_cellof (hw (.int .u64 d) (by simp)))
    revert hw
    simp only [Int.toNat_natCast]
    have hab : a * b ≤ 18446744073709551615 * 18446744073709551615 := Nat.mul_le_mul (by omega) (by omega)
    obtain ⟨P, eP⟩ : ∃ P, P = a * b := ⟨_, rfl⟩
    rw [← eP] at hab ⊢
    have g1 : ((a * b / 18446744073709551616 : Nat) : Int) = ((P / 18446744073709551616 : Nat) : Int) := by rw [eP]
    have g2 : ((a * b % 18446744073709551616 : Nat) : Int) = ((P % 18446744073709551616 : Nat) : Int) := by rw [eP]
    have g3 : IntKind.u64.wrap (((P / 18446744073709551616 : Nat) : Int) + (((P % 18446744073709551616 + c + 0) / 18446744073709551616 : Nat) : Int)) = ((P / 18446744073709551616 + (P % 18446744073709551616 + c + 0) / 18446744073709551616 : Nat) : Int) := wrap_is (by omega) (by omega)
    have g4 : ((((P % 18446744073709551616 + c + 0) % 18446744073709551616 + d + 0) % 18446744073709551616 : Nat) : Int) = (((P + c + d) % 18446744073709551616 : Nat) : Int) := by omega
    have g5 : IntKind.u64.wrap (((P / 18446744073709551616 + (P % 18446744073709551616 + c + 0) / 18446744073709551616 : Nat) : Int) + ((((P % 18446744073709551616 + c + 0) % 18446744073709551616 + d + 0) / 18446744073709551616 : Nat) : Int)) = (((P + c + d) / 18446744073709551616 : Nat) : Int) := wrap_is (by omega) (by omega)
    exact WCall.of_taken mixed T4_ok [(17, u64 (P / 18446744073709551616)), (18, u64 (P % 18446744073709551616)), (27, u64 (P / 18446744073709551616 + (P % 18446744073709551616 + c + 0) / 18446744073709551616)),
      (32, u64 ((P + c + d) % 18446744073709551616)), (37, u64 ((P + c + d) / 18446744073709551616))] 40 1 _ (by kernel_rfl) (om g1 (om g2 (om g3 (om g4 (om g5 .nil))))) rfl rfl
  · cases h
def T5 : Tbl := (74, stepG) :: T4
theorem T5_ok : ∀ p ∈ T5, WCon Tryd.prog p.1 p.2 := WCons.cons step_con T4_ok
end Go.Proofs.YtghmfiandllpfaaDoor.Lb
namespace Go.Proofs.YtghmfiandllpfaaDoor.Lb
open Go.Ab

theorem stepL {x y o c : Nat} (hx : x < 18446744073709551616) (hy : y < 18446744073709551616) (ho : o < 18446744073709551616) (hc : c < 18446744073709551616) :
    ∃ lo k : Nat, lo < 18446744073709551616 ∧ k < 18446744073709551616 ∧ x * y + o + c = lo + 18446744073709551616 * k ∧ (((x * y + o + c) % 18446744073709551616 : Nat) : Int) = (lo : Int) ∧ (((x * y + o + c) / 18446744073709551616 : Nat) : Int) = (k : Int) := by
  have h : x * y ≤ 18446744073709551615 * 18446744073709551615 := Nat.mul_le_mul (by omega) (by omega)
  generalize x * y = P at *
  exact ⟨(P + o + c) % 18446744073709551616, (P + o + c) / 18446744073709551616, by omega, by omega, by omega, rfl, rfl⟩
theorem w64_head {d V : Nat} (hd : d < 18446744073709551616) : w64 (d + 18446744073709551616 * V) 0 = (d : Int) := by
  unfold w64; congr 1; omega
theorem w64_tail {d V : Nat} (hd : d < 18446744073709551616) (k : Nat) : w64 (d + 18446744073709551616 * V) (k + 1) = w64 V k := by
  unfold w64
  have h : 64 * (k + 1) = 64 + 64 * k := by omega
  have h2 : (d + 18446744073709551616 * V) / 18446744073709551616 = V := by omega
  rw [h, Nat.pow_add, ← Nat.div_div_eq_div_mul, show (2 : Nat) ^ 64 = 18446744073709551616 from rfl, h2]
theorem wide_words {d0 d1 d2 d3 d4 d5 d6 d7 V : Nat} (h0 : d0 < 18446744073709551616) (h1 : d1 < 18446744073709551616) (h2 : d2 < 18446744073709551616) (h3 : d3 < 18446744073709551616) (h4 : d4 < 18446744073709551616) (h5 : d5 < 18446744073709551616) (h6 : d6 < 18446744073709551616) (h7 : d7 < 18446744073709551616)
    (hV : V = d0 + 18446744073709551616 * (d1 + 18446744073709551616 * (d2 + 18446744073709551616 * (d3 + 18446744073709551616 * (d4 + 18446744073709551616 * (d5 + 18446744073709551616 * (d6 + 18446744073709551616 * (d7 + 18446744073709551616 * 0)))))))) :
    wideV V = .agg ⟨[u64 d0, u64 d1, u64 d2, u64 d3, u64 d4, u64 d5, u64 d6, u64 d7]⟩ := by
  unfold wideV
  rw [hV]
  simp only [w64_head h0, w64_head h1, w64_head h2, w64_head h3, w64_head h4, w64_head h5, w64_head h6, w64_head h7, w64_tail h0, w64_tail h1, w64_tail h2, w64_tail h3, w64_tail h4, w64_tail h5, w64_tail h6]
theorem mul4 (x y0 y1 y2 y3 : Nat) : x * (y0 + 2 ^ 64 * y1 + 2 ^ 128 * y2 + 2 ^ 192 * y3) = x * y0 + 2 ^ 64 * (x * y1) + 2 ^ 128 * (x * y2) + 2 ^ 192 * (x * y3) := by
  rw [Nat.mul_add, Nat.mul_add, Nat.mul_add, Nat.mul_left_comm x, Nat.mul_left_comm x, Nat.mul_left_comm x]

theorem mul_row {x y0 y1 y2 y3 o0 o1 o2 o3 l0 l1 l2 l3 c0 c1 c2 c3 : Nat} (e0 : x * y0 + o0 + 0 = l0 + 18446744073709551616 * c0) (e1 : x * y1 + o1 + c0 = l1 + 18446744073709551616 * c1) (e2 : x * y2 + o2 + c1 = l2 + 18446744073709551616 * c2) (e3 : x * y3 + o3 + c2 = l3 + 18446744073709551616 * c3) :
    x * (y0 + 2 ^ 64 * y1 + 2 ^ 128 * y2 + 2 ^ 192 * y3) + (o0 + 2 ^ 64 * o1 + 2 ^ 128 * o2 + 2 ^ 192 * o3) = l0 + 18446744073709551616 * (l1 + 2 ^ 64 * l2 + 2 ^ 128 * l3 + 2 ^ 192 * c3) := by
  rw [mul4]
  generalize x * y0 = p0 at *
  generalize x * y1 = p1 at *
  generalize x * y2 = p2 at *
  generalize x * y3 = p3 at *
  omega
theorem rows4 {x0 x1 x2 x3 Y l00 l10 l20 l30 l31 l32 l33 c33 r0 r1 r2 : Nat} (e0 : x0 * Y + (0 + 2 ^ 64 * 0 + 2 ^ 128 * 0 + 2 ^ 192 * 0) = l00 + 18446744073709551616 * r0) (e1 : x1 * Y + r0 = l10 + 18446744073709551616 * r1) (e2 : x2 * Y + r1 = l20 + 18446744073709551616 * r2)
    (e3 : x3 * Y + r2 = l30 + 18446744073709551616 * (l31 + 2 ^ 64 * l32 + 2 ^ 128 * l33 + 2 ^ 192 * c33)) :
    (x0 + 2 ^ 64 * x1 + 2 ^ 128 * x2 + 2 ^ 192 * x3) * Y = l00 + 18446744073709551616 * (l10 + 18446744073709551616 * (l20 + 18446744073709551616 * (l30 + 18446744073709551616 * (l31 + 18446744073709551616 * (l32 + 18446744073709551616 * (l33 + 18446744073709551616 * (c33 + 18446744073709551616 * 0))))))) := by
  rw [Nat.add_mul, Nat.add_mul, Nat.add_mul, Nat.mul_assoc, Nat.mul_assoc, Nat.mul_assoc]
  generalize x0 * Y = q0 at *
  generalize x1 * Y = q1 at *
  generalize x2 * Y = q2 at *
  generalize x3 * Y = q3 at *
  omega

def mulG : List Value → Option Value
  | [.agg ⟨[.int .u64 a0, .int .u64 a1, .int .u64 a2, .int .u64 a3]⟩, .agg ⟨[.int .u64 b0, .int .u64 b1, .int .u64 b2, .int .u64 b3]⟩] => some (wideV (vl a0 a1 a2 a3 * vl b0 b1 b2 b3))
  | _ => none
theorem mul_con : WCon Tryd.prog 51 mulG := by
  intro l v h hw
  unfold mulG at h
  split at h
  · rename_i a0 a1 a2 a3 b0 b1 b2 b3
    injection h with h; subst h
    obtain ⟨x0, x1, x2, x3, h0, h1, h2, h3, rfl, rfl, rfl, rfl⟩ := bits4 (hw (.agg ⟨[.int .u64 a0, .int .u64 a1, .int .u64 a2, .int .u64 a3]⟩) (by simp))
    obtain ⟨y0, y1, y2, y3, k0, k1, k2, k3, rfl, rfl, rfl, rfl⟩ := bits4 (hw (.agg ⟨[.int .u64 b0, .int .u64 b1, .int .u64 b2, .int .u64 b3]⟩) (by simp))
    revert hw
    have hz : 0 < 18446744073709551616 := by omega
    obtain ⟨l00, c00, b00, d00, e00, f00, g00⟩ := stepL (x := x0) (y := y0) (o := 0) (c := 0) h0 k0 hz hz
    obtain ⟨l01, c01, b01, d01, e01, f01, g01⟩ := stepL (x := x0) (y := y1) (o := 0) (c := c00) h0 k1 hz d00
    obtain ⟨l02, c02, b02, d02, e02, f02, g02⟩ := stepL (x := x0) (y := y2) (o := 0) (c := c01) h0 k2 hz d01
    obtain ⟨l03, c03, b03, d03, e03, f03, g03⟩ := stepL (x := x0) (y := y3) (o := 0) (c := c02) h0 k3 hz d02
    obtain ⟨l10, c10, b10, d10, e10, f10, g10⟩ := stepL (x := x1) (y := y0) (o := l01) (c := 0) h1 k0 b01 hz
    obtain ⟨l11, c11, b11, d11, e11, f11, g11⟩ := stepL (x := x1) (y := y1) (o := l02) (c := c10) h1 k1 b02 d10
    obtain ⟨l12, c12, b12, d12, e12, f12, g12⟩ := stepL (x := x1) (y := y2) (o := l03) (c := c11) h1 k2 b03 d11
    obtain ⟨l13, c13, b13, d13, e13, f13, g13⟩ := stepL (x := x1) (y := y3) (o := c03) (c := c12) h1 k3 d03 d12
    obtain ⟨l20, c20, b20, d20, e20, f20, g20⟩ := stepL (x := x2) (y := y0) (o := l11) (c := 0) h2 k0 b11 hz
    obtain ⟨l21, c21, b21, d21, e21, f21, g21⟩ := stepL (x := x2) (y := y1) (o := l12) (c := c20) h2 k1 b12 d20
    obtain ⟨l22, c22, b22, d22, e22, f22, g22⟩ := stepL (x := x2) (y := y2) (o := l13) (c := c21) h2 k2 b13 d21
    obtain ⟨l23, c23, b23, d23, e23, f23, g23⟩ := stepL (x := x2) (y := y3) (o := c13) (c := c22) h2 k3 d13 d22
    obtain ⟨l30, c30, b30, d30, e30, f30, g30⟩ := stepL (x := x3) (y := y0) (o := l21) (c := 0) h3 k0 b21 hz
    obtain ⟨l31, c31, b31, d31, e31, f31, g31⟩ := stepL (x := x3) (y := y1) (o := l22) (c := c30) h3 k1 b22 d30
    obtain ⟨l32, c32, b32, d32, e32, f32, g32⟩ := stepL (x := x3) (y := y2) (o := l23) (c := c31) h3 k2 b23 d31
    obtain ⟨l33, c33, b33, d33, e33, f33, g33⟩ := stepL (x := x3) (y := y3) (o := c23) (c := c32) h3 k3 d23 d32
    have hV : vl x0 x1 x2 x3 * vl y0 y1 y2 y3 = l00 + 18446744073709551616 * (l10 + 18446744073709551616 * (l20 + 18446744073709551616 * (l30 + 18446744073709551616 * (l31 + 18446744073709551616 * (l32 + 18446744073709551616 * (l33 + 18446744073709551616 * (c33 + 18446744073709551616 * 0))))))) := by
      rw [vl_nat, vl_nat]
      exact rows4 (mul_row e00 e01 e02 e03) (mul_row e10 e11 e12 e13) (mul_row e20 e21 e22 e23) (mul_row e30 e31 e32 e33)
    rw [wide_words b00 b10 b20 b30 b31 b32 b33 d33 hV]
    clear hV e00 e01 e02 e03 e10 e11 e12 e13 e20 e21 e22 e23 e30 e31 e32 e33
    exact WCall.of_taken mixed T5_ok [(32, u64 l00), (33, u64 c00), (32, u64 l01), (33, u64 c01), (32, u64 l02), (33, u64 c02), (32, u64 l03), (33, u64 c03), (32, u64 l10), (33, u64 c10), (32, u64 l11), (33, u64 c11), (32, u64 l12), (33, u64 c12), (32, u64 l13), (33, u64 c13), (32, u64 l20), (33, u64 c20), (32, u64 l21), (33, u64 c21), (32, u64 l22), (33, u64 c22), (32, u64 l23), (33, u64 c23), (32, u64 l30), (33, u64 c30), (32, u64 l31), (33, u64 c31), (32, u64 l32), (33, u64 c32), (32, u64 l33), (33, u64 c33)] 40 1 _ (by kernel_rfl) (om f00 (om g00 (om f01 (om g01 (om f02 (om g02 (om f03 (om g03 (om f10 (om g10 (om f11 (om g11 (om f12 (om g12 (om f13 (om g13 (om f20 (om g20 (om f21 (om g21 (om f22 (om g22 (om f23 (om g23 (om f30 (om g30 (om f31 (om g31 (om f32 (om g32 (om f33 (om g33 .nil)))))))))))))))))))))))))))))))) rfl rfl
  · cases h
def T6 : Tbl := (51, mulG) :: T5
theorem T6_ok : ∀ p ∈ T6, WCon Tryd.prog p.1 p.2 := WCons.cons mul_con T5_ok
end Go.Proofs.YtghmfiandllpfaaDoor.Lb
namespace Go.Proofs.YtghmfiandllpfaaDoor.Lb
open Go.Ab

def eqL : List Int → List Int → Bool
  | a :: l, b :: m => a == b && eqL l m
  | _, _ => true
theorem eqL_self : ∀ l : List Int, eqL l l = true := by
  intro l
  induction l with
  | nil => rfl
  | cons a l ih => simp [eqL, ih]
theorem eqL_of {l m : List Int} (h : l = m) : eqL l m = true := h ▸ eqL_self l
def ws8 (n : Nat) : List Int := [w64 n 0, w64 n 1, w64 n 2, w64 n 3, w64 n 4, w64 n 5, w64 n 6, w64 n 7]
def vw (a0 a1 a2 a3 a4 a5 a6 a7 : Int) : Nat := vl a0 a1 a2 a3 + 2 ^ 256 * vl a4 a5 a6 a7
theorem w64_high (n i : Nat) : w64 (n / 2 ^ 256) i = w64 n (i + 4) := by
  unfold w64
  have h : 64 * (i + 4) = 256 + 64 * i := by omega
  rw [h, Nat.pow_add, Nat.div_div_eq_div_mul]
theorem vw_eq (n : Nat) : vw (w64 n 0) (w64 n 1) (w64 n 2) (w64 n 3) (w64 n 4) (w64 n 5) (w64 n 6) (w64 n 7) = n % 2 ^ 512 := by
  have h1 := vlS_eq n
  have h2 := vlS_eq (n / 2 ^ 256)
  unfold vlS at h1 h2
  rw [w64_high, w64_high, w64_high, w64_high] at h2
  unfold vw
  rw [h1, h2]
  omega

def lowG : List Value → Option Value
  | [.agg ⟨[.int .u64 a0, .int .u64 a1, .int .u64 a2, .int .u64 a3, .int .u64 _, .int .u64 _, .int .u64 _, .int .u64 _]⟩] => some (.agg ⟨[.int .u64 a0, .int .u64 a1, .int .u64 a2, .int .u64 a3]⟩)
  | _ => none
theorem low_con : WCon Tryd.prog 76 lowG := by
  intro l v h
  unfold lowG at h
  split at h
  · injection h with h; subst h
    exact WCall.of_val mixed T6_ok 40 1 (by kernel_rfl) rfl rfl
  · cases h
def highG : List Value → Option Value
  | [.agg ⟨[.int .u64 _, .int .u64 _, .int .u64 _, .int .u64 _, .int .u64 a4, .int .u64 a5, .int .u64 a6, .int .u64 a7]⟩] => some (.agg ⟨[.int .u64 a4, .int .u64 a5, .int .u64 a6, .int .u64 a7]⟩)
  | _ => none
def wideG : List Value → Option Value
  | [.agg ⟨[.int .u64 a0, .int .u64 a1, .int .u64 a2, .int .u64 a3]⟩, .agg ⟨[.int .u64 a4, .int .u64 a5, .int .u64 a6, .int .u64 a7]⟩] => some (.agg ⟨[.int .u64 a0, .int .u64 a1, .int .u64 a2, .int .u64 a3, .int .u64 a4, .int .u64 a5, .int .u64 a6, .int .u64 a7]⟩)
  | _ => none
theorem wide_con : WCon Tryd.prog 72 wideG := by
  intro l v h
  unfold wideG at h
  split at h
  · injection h with h; subst h
    exact WCall.of_val mixed T6_ok 40 1 (by kernel_rfl) rfl rfl
  · cases h
def T7 : Tbl := (72, wideG) :: (76, lowG) :: T6
theorem T7_ok : ∀ p ∈ T7, WCon Tryd.prog p.1 p.2 := WCons.cons wide_con (WCons.cons low_con T6_ok)

theorem plus_words (s h : Nat) : wideV (s + 2 ^ 256 * h) = .agg ⟨[.int .u64 (w64 s 0), .int .u64 (w64 s 1), .int .u64 (w64 s 2), .int .u64 (w64 s 3),
    .int .u64 (w64 (vlS h + vl ((s / 2 ^ 256 : Nat) : Int) 0 0 0) 0), .int .u64 (w64 (vlS h + vl ((s / 2 ^ 256 : Nat) : Int) 0 0 0) 1), .int .u64 (w64 (vlS h + vl ((s / 2 ^ 256 : Nat) : Int) 0 0 0) 2), .int .u64 (w64 (vlS h + vl ((s / 2 ^ 256 : Nat) : Int) 0 0 0) 3)]⟩ := by
  have h1 : vlS (s + 2 ^ 256 * h) = vlS s := by rw [vlS_eq, vlS_eq]; omega
  have h2 : vl ((s / 2 ^ 256 : Nat) : Int) 0 0 0 = s / 2 ^ 256 := by unfold vl; simp only [Int.toNat_natCast]; rfl
  have h3 : vlS ((s + 2 ^ 256 * h) / 2 ^ 256) = vlS (vlS h + vl ((s / 2 ^ 256 : Nat) : Int) 0 0 0) := by
    rw [h2, vlS_eq h, vlS_eq, vlS_eq]; omega
  unfold wideV
  rw [w64_congr h1 0 (by omega), w64_congr h1 1 (by omega), w64_congr h1 2 (by omega), w64_congr h1 3 (by omega)]
  rw [← w64_high _ 0, ← w64_high _ 1, ← w64_high _ 2, ← w64_high _ 3, w64_congr h3 0 (by omega), w64_congr h3 1 (by omega), w64_congr h3 2 (by omega), w64_congr h3 3 (by omega)]
theorem vl_lt4 {a0 a1 a2 a3 : Int} (h0 : wfcB (.int .u64 a0) = true) (h1 : wfcB (.int .u64 a1) = true) (h2 : wfcB (.int .u64 a2) = true) (h3 : wfcB (.int .u64 a3) = true) : vl a0 a1 a2 a3 < 2 ^ 256 := by
  obtain ⟨x0, g0, rfl⟩ := of_u64 h0
  obtain ⟨x1, g1, rfl⟩ := of_u64 h1
  obtain ⟨x2, g2, rfl⟩ := of_u64 h2
  obtain ⟨x3, g3, rfl⟩ := of_u64 h3
  rw [vl_nat]; omega
def T8 : Tbl := T7
theorem T8_ok : ∀ p ∈ T8, WCon Tryd.prog p.1 p.2 := T7_ok

def hi4 (n : Nat) : Bool := eqL [w64 n 4, w64 n 5, w64 n 6, w64 n 7] [0, 0, 0, 0]
theorem hi4_zero {n : Nat} (h : hi4 n = true) : n / 2 ^ 256 % 2 ^ 256 = 0 := by
  unfold hi4 eqL eqL eqL eqL at h
  simp only [Bool.and_eq_true, beq_iff_eq] at h
  have h2 := vlS_eq (n / 2 ^ 256)
  unfold vlS at h2
  rw [w64_high, w64_high, w64_high, w64_high, h.1, h.2.1, h.2.2.1, h.2.2.2.1] at h2
  rw [← h2]; rfl

end Go.Proofs.YtghmfiandllpfaaDoor.Lb
namespace Go.Proofs.YtghmfiandllpfaaDoor.Lb
open Go.Ab

def vwS (n : Nat) : Nat := vw (w64 n 0) (w64 n 1) (w64 n 2) (w64 n 3) (w64 n 4) (w64 n 5) (w64 n 6) (w64 n 7)
theorem vwS_eq (n : Nat) : vwS n = n % 2 ^ 512 := vw_eq n
theorem w64_modk (a i k : Nat) (hi : i < k) : w64 (a % 2 ^ (64 * k)) i = w64 a i := by
  unfold w64
  obtain ⟨d, rfl⟩ : ∃ d, k = i + (1 + d) := ⟨k - i - 1, by omega⟩
  have h : 64 * (i + (1 + d)) = 64 * i + (64 + 64 * d) := by omega
  rw [h, Nat.pow_add 2 (64 * i), Nat.mod_mul_right_div_self, Nat.mod_mod_of_dvd]
  rw [Nat.pow_add 2 64 (64 * d), show (18446744073709551616 : Nat) = 2 ^ 64 from rfl]
  exact Nat.dvd_mul_right _ _
theorem w64_mod8 (a i : Nat) (hi : i < 8) : w64 (a % 2 ^ 512) i = w64 a i := by
  have h := w64_modk a i 8 hi
  rwa [show 64 * 8 = 512 from rfl] at h
theorem ws8_congr {m n : Nat} (h : m % 2 ^ 512 = n % 2 ^ 512) : ws8 m = ws8 n := by
  unfold ws8
  rw [← w64_mod8 m 0 (by omega), ← w64_mod8 m 1 (by omega), ← w64_mod8 m 2 (by omega), ← w64_mod8 m 3 (by omega), ← w64_mod8 m 4 (by omega), ← w64_mod8 m 5 (by omega), ← w64_mod8 m 6 (by omega), ← w64_mod8 m 7 (by omega), h,
    w64_mod8 n 0 (by omega), w64_mod8 n 1 (by omega), w64_mod8 n 2 (by omega), w64_mod8 n 3 (by omega), w64_mod8 n 4 (by omega), w64_mod8 n 5 (by omega), w64_mod8 n 6 (by omega), w64_mod8 n 7 (by omega)]
theorem w64_zero (i : Nat) : w64 0 i = 0 := by unfold w64; rw [Nat.zero_div]; rfl
theorem ws8_low {a : Nat} : ws8 (vlS a) = [w64 a 0, w64 a 1, w64 a 2, w64 a 3, 0, 0, 0, 0] := by
  have h : vlS a / 2 ^ 256 = 0 := Nat.div_eq_of_lt (vlS_lt a)
  have g : vlS (vlS a) = vlS a := vlS_of (vlS_lt a)
  unfold ws8
  rw [← w64_high _ 0, ← w64_high _ 1, ← w64_high _ 2, ← w64_high _ 3, h, w64_zero, w64_zero, w64_zero, w64_zero, w64_congr g 0 (by omega), w64_congr g 1 (by omega), w64_congr g 2 (by omega), w64_congr g 3 (by omega)]
theorem mul_lt {a b : Nat} (ha : a < 2 ^ 256) (hb : b < 2 ^ 256) : a * b < 2 ^ 512 := by
  have := Nat.mul_le_mul (Nat.le_of_lt_succ (by omega : a < (2 ^ 256 - 1) + 1)) (Nat.le_of_lt_succ (by omega : b < (2 ^ 256 - 1) + 1))
  omega
theorem vl_one : vl 1 0 0 0 = 1 := rfl
theorem vl_none : vl 0 0 0 0 = 0 := rfl

end Go.Proofs.YtghmfiandllpfaaDoor.Lb
