import Derived.Test.YtninlahlmjhmhaaTyC
import Derived.Test.YtninlahlmjhmhaaTyC
import Derived.Test.YtninlahlmjhmhaaLmp
import Derived.KernelRfl
namespace Go.Proofs.Ytninlahlmjhmhaa
open Go.Ty

theorem flat_num (n : Nat) : flatV numS (wordsN 4 n) = numV n := by
  have h : ∀ m : Nat, ((BitVec.ofNat 64 m).toNat : Int) = ((m % 18446744073709551616 : Nat) : Int) := fun m => by rw [BitVec.toNat_ofNat]
  have e : flatV numS (wordsN 4 n) = .agg ⟨[.int .u64 ((BitVec.ofNat 64 n).toNat : Int), .int .u64 ((BitVec.ofNat 64 (n / 2 ^ 64)).toNat : Int), .int .u64 ((BitVec.ofNat 64 (n / 2 ^ 64 / 2 ^ 64)).toNat : Int), .int .u64 ((BitVec.ofNat 64 (n / 2 ^ 64 / 2 ^ 64 / 2 ^ 64)).toNat : Int)]⟩ := rfl
  rw [e, h, h, h, h]
  unfold numV w64
  simp only [Nat.div_div_eq_div_mul, ← Nat.pow_add, Nat.mul_zero, Nat.pow_zero, Nat.div_one, Nat.mul_one, Nat.reduceMul, Nat.reduceAdd]
theorem flat_wide (n : Nat) : flatV wideS (wordsN 8 n) = wideV n := by
  have h : ∀ m : Nat, ((BitVec.ofNat 64 m).toNat : Int) = ((m % 18446744073709551616 : Nat) : Int) := fun m => by rw [BitVec.toNat_ofNat]
  have e : flatV wideS (wordsN 8 n) = .agg ⟨[.int .u64 ((BitVec.ofNat 64 n).toNat : Int), .int .u64 ((BitVec.ofNat 64 (n / 2 ^ 64)).toNat : Int), .int .u64 ((BitVec.ofNat 64 (n / 2 ^ 64 / 2 ^ 64)).toNat : Int), .int .u64 ((BitVec.ofNat 64 (n / 2 ^ 64 / 2 ^ 64 / 2 ^ 64)).toNat : Int),
    .int .u64 ((BitVec.ofNat 64 (n / 2 ^ 64 / 2 ^ 64 / 2 ^ 64 / 2 ^ 64)).toNat : Int), .int .u64 ((BitVec.ofNat 64 (n / 2 ^ 64 / 2 ^ 64 / 2 ^ 64 / 2 ^ 64 / 2 ^ 64)).toNat : Int), .int .u64 ((BitVec.ofNat 64 (n / 2 ^ 64 / 2 ^ 64 / 2 ^ 64 / 2 ^ 64 / 2 ^ 64 / 2 ^ 64)).toNat : Int), .int .u64 ((BitVec.ofNat 64 (n / 2 ^ 64 / 2 ^ 64 / 2 ^ 64 / 2 ^ 64 / 2 ^ 64 / 2 ^ 64 / 2 ^ 64)).toNat : Int)]⟩ := rfl
  rw [e, h, h, h, h, h, h, h, h]
  unfold wideV w64
  simp only [Nat.div_div_eq_div_mul, ← Nat.pow_add, Nat.mul_zero, Nat.pow_zero, Nat.div_one, Nat.mul_one, Nat.reduceMul, Nat.reduceAdd]
theorem vl_val (a b c d : BitVec 64) : vl (toI .u64 a) (toI .u64 b) (toI .u64 c) (toI .u64 d) = valN [a, b, c, d] := by
  show vl (a.toNat : Int) (b.toNat : Int) (c.toNat : Int) (d.toNat : Int) = _
  unfold vl
  simp only [valN, Int.toNat_natCast]
  omega
theorem of4 {xs : List (BitVec 64)} (h : numS.wfT xs) : ∃ a b c d, xs = [a, b, c, d] := by
  have h := h.1
  match xs, h with
  | [a, b, c, d], _ => exact ⟨a, b, c, d, rfl⟩
theorem flat_u64 (n : Nat) (h : n < 2 ^ 64) : flatV u64S (BitVec.ofNat 64 n) = u64 n := by
  show Value.int .u64 ((BitVec.ofNat 64 n).toNat : Int) = _
  rw [BitVec.toNat_ofNat, Nat.mod_eq_of_lt h]

def addF : HL [numS, numS] → SV := fun xs => .tup [.val numS (wordsN 4 (valN xs.1 + valN xs.2.1)), .val u64S (BitVec.ofNat 64 ((valN xs.1 + valN xs.2.1) / 2 ^ 256))]
def subF : HL [numS, numS] → SV := fun xs => .tup [.val numS (wordsN 4 (valN xs.1 + 2 ^ 256 - valN xs.2.1)), .val u64S (bif decide (valN xs.1 < valN xs.2.1) then 1#64 else 0#64)]
def cmpF : HL [numS, numS] → SV := fun xs => .av (.val i64S (cmpI (valN xs.1) (valN xs.2.1)))
def mulF : HL [numS, numS] → SV := fun xs => .av (.val wideS (wordsN 8 (valN xs.1 * valN xs.2.1)))
def shiftF : HL [numS, i64S] → SV := fun xs => .av (.val numS (wordsN 4 (shiftN (valN xs.1) xs.2.1)))
def lenF : HL [numS] → SV := fun xs => .av (.val i64S ((blen (valN xs.1) : Nat) : Int))

theorem lt4 {xs : List (BitVec 64)} (h : numS.wfT xs) : valN xs < 2 ^ 256 := by
  have h1 := valN_lt xs
  rw [show xs.length = 4 from h.1] at h1
  exact h1
theorem ok2 {s t : Sh} {x : s.T} {y : t.T} (h1 : s.flat = true ∧ s.wfT x) (h2 : t.flat = true ∧ t.wfT y) : flatOk (.tup [.val s x, .val t y]) := by
  intro v hv
  rcases List.mem_cons.1 hv with rfl | hv
  · exact h1
  · rcases List.mem_cons.1 hv with rfl | hv
    · exact h2
    · cases hv
theorem add_ok : COK Try.prog noGl 21 (conT [numS, numS] addF) := by
  refine conT_ok (fun xs hw => ?_) (fun _ => rfl)
  obtain ⟨x, y, ⟨⟩⟩ := xs
  have h1 := lt4 hw.1
  have h2 := lt4 hw.2.1
  obtain ⟨a, b, c, d, rfl⟩ := of4 hw.1
  obtain ⟨a', b', c', d', rfl⟩ := of4 hw.2.1
  refine PC_of_wcon add_con rfl (ok2 ⟨rfl, num_wf _⟩ ⟨rfl, trivial⟩) rfl ?_
  show some (Value.tuple ⟨[numV (vl _ _ _ _ + vl _ _ _ _), u64 ((vl _ _ _ _ + vl _ _ _ _) / 2 ^ 256)]⟩) = some (.tuple ⟨[flatV numS _, flatV u64S _]⟩)
  rw [flat_num, flat_u64 _ (by simp only at h1 h2 ⊢; omega), vl_val, vl_val]
theorem sub_ok : COK Try.prog noGl 22 (conT [numS, numS] subF) := by
  refine conT_ok (fun xs hw => ?_) (fun _ => rfl)
  obtain ⟨x, y, ⟨⟩⟩ := xs
  obtain ⟨a, b, c, d, rfl⟩ := of4 hw.1
  obtain ⟨a', b', c', d', rfl⟩ := of4 hw.2.1
  refine PC_of_wcon sub_con rfl (ok2 ⟨rfl, num_wf _⟩ ⟨rfl, trivial⟩) rfl ?_
  show some (Value.tuple ⟨[numV (vl _ _ _ _ + 2 ^ 256 - vl _ _ _ _), u64 (if vl _ _ _ _ < vl _ _ _ _ then 1 else 0)]⟩) = some (.tuple ⟨[flatV numS _, flatV u64S _]⟩)
  rw [flat_num, vl_val, vl_val]
  show some (Value.tuple ⟨[numV _, u64 (if valN [a, b, c, d] < valN [a', b', c', d'] then 1 else 0)]⟩) = some (.tuple ⟨[numV _, flatV u64S (bif decide (valN [a, b, c, d] < valN [a', b', c', d']) then 1#64 else 0#64)]⟩)
  by_cases h : valN [a, b, c, d] < valN [a', b', c', d']
  · rw [if_pos h, decide_eq_true h]; rfl
  · rw [if_neg h, decide_eq_false h]; rfl
theorem cmp_ok : COK Try.prog noGl 29 (conT [numS, numS] cmpF) := by
  refine conT_ok (fun xs hw => ?_) (fun _ => rfl)
  obtain ⟨x, y, ⟨⟩⟩ := xs
  obtain ⟨a, b, c, d, rfl⟩ := of4 hw.1
  obtain ⟨a', b', c', d', rfl⟩ := of4 hw.2.1
  refine PC_of_wcon cmp_con rfl ⟨rfl, trivial⟩ rfl ?_
  show some (Value.int .i64 (cmpI (vl _ _ _ _) (vl _ _ _ _))) = some (Value.int .i64 _)
  rw [vl_val, vl_val]; rfl
theorem mul_ok : COK Try.prog noGl 31 (conT [numS, numS] mulF) := by
  refine conT_ok (fun xs hw => ?_) (fun _ => rfl)
  obtain ⟨x, y, ⟨⟩⟩ := xs
  obtain ⟨a, b, c, d, rfl⟩ := of4 hw.1
  obtain ⟨a', b', c', d', rfl⟩ := of4 hw.2.1
  refine PC_of_wcon mul_con rfl ⟨rfl, wide_wf _⟩ rfl ?_
  show some (wideV (vl _ _ _ _ * vl _ _ _ _)) = some (flatV wideS _)
  rw [flat_wide, vl_val, vl_val]
theorem shift_ok : COK Try.prog noGl 35 (conT [numS, i64S] shiftF) := by
  refine conT_ok (fun xs hw => ?_) (fun _ => rfl)
  obtain ⟨x, y, ⟨⟩⟩ := xs
  obtain ⟨a, b, c, d, rfl⟩ := of4 hw.1
  refine PC_of_wcon shift_con rfl ⟨rfl, num_wf _⟩ rfl ?_
  show some (numV (shiftN (vl _ _ _ _) _)) = some (flatV numS _)
  rw [flat_num, vl_val]; rfl
theorem len_ok : COK Try.prog noGl 36 (conT [numS] lenF) := by
  refine conT_ok (fun xs hw => ?_) (fun _ => rfl)
  obtain ⟨x, ⟨⟩⟩ := xs
  obtain ⟨a, b, c, d, rfl⟩ := of4 hw.1
  refine PC_of_wcon len_con rfl ⟨rfl, trivial⟩ rfl ?_
  show some (Value.int .i64 ((blen (vl _ _ _ _) : Nat) : Int)) = some (Value.int .i64 _)
  rw [vl_val]; rfl
end Go.Proofs.Ytninlahlmjhmhaa
