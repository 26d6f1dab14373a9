import Derived.Test.YtninlahlmjhmhaaQb
namespace Go.Proofs.Ytninlahlmjhmhaa
open Go.Ty

theorem words_app : ∀ (xs ys : List (BitVec 64)), valN (xs ++ ys) = valN xs + 2 ^ (64 * xs.length) * valN ys
  | [], ys => by simp [valN]
  | x :: r, ys => by
    simp only [List.cons_append, valN, words_app r, List.length_cons]
    rw [show 64 * (r.length + 1) = 64 + 64 * r.length by omega, Nat.pow_add, Nat.mul_add, Nat.mul_assoc]; omega
theorem words_low {xs ys : List (BitVec 64)} : wordsN xs.length (valN (xs ++ ys)) = xs := by
  have h := valN_lt xs
  rw [words_app, ← wordsN_mod, Nat.add_mul_mod_self_left, wordsN_mod, words_valN]
theorem words_high {xs ys : List (BitVec 64)} : valN (xs ++ ys) / 2 ^ (64 * xs.length) = valN ys := by
  have h := valN_lt xs
  rw [words_app, Nat.add_mul_div_left _ _ (Nat.two_pow_pos _), Nat.div_eq_of_lt h, Nat.zero_add]
theorem of8 {xs : List (BitVec 64)} (h : wideS.wfT xs) : ∃ a b c d e f g k, xs = [a, b, c, d, e, f, g, k] := by
  have h := h.1
  match xs, h with
  | [a, b, c, d, e, f, g, k], _ => exact ⟨a, b, c, d, e, f, g, k, rfl⟩
theorem vw_val (a b c d e f g k : BitVec 64) : vw (toI .u64 a) (toI .u64 b) (toI .u64 c) (toI .u64 d) (toI .u64 e) (toI .u64 f) (toI .u64 g) (toI .u64 k) = valN [a, b, c, d, e, f, g, k] := by
  have h := words_app [a, b, c, d] [e, f, g, k]
  unfold vw
  rw [vl_val, vl_val]
  exact h.symm

def lowF : HL [wideS] → SV := fun xs => .av (.val numS (wordsN 4 (valN xs.1)))
def highF : HL [wideS] → SV := fun xs => .av (.val numS (wordsN 4 (valN xs.1 / 2 ^ 256)))
def wideF : HL [numS, numS] → SV := fun xs => .av (.val wideS (wordsN 8 (valN xs.1 + 2 ^ 256 * valN xs.2.1)))
def wide1F : HL [numS] → SV := fun xs => .av (.val wideS (wordsN 8 (valN xs.1)))
def plusF : HL [wideS, wideS] → SV := fun xs => .av (.val wideS (wordsN 8 (valN xs.1 + valN xs.2.1)))
theorem low_ok : COK Try.prog noGl 27 (conT [wideS] lowF) := by
  refine conT_ok (fun xs hw => ?_) (fun _ => rfl)
  obtain ⟨x, ⟨⟩⟩ := xs
  obtain ⟨a, b, c, d, e, f, g, k, rfl⟩ := of8 hw.1
  refine PC_of_wcon low_con rfl ⟨rfl, num_wf _⟩ rfl ?_
  have h := words_low (xs := [a, b, c, d]) (ys := [e, f, g, k])
  show _ = some (flatV numS (wordsN 4 (valN [a, b, c, d, e, f, g, k])))
  rw [show wordsN 4 (valN [a, b, c, d, e, f, g, k]) = [a, b, c, d] from h]; rfl
theorem high_ok : COK Try.prog noGl 28 (conT [wideS] highF) := by
  refine conT_ok (fun xs hw => ?_) (fun _ => rfl)
  obtain ⟨x, ⟨⟩⟩ := xs
  obtain ⟨a, b, c, d, e, f, g, k, rfl⟩ := of8 hw.1
  refine PC_of_wcon high_con rfl ⟨rfl, num_wf _⟩ rfl ?_
  have h := words_high (xs := [a, b, c, d]) (ys := [e, f, g, k])
  show _ = some (flatV numS (wordsN 4 (valN [a, b, c, d, e, f, g, k] / 2 ^ 256)))
  rw [show valN [a, b, c, d, e, f, g, k] / 2 ^ 256 = valN [e, f, g, k] from h, show wordsN 4 (valN [e, f, g, k]) = [e, f, g, k] from words_valN [e, f, g, k]]; rfl
theorem wide_ok : COK Try.prog noGl 26 (conT [numS, numS] wideF) := by
  refine conT_ok (fun xs hw => ?_) (fun _ => rfl)
  obtain ⟨x, y, ⟨⟩⟩ := xs
  obtain ⟨a, b, c, d, rfl⟩ := of4 hw.1
  obtain ⟨e, f, g, k, rfl⟩ := of4 hw.2.1
  refine PC_of_wcon wide_con rfl ⟨rfl, wide_wf _⟩ rfl ?_
  have h := words_app [a, b, c, d] [e, f, g, k]
  show _ = some (flatV wideS (wordsN 8 (valN [a, b, c, d] + 2 ^ 256 * valN [e, f, g, k])))
  rw [show valN [a, b, c, d] + 2 ^ 256 * valN [e, f, g, k] = valN [a, b, c, d, e, f, g, k] from h.symm, show wordsN 8 (valN [a, b, c, d, e, f, g, k]) = [a, b, c, d, e, f, g, k] from words_valN [a, b, c, d, e, f, g, k]]; rfl
theorem wide1_ok : COK Try.prog noGl 33 (conT [numS] wide1F) := by
  refine conT_ok (fun xs hw => ?_) (fun _ => rfl)
  obtain ⟨x, ⟨⟩⟩ := xs
  obtain ⟨a, b, c, d, rfl⟩ := of4 hw.1
  refine PC_of_wcon wide1_con rfl ⟨rfl, wide_wf _⟩ rfl ?_
  have h := words_app [a, b, c, d] [0#64, 0#64, 0#64, 0#64]
  rw [show valN [0#64, 0#64, 0#64, 0#64] = 0 from rfl, Nat.mul_zero, Nat.add_zero] at h
  show _ = some (flatV wideS (wordsN 8 (valN [a, b, c, d])))
  rw [← h, show wordsN 8 (valN ([a, b, c, d] ++ [0#64, 0#64, 0#64, 0#64])) = [a, b, c, d, 0#64, 0#64, 0#64, 0#64] from words_valN [a, b, c, d, 0#64, 0#64, 0#64, 0#64]]; rfl
theorem plus_ok : COK Try.prog noGl 32 (conT [wideS, wideS] plusF) := by
  refine conT_ok (fun xs hw => ?_) (fun _ => rfl)
  obtain ⟨x, y, ⟨⟩⟩ := xs
  obtain ⟨a, b, c, d, e, f, g, k, rfl⟩ := of8 hw.1
  obtain ⟨a', b', c', d', e', f', g', k', rfl⟩ := of8 hw.2.1
  refine PC_of_wcon plus_con rfl ⟨rfl, wide_wf _⟩ rfl ?_
  show some (wideV (vw _ _ _ _ _ _ _ _ + vw _ _ _ _ _ _ _ _)) = some (flatV wideS _)
  rw [flat_wide, vw_val, vw_val]

noncomputable def ct2 : CTab := (40, conT [wideS, numS] divF) :: (26, conT [numS, numS] wideF) :: (27, conT [wideS] lowF) :: (28, conT [wideS] highF) :: (33, conT [numS] wide1F) :: (32, conT [wideS, wideS] plusF) :: ct1
theorem ct2_ok : ∀ p ∈ ct2, COK Try.prog noGl p.1 p.2 := CCons div_ok (CCons wide_ok (CCons low_ok (CCons high_ok (CCons wide1_ok (CCons plus_ok ct1_ok)))))
def shU : STab := (48, i64S) :: shT
theorem shU_ok : shU.all (fun (t, s) => shChk Try.prog s (.inl t)) = true := by kernel_rfl
noncomputable abbrev Y2 : Go.Ty.Cx := mkX Try.prog noGl shU ct2
end Go.Proofs.Ytninlahlmjhmhaa
