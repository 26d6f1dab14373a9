import Derived.Test.YtmekcdapbpioaaaGd
namespace Go.Proofs.Ytmekcdapbpioaaa
open Go.Ty

/-! ## Pack and Unpack undo each other -/
theorem B255_pos : 0 < B255 := by rw [B255_eq]; decide
theorem root_of {x y : Nat} (h : onN x y = true) : sqrtB (rtA y) = true ∧ (x % 2 = 0 → sqrtN (rtA y) = x) ∧ (x % 2 = 1 → sqrtN (rtA y) = PP - x) := by
  obtain ⟨hx, _, he⟩ := onN_lt h
  have h1 : x * x % PP = rtA y % PP := rt_iff.2 he
  have h2 := sqrtB_sq h1
  obtain ⟨s1, s2, s3⟩ := sqrtN_spec h2
  have ho := PP_odd
  refine ⟨h2, ?_⟩
  rw [← h1] at s3
  generalize sqrtN (rtA y) = s at *
  rcases sq_eq ferPP s3 with c | c
  · rw [Nat.mod_eq_of_lt s1, Nat.mod_eq_of_lt hx] at c
    exact ⟨fun _ => c, fun _ => by omega⟩
  · by_cases k : s + x < PP
    · rw [Nat.mod_eq_of_lt k] at c; exact ⟨fun _ => by omega, fun _ => by omega⟩
    · rw [Nat.mod_eq_sub_mod (by omega), Nat.mod_eq_of_lt (by omega)] at c
      exact ⟨fun _ => by omega, fun _ => by omega⟩
theorem packN_on {x y : Nat} (h : onN x y = true) : packN x y = y + B255 * (x % 2) := by unfold packN; rw [h, cond_true]
theorem packN_lt {x y : Nat} (h : onN x y = true) : packN x y < 256 ^ 32 := by
  have h1 := (onN_lt h).2.1
  have h2 := PP_255
  rw [packN_on h]
  rw [B255_eq] at *
  have := Nat.mod_lt x (show 2 > 0 by decide)
  omega
theorem up_pack {x y : Nat} (h : onN x y = true) : upOk (packN x y) = true ∧ upX (packN x y) = x ∧ packN x y % B255 = y := by
  obtain ⟨hx, hy, _⟩ := onN_lt h
  have h2 := PP_255
  obtain ⟨r1, r2, r3⟩ := root_of h
  have e : packN x y % B255 = y := by rw [packN_on h, Nat.add_mul_mod_self_left, Nat.mod_eq_of_lt (by omega)]
  refine ⟨?_, ?_, e⟩
  · unfold upOk
    rw [e, r1, decide_eq_true hy]
    rcases Nat.mod_two_eq_zero_or_one x with c | c
    · rw [decide_eq_false (show ¬ B255 ≤ packN x y by rw [packN_on h, c]; omega)]; rfl
    · rw [r3 c, decide_eq_false (show ¬ PP - x = 0 by omega), Bool.and_false]; rfl
  · unfold upX
    rw [e]
    rcases Nat.mod_two_eq_zero_or_one x with c | c
    · rw [decide_eq_false (show ¬ B255 ≤ packN x y by rw [packN_on h, c]; omega), cond_false, r2 c]
    · rw [decide_eq_true (show B255 ≤ packN x y by rw [packN_on h, c]; omega), cond_true, r3 c, show PP - (PP - x) = x by omega, Nat.mod_eq_of_lt hx]
theorem upOk_of {M : Nat} (h : upOk M = true) : sqrtB (rtA (M % B255)) = true ∧ M % B255 < PP ∧ (B255 ≤ M → sqrtN (rtA (M % B255)) ≠ 0) := by
  unfold upOk at h
  rw [Bool.and_eq_true, Bool.and_eq_true] at h
  refine ⟨h.1, of_decide_eq_true h.2.1, fun c e => ?_⟩
  have := h.2.2
  rw [decide_eq_true c, decide_eq_true e] at this
  cases this
theorem upX_even {M : Nat} (_h : upOk M = true) (c : ¬ B255 ≤ M) : upX M = sqrtN (rtA (M % B255)) := by unfold upX; rw [decide_eq_false c, cond_false]
theorem upX_odd {M : Nat} (h : upOk M = true) (c : B255 ≤ M) : upX M = PP - sqrtN (rtA (M % B255)) := by
  have h1 := upOk_of h
  have h2 := h1.2.2 c
  unfold upX
  rw [decide_eq_true c, cond_true, Nat.mod_eq_of_lt (by omega)]
theorem up_on {M : Nat} (h : upOk M = true) : onN (upX M) (M % B255) = true := by
  obtain ⟨h1, h2, h3⟩ := upOk_of h
  obtain ⟨s1, s2, s3⟩ := sqrtN_spec h1
  have k : upX M < PP ∧ upX M * upX M % PP = rtA (M % B255) % PP := by
    by_cases c : B255 ≤ M
    · rw [upX_odd h c]
      have := h3 c
      have hn := neg_mul s1 s1
      rw [Nat.mod_eq_of_lt (show PP - sqrtN (rtA (M % B255)) < PP by omega)] at hn
      exact ⟨by omega, by rw [hn, s3]⟩
    · rw [upX_even h c]; exact ⟨s1, s3⟩
  unfold onN
  rw [decide_eq_true k.1, decide_eq_true h2, decide_eq_true (rt_iff.1 k.2)]; rfl
theorem pack_up {M : Nat} (hM : M < 256 ^ 32) (h : upOk M = true) : packN (upX M) (M % B255) = M := by
  rw [packN_on (up_on h)]
  obtain ⟨h1, h2, h3⟩ := upOk_of h
  obtain ⟨s1, s2, s3⟩ := sqrtN_spec h1
  have ho := PP_odd
  by_cases c : B255 ≤ M
  · have := h3 c
    rw [upX_odd h c, show (PP - sqrtN (rtA (M % B255))) % 2 = 1 by omega]
    rw [B255_eq] at *; omega
  · rw [upX_even h c, s2]
    rw [Nat.mod_eq_of_lt (by omega)]; omega
noncomputable def twinN (M : Nat) : Nat := bif decide (B255 ≤ M) then M - B255 else M + B255
theorem xrTop : ∀ t : BitVec 8, (t ^^^ 128#8).toNat = if 128 ≤ t.toNat then t.toNat - 128 else t.toNat + 128 := by decide
theorem twin_top {b : List (BitVec 8)} (h : b.length = 32) : valB (b.set 31 (rd (Sh.int IntKind.u8) b 31 ^^^ 128#8)) = twinN (valB b) := by
  have hl := valB_lt b
  rw [h] at hl
  have e := bytes_valB b
  rw [h, bytes_top] at e
  rw [← e]
  generalize valB b = M at *
  have ht : (BitVec.ofNat 8 (M / 256 ^ 31)).toNat = M / 256 ^ 31 := by rw [BitVec.toNat_ofNat]; omega
  have e1 : valB (bytesB 31 M) = M % 256 ^ 31 := by
    have := bytesB_more 31 (M % 256 ^ 31) (M / 256 ^ 31)
    rw [Nat.mod_add_div] at this
    rw [this, valB_bytes 31 _ (Nat.mod_lt _ (by decide))]
  rw [rd_top _ _ (bytesB_len 31 _), set_top _ _ _ (bytesB_len 31 _), valB_append, valB_append, bytesB_len, e1]
  simp only [valB, xrTop, ht]
  unfold twinN
  rw [show M % 256 ^ 31 + 256 ^ 31 * (M / 256 ^ 31 + 256 * 0) = M by omega]
  by_cases c : B255 ≤ M
  · rw [decide_eq_true c, cond_true]
    rw [B255_eq] at *
    rw [if_pos (by omega)]; omega
  · rw [decide_eq_false c, cond_false]
    rw [B255_eq] at *
    rw [if_neg (by omega)]; omega
theorem twin_mod {M : Nat} (hM : M < 256 ^ 32) : twinN M % B255 = M % B255 ∧ (B255 ≤ twinN M ↔ ¬ B255 ≤ M) := by
  unfold twinN
  by_cases c : B255 ≤ M
  · rw [decide_eq_true c, cond_true]
    rw [B255_eq] at *; omega
  · rw [decide_eq_false c, cond_false]
    rw [B255_eq] at *; omega
/-- of a pack with the highest bit turned -/
theorem twin_none {M : Nat} (hM : M < 256 ^ 32) (h : upOk M = true) (h0 : upX M = 0) : upOk (twinN M) = false := by
  obtain ⟨h1, h2, h3⟩ := upOk_of h
  have s1 := (sqrtN_spec h1).1
  have t := twin_mod hM
  by_cases c : B255 ≤ M
  · have := h3 c
    rw [upX_odd h c] at h0; omega
  · rw [upX_even h c] at h0
    unfold upOk
    rw [t.1, h0, decide_eq_true (t.2.2 c)]
    simp
theorem twin_some {M : Nat} (hM : M < 256 ^ 32) (h : upOk M = true) (h0 : upX M ≠ 0) : upOk (twinN M) = true ∧ upX (twinN M) = (PP - upX M) % PP := by
  obtain ⟨h1, h2, h3⟩ := upOk_of h
  have s1 := (sqrtN_spec h1).1
  have t := twin_mod hM
  have hs : sqrtN (rtA (M % B255)) ≠ 0 := by
    by_cases c : B255 ≤ M
    · exact h3 c
    · rw [upX_even h c] at h0; exact h0
  have k : upOk (twinN M) = true := by
    unfold upOk
    rw [t.1, h1, decide_eq_true h2, decide_eq_false hs, Bool.and_false]; rfl
  refine ⟨k, ?_⟩
  by_cases c : B255 ≤ M
  · rw [upX_even k (fun d => t.2.1 d c), upX_odd h c, t.1, show PP - (PP - sqrtN (rtA (M % B255))) = sqrtN (rtA (M % B255)) by omega, Nat.mod_eq_of_lt s1]
  · rw [upX_odd k (t.2.2 c), upX_even h c, t.1]
    exact (Nat.mod_eq_of_lt (by omega)).symm
theorem onN_v {x y : Nat} (h : onN x y = true) : valN (wordsN 4 x) = x ∧ valN (wordsN 4 y) = y := by
  have := (onN_lt h).1
  have := (onN_lt h).2.1
  have := PP_lt
  exact ⟨v4 (by omega), v4 (by omega)⟩
theorem words_val {x : List (BitVec 64)} (h : numS.wfT x) : wordsN 4 (valN x) = x := by
  obtain ⟨a, b, e, d, h⟩ := of4 h
  rw [h]; exact words_valN [a, b, e, d]
theorem errT (e : Int) : errB true e = 0 := rfl
theorem errF (e : Int) : errB false e = e := rfl
theorem fw13 (p : Sh.T (ptS)) (q : Sh.T (ptS)) (P : SV → Prop) : FW G5 Try.f5.ntmps (LTab.look []) Try.f5 (argsOf [ptS, ptS] (p, q, ())) P =
 (  ifB (!decide (errB (onN (valN p.1) (valN p.2.1)) 1 = 0))
    (ifB (!onN (valN p.1) (valN p.2.1)) (P (SV.av (AV.val Sh.bool true)))
      (P (SV.av (AV.val Sh.bool !onN (valN q.1) (valN q.2.1)))))
    (ifB (!decide (errB (onN (valN q.1) (valN q.2.1)) 1 = 0))
      (ifB (!onN (valN p.1) (valN p.2.1)) (P (SV.av (AV.val Sh.bool true)))
        (P (SV.av (AV.val Sh.bool !onN (valN q.1) (valN q.2.1)))))
      (ifB (decide (errB (upOk (valB (bytesB 32 (packN (valN p.1) (valN p.2.1))))) 4 = 0))
        (ifB
          (teq ((Sh.arr 4 (Sh.int IntKind.u64)).pair ((Sh.arr 4 (Sh.int IntKind.u64)).pair Sh.unit))
            (wordsN 4
                (bif upOk (valB (bytesB 32 (packN (valN p.1) (valN p.2.1)))) then
                  upX (valB (bytesB 32 (packN (valN p.1) (valN p.2.1))))
                else 0),
              wordsN 4
                (bif upOk (valB (bytesB 32 (packN (valN p.1) (valN p.2.1)))) then
                  valB (bytesB 32 (packN (valN p.1) (valN p.2.1))) % B255
                else 0),
              PUnit.unit)
            p)
          (P
            (SV.av
              (AV.val Sh.bool
                (teq Sh.bool
                  (teq (Sh.arr 32 (Sh.int IntKind.u8)) (bytesB 32 (packN (valN p.1) (valN p.2.1)))
                    (bytesB 32 (packN (valN q.1) (valN q.2.1))))
                  (teq ((Sh.arr 4 (Sh.int IntKind.u64)).pair ((Sh.arr 4 (Sh.int IntKind.u64)).pair Sh.unit)) p q)))))
          (P (SV.av (AV.val Sh.bool false))))
        (P (SV.av (AV.val Sh.bool false)))))) := by kernel_rfl
theorem walk13 (xs : HL [ptS, ptS]) (h : okHL [ptS, ptS] xs) : PC (bx Try.prog noGl) 5 (argsOf [ptS, ptS] xs) (.av (.val .bool true)) := by
  obtain ⟨⟨x, y, ⟨⟩⟩, ⟨x', y', ⟨⟩⟩, ⟨⟩⟩ := xs
  have hx : numS.wfT x := ⟨h.1.1.1, fun _ _ => trivial⟩
  have hy : numS.wfT y := ⟨h.1.2.1.1, fun _ _ => trivial⟩
  have hx' : numS.wfT x' := ⟨h.2.1.1.1, fun _ _ => trivial⟩
  have hy' : numS.wfT y' := ⟨h.2.1.2.1.1, fun _ _ => trivial⟩
  refine PC_of_fw (t := []) shV_ok g5_ok mixed Try.func5 (c := Try.f5.body.getD .skip) rfl (by kernel_rfl) (by kernel_rfl) loopsNil rfl ?_
  rw [show (PUnit.unit : HL []) = () from rfl, fw13]
  cases h1 : onN (valN x) (valN y)
  · simp only [errF, Bool.not_false, ifB_true]
    exact ifB_of (fun _ => trivial) (fun c => absurd c (by decide))
  · cases h2 : onN (valN x') (valN y')
    · simp only [errF, errT, Bool.not_false, Bool.not_true, ifB_false]
      exact ifB_of (fun c => absurd c (by decide)) (fun _ => ifB_of (fun _ => trivial) (fun c => absurd c (by decide)))
    · obtain ⟨u1, u2, u3⟩ := up_pack h1
      obtain ⟨u1', u2', u3'⟩ := up_pack h2
      simp only [valB_bytes 32 _ (packN_lt h1), u1, u2, u3, errT, cond_true, words_val hx, words_val hy]
      refine ifB_of (fun c => absurd c (by decide)) fun _ => ifB_of (fun c => absurd c (by decide)) fun _ => ifB_of (fun _ => ?_) (fun c => absurd c (by decide))
      refine ifB_of (fun _ => pbool (teq_of (s := .bool) (Bool.eq_iff_iff.2 ?_))) (fun c => absurd c (by rw [show teq _ _ _ = true from teq_of rfl]; decide))
      refine teq_iff.trans (Iff.trans ?_ teq_iff.symm)
      constructor
      · intro e
        have e : bytesB 32 (packN (valN x) (valN y)) = bytesB 32 (packN (valN x') (valN y')) := e
        have e := congrArg valB e
        rw [valB_bytes 32 _ (packN_lt h1), valB_bytes 32 _ (packN_lt h2)] at e
        have ex : valN x = valN x' := by rw [← u2, ← u2', e]
        have ey : valN y = valN y' := by rw [← u3, ← u3', e]
        rw [← words_val hx, ← words_val hx', ← words_val hy, ← words_val hy', ex, ey]
      · intro e
        have e : (x, y, PUnit.unit) = (x', y', PUnit.unit) := e
        injection e with e1 e2
        injection e2 with e2 _
        rw [e1, e2]
end Go.Proofs.Ytmekcdapbpioaaa
