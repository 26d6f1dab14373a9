import Derived.Test.YtninlahlmjhmhaaQd
namespace Go.Proofs.Ytninlahlmjhmhaa
open Go.Ty

noncomputable def ct4 : CTab := (41, conT [] fun _ => .av (.val .bool true)) :: ct3
noncomputable abbrev Y4 : Go.Ty.Cx := mkX Try.prog noGl shU ct4
theorem fw41  (P : SV → Prop) : FW Y3 Try.f41.ntmps (LTab.look []) Try.f41 (argsOf [] (())) P =
  P (SV.av (AV.val Sh.bool true)) := by kernel_rfl
theorem fw13 (a : Sh.T (wideS)) (m : Sh.T (numS)) (P : SV → Prop) : FW Y3 Try.f13.ntmps (LTab.look []) Try.f13 (argsOf [wideS, numS] (a, m, ())) P =
  ifB (teq (Sh.arr 4 (Sh.int IntKind.u64)) m [0#64, 0#64, 0#64, 0#64])
    (P (SV.av (AV.val Sh.bool (decide (errN (valN m) = 1)))))
    (ifB (decide (errN (valN m) = 0))
      (ifB (decide (cmpI (valN (wordsN 4 (remN (valN a) (valN m)))) (valN m) < 0))
        (ifB
          (teq (Sh.arr 4 (Sh.int IntKind.u64))
            (wordsN 4
              (valN
                  (wordsN 8
                    (valN
                        (wordsN 4
                          (valN (wordsN 8 (valN a / valN m)) /
                            (2 ^ 256))) *
                      valN m)) /
                (2 ^ 256)))
            [0#64, 0#64, 0#64, 0#64])
          (P
            (SV.av
              (AV.val Sh.bool
                (teq (Sh.arr 8 (Sh.int IntKind.u64))
                  (wordsN 8
                    (valN
                        (wordsN 8
                          (valN (wordsN 8 (valN (wordsN 4 (valN (wordsN 8 (valN a / valN m)))) * valN m)) +
                            valN
                              (wordsN 8
                                (valN [0#64, 0#64, 0#64, 0#64] +
                                  (2 ^ 256) *
                                    valN
                                      (wordsN 4
                                        (valN
                                          (wordsN 8
                                            (valN
                                                (wordsN 4
                                                  (valN (wordsN 8 (valN a / valN m)) /
                                                    (2 ^ 256))) *
                                              valN m)))))))) +
                      valN (wordsN 8 (valN (wordsN 4 (remN (valN a) (valN m)))))))
                  a))))
          (P (SV.av (AV.val Sh.bool false))))
        (P (SV.av (AV.val Sh.bool false))))
      (P (SV.av (AV.val Sh.bool false)))) := by kernel_rfl
theorem fw14 (q : Sh.T (numS)) (m : Sh.T (numS)) (r : Sh.T (numS)) (P : SV → Prop) : FW Y4 Try.f14.ntmps (LTab.look []) Try.f14 (argsOf [numS, numS, numS] (q, m, r, ())) P =
  ifB (decide (0 ≤ cmpI (valN r) (valN m))) (P (SV.av (AV.val Sh.bool true)))
    (ifB
      (teq (Sh.arr 8 (Sh.int IntKind.u64))
        (wordsN 8 (valN (wordsN 8 (valN (wordsN 8 (valN q * valN m)) + valN (wordsN 8 (valN r)))) / valN m))
        (wordsN 8 (valN q)))
      (ifB
        (teq (Sh.arr 4 (Sh.int IntKind.u64))
          (wordsN 4 (remN (valN (wordsN 8 (valN (wordsN 8 (valN q * valN m)) + valN (wordsN 8 (valN r))))) (valN m))) r)
        (P (SV.av (AV.val Sh.bool (decide (errN (valN m) = 0))))) (P (SV.av (AV.val Sh.bool false))))
      (P (SV.av (AV.val Sh.bool false)))) := by kernel_rfl
theorem fw12 (a : Sh.T (numS)) (b : Sh.T (numS)) (m : Sh.T (numS)) (P : SV → Prop) : FW Y4 Try.f12.ntmps (LTab.look []) Try.f12 (argsOf [numS, numS, numS] (a, b, m, ())) P =
  ifB (teq (Sh.arr 4 (Sh.int IntKind.u64)) m [0#64, 0#64, 0#64, 0#64])
    (ifB (decide (errN (valN m) = 1)) (P (SV.av (AV.val Sh.bool (decide (errN (valN m) = 1)))))
      (P (SV.av (AV.val Sh.bool false))))
    (ifB
      (teq (Sh.arr 4 (Sh.int IntKind.u64))
        (wordsN 4 (remN (valN (wordsN 8 (valN (wordsN 8 (valN a)) + valN (wordsN 8 (valN b))))) (valN m)))
        (wordsN 4
          (remN
            (valN
              (wordsN 8
                (valN (wordsN 8 (valN (wordsN 4 (remN (valN (wordsN 8 (valN a))) (valN m))))) +
                  valN (wordsN 8 (valN (wordsN 4 (remN (valN (wordsN 8 (valN b))) (valN m))))))))
            (valN m))))
      (P
        (SV.av
          (AV.val Sh.bool
            (teq (Sh.arr 4 (Sh.int IntKind.u64)) (wordsN 4 (remN (valN (wordsN 8 (valN a * valN b))) (valN m)))
              (wordsN 4
                (remN
                  (valN
                    (wordsN 8
                      (valN (wordsN 4 (remN (valN (wordsN 8 (valN a))) (valN m))) *
                        valN (wordsN 4 (remN (valN (wordsN 8 (valN b))) (valN m))))))
                  (valN m)))))))
      (P (SV.av (AV.val Sh.bool false)))) := by kernel_rfl
theorem pbool {b : Bool} (h : b = true) : SV.av (AV.val Sh.bool b) = SV.av (AV.val Sh.bool true) := by rw [h]
theorem v4 {n : Nat} (h : n < 2 ^ 256) : valN (wordsN 4 n) = n := by rw [valN_words]; exact Nat.mod_eq_of_lt h
theorem v4m {n : Nat} : valN (wordsN 4 n) = n % 2 ^ 256 := valN_words 4 n
theorem powa {k a b : Nat} (h : k = a + b) : 2 ^ k = 2 ^ a * 2 ^ b := by rw [h, Nat.pow_add]
theorem sq256 : 2 ^ (64 * 8) = 2 ^ 256 * 2 ^ 256 := by
  obtain ⟨k, hk⟩ : ∃ k : Nat, k = 64 * 8 := ⟨_, rfl⟩
  rw [← hk]
  exact powa hk
theorem v8 {n : Nat} (h : n < 2 ^ 256 * 2 ^ 256) : valN (wordsN 8 n) = n := by rw [valN_words, sq256]; exact Nat.mod_eq_of_lt h
theorem lt8 {xs : List (BitVec 64)} (h : wideS.wfT xs) : valN xs < 2 ^ 256 * 2 ^ 256 := by
  have h1 := valN_lt xs
  rw [show xs.length = 8 from h.1, sq256] at h1
  exact h1
theorem self4 {x : List (BitVec 64)} (h : numS.wfT x) : wordsN 4 (valN x) = x := by have := words_valN x; rw [show x.length = 4 from h.1] at this; exact this
theorem self8 {x : List (BitVec 64)} (h : wideS.wfT x) : wordsN 8 (valN x) = x := by have := words_valN x; rw [show x.length = 8 from h.1] at this; exact this
theorem teq_of {s : Sh} {x y : s.T} (h : x = y) : teq s x y = true := teq_iff.2 h
theorem teq_no {s : Sh} {x y : s.T} {p : Prop} (h : x = y) (h2 : teq s x y = false) : p := by rw [teq_of h] at h2; cases h2
theorem okwf4 {x : List (BitVec 64)} (h : Sh.okT numS x) : numS.wfT x := ⟨h.1, fun _ _ => trivial⟩
theorem okwf8 {x : List (BitVec 64)} (h : Sh.okT wideS x) : wideS.wfT x := ⟨h.1, fun _ _ => trivial⟩
theorem errN_zero : errN 0 = 1 := by simp [errN]
/-- the remainder is below, or there is none -/
theorem mpos {m : List (BitVec 64)} (hm : numS.wfT m) (h : teq numS m [0#64, 0#64, 0#64, 0#64] = false) : 0 < valN m := by
  refine Nat.pos_of_ne_zero fun e => ?_
  exact teq_no ((val_z4 hm).1 e) h

theorem quots_ok : COK Try.prog noGl 41 (conT [] fun _ => .av (.val .bool true)) := by
  refine conT_ok (fun xs hw => ?_) (fun xs => rfl)
  obtain ⟨⟩ := xs
  refine PC_of_fw (t := []) shU_ok ct3_ok mixed Try.func41 (c := Try.f41.body.getD .skip) rfl (by kernel_rfl) (by kernel_rfl) loopsNil rfl ?_
  rw [show (PUnit.unit : HL []) = () from rfl, fw41]
theorem ct4_ok : ∀ p ∈ ct4, COK Try.prog noGl p.1 p.2 := CCons quots_ok ct3_ok

theorem walk13 (xs : HL [wideS, numS]) (h : okHL [wideS, numS] xs) : PC (bx Try.prog noGl) 13 (argsOf [wideS, numS] xs) (.av (.val .bool true)) := by
  obtain ⟨a, m, ⟨⟩⟩ := xs
  refine PC_of_fw (t := []) shU_ok ct3_ok mixed Try.func13 (c := Try.f13.body.getD .skip) rfl (by kernel_rfl) (by kernel_rfl) loopsNil rfl ?_
  rw [fw13]
  have ha := okwf8 h.1
  have hm := okwf4 h.2.1
  have A2 := lt8 ha
  have M2 := lt4 hm
  have ea := self8 ha
  refine ifB_of (fun h => ?_) (fun h => ?_)
  · have e : valN m = 0 := (val_z4 hm).2 (teq_iff.1 h)
    rw [e, errN_zero]; rfl
  · have M0 := mpos hm h
    rw [errN_pos M0, remN_pos M0]
    clear h
    revert ea A2 M2 M0
    generalize valN a = A
    generalize valN m = M
    intro A2 M2 ea M0
    have hR : A % M < M := Nat.mod_lt _ M0
    have hQ : A / M < 2 ^ 256 * 2 ^ 256 := Nat.lt_of_le_of_lt (Nat.div_le_self _ _) A2
    have hQM : A / M * M ≤ A := Nat.div_mul_le_self A M
    have hdm := Nat.div_add_mod A M
    have hQH : A / M / 2 ^ 256 < 2 ^ 256 := Nat.div_lt_of_lt_mul hQ
    have hQd := Nat.div_add_mod (A / M) (2 ^ 256)
    have hQL : A / M % 2 ^ 256 < 2 ^ 256 := Nat.mod_lt _ (by omega)
    have hsum : A / M % 2 ^ 256 * M + 2 ^ 256 * (A / M / 2 ^ 256 * M) = A / M * M := by
      rw [← Nat.mul_assoc, ← Nat.add_mul]
      congr 1; omega
    have hH : A / M / 2 ^ 256 * M < 2 ^ 256 := by
      have : 2 ^ 256 * (A / M / 2 ^ 256 * M) < 2 ^ 256 * 2 ^ 256 := by omega
      exact Nat.lt_of_mul_lt_mul_left this
    rw [v8 hQ, v4 hQH, v4 (n := A % M) (by omega)]
    generalize A / M / 2 ^ 256 * M = U at *
    rw [v8 (n := U) (by omega), Nat.div_eq_of_lt hH, v4 hH, v4m]
    generalize A / M % 2 ^ 256 * M = L at *
    rw [show valN [0#64, 0#64, 0#64, 0#64] = 0 from rfl, v8 (n := L) (by omega), Nat.zero_add, v8 (n := 2 ^ 256 * U) (by omega), hsum]
    have hm2 : M * (A / M) = A / M * M := Nat.mul_comm _ _
    rw [v8 (n := A / M * M) (by omega), v8 (n := A % M) (by omega), show A / M * M + A % M = A by omega, ea]
    refine ifB_of (fun _ => ifB_of (fun _ => ifB_of (fun _ => ?_) (fun h => ?_)) (fun h => ?_)) (fun h => absurd rfl (of_decide_eq_false h))
    · exact pbool (teq_of rfl)
    · exact teq_no (by decide) h
    · rw [cmpI_lt hR] at h; exact absurd h (by decide)

theorem walk14 (xs : HL [numS, numS, numS]) (h : okHL [numS, numS, numS] xs) : PC (bx Try.prog noGl) 14 (argsOf [numS, numS, numS] xs) (.av (.val .bool true)) := by
  obtain ⟨q, m, r, ⟨⟩⟩ := xs
  refine PC_of_fw (t := []) shU_ok ct4_ok mixed Try.func14 (c := Try.f14.body.getD .skip) rfl (by kernel_rfl) (by kernel_rfl) loopsNil rfl ?_
  rw [fw14]
  have hq := okwf4 h.1
  have hm := okwf4 h.2.1
  have hr := okwf4 h.2.2.1
  have Q2 := lt4 hq
  have M2 := lt4 hm
  have R2 := lt4 hr
  have er := self4 hr
  refine ifB_of (fun h => rfl) (fun h => ?_)
  have hlt : valN r < valN m := by
    rcases Nat.lt_or_ge (valN r) (valN m) with h1 | h1
    · exact h1
    · exfalso
      have h := of_decide_eq_false h
      rcases Nat.lt_or_eq_of_le h1 with h2 | h2
      · rw [cmpI_gt h2] at h; exact h (by decide)
      · rw [cmpI_eq h2.symm] at h; exact h (by decide)
  clear h
  have M0 : 0 < valN m := by omega
  rw [errN_pos M0, remN_pos M0]
  have hp : valN q * valN m < 2 ^ 256 * 2 ^ 256 := Nat.mul_lt_mul'' Q2 M2
  have hp1 : (valN q + 1) * valN m ≤ 2 ^ 256 * valN m := Nat.mul_le_mul_right _ Q2
  have hp2 : 2 ^ 256 * valN m < 2 ^ 256 * 2 ^ 256 := Nat.mul_lt_mul_of_pos_left M2 (by omega)
  rw [Nat.add_mul, Nat.one_mul] at hp1
  rw [v8 hp, v8 (n := valN r) (by omega), v8 (n := valN q * valN m + valN r) (by omega)]
  have e1 : (valN q * valN m + valN r) / valN m = valN q := by rw [Nat.mul_comm, Nat.mul_add_div M0, Nat.div_eq_of_lt hlt, Nat.add_zero]
  have e2 : (valN q * valN m + valN r) % valN m = valN r := by rw [Nat.mul_comm, Nat.mul_add_mod, Nat.mod_eq_of_lt hlt]
  rw [e1, e2, er]
  exact ifB_of (fun _ => ifB_of (fun _ => rfl) (fun h => teq_no rfl h)) (fun h => teq_no rfl h)

theorem walk12 (xs : HL [numS, numS, numS]) (h : okHL [numS, numS, numS] xs) : PC (bx Try.prog noGl) 12 (argsOf [numS, numS, numS] xs) (.av (.val .bool true)) := by
  obtain ⟨a, b, m, ⟨⟩⟩ := xs
  refine PC_of_fw (t := []) shU_ok ct4_ok mixed Try.func12 (c := Try.f12.body.getD .skip) rfl (by kernel_rfl) (by kernel_rfl) loopsNil rfl ?_
  rw [fw12]
  have hm := okwf4 h.2.2.1
  have A2 := lt4 (okwf4 h.1)
  have B2 := lt4 (okwf4 h.2.1)
  have M2 := lt4 hm
  refine ifB_of (fun h => ?_) (fun h => ?_)
  · have e : valN m = 0 := (val_z4 hm).2 (teq_iff.1 h)
    rw [e, errN_zero]
    exact ifB_of (fun _ => rfl) (fun h => absurd rfl (of_decide_eq_false h))
  · have M0 := mpos hm h
    clear h
    rw [remN_pos M0, remN_pos M0, remN_pos M0, remN_pos M0, remN_pos M0, remN_pos M0]
    generalize valN a = A at *
    generalize valN b = B at *
    generalize valN m = M at *
    have hA := Nat.mod_lt A M0
    have hB := Nat.mod_lt B M0
    have p1 : A * B < 2 ^ 256 * 2 ^ 256 := Nat.mul_lt_mul'' A2 B2
    have p2 : A % M * (B % M) < 2 ^ 256 * 2 ^ 256 := Nat.mul_lt_mul'' (by omega) (by omega)
    rw [v8 (n := A) (by omega), v8 (n := B) (by omega), v8 (n := A + B) (by omega), v4 (n := A % M) (by omega), v4 (n := B % M) (by omega), v8 (n := A % M) (by omega), v8 (n := B % M) (by omega),
      v8 (n := A % M + B % M) (by omega), v8 p1, v8 p2, ← Nat.add_mod, ← Nat.mul_mod]
    exact ifB_of (fun _ => pbool (teq_of rfl)) (fun h => teq_no rfl h)
end Go.Proofs.Ytninlahlmjhmhaa
