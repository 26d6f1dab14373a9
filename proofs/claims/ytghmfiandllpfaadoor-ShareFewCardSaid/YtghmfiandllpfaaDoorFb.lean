import Derived.Test.YtghmfiandllpfaaDoorB0
import Derived.Test.YtghmfiandllpfaaDoorFa
namespace Go.Proofs.YtghmfiandllpfaaDoor.Lb
open Go.Ty

theorem bor0 {x y : Nat} : decide ((bif decide (x < y) then 1#64 else 0#64) = 0#64) = !decide (x < y) := by cases decide (x < y) <;> rfl
theorem bor1 {x y : Nat} : decide ((bif decide (x < y) then 1#64 else 0#64) = 1#64) = decide (x < y) := by cases decide (x < y) <;> rfl
theorem PP_val : valN (wordsN 4 PP) = PP := v4 (by have := PP_lt; omega)
theorem PP_pos : 0 < PP := by rw [PP_eq] <;> decide
noncomputable def lowPF : HL [numS] → SV := fun xs => .av (.val numS (wordsN 4 (valN xs.1 % PP)))
abbrev I28 : List It := [.p 1 2000 numS, .p 2 2001 numS, .v 5 i64S]
abbrev o28 : List (Nat × List It) := [(0, [.p 1 2000 numS, .p 2 2001 numS])]
noncomputable def b28 : Code := Tryd.f88.body.getD .skip
noncomputable def Q28 : LQ I28 [] o28 := fun x _ Kx => (numS.wfT x.1 ∧ x.2.2.1 = 0) ∧ Kx.1 (wordsN 4 (valN x.1 % PP), x.2.1, ())
noncomputable abbrev L28 : LTab := [(2, ptL I28 [] o28 Q28)]
theorem round28 (a o : List (BitVec 64)) (i : Int) (Kn : HI I28 → Prop) (Kr : HI [] → Prop) (Kx : HP o28) : roundT (W F1 Tryd.f88.ntmps (LTab.look L28) (bodyAt b28 2)) I28 [] o28 (a, o, i, ()) Kn Kr Kx =
 (  ifB (decide (i < 2))
    (ifB (decide ((bif decide (valN a < valN (wordsN 4 PP)) then 1#64 else 0#64) = 0#64))
      (Kn (wordsN 4 (valN a + B256 - valN (wordsN 4 PP)), o, IntKind.i64.wrap (i + 1), PUnit.unit))
      (Kn (a, o, IntKind.i64.wrap (i + 1), PUnit.unit)))
    (Kx.1 (a, o, PUnit.unit))) := by kernel_rfl
theorem fw28 (a : Sh.T (numS)) (P : SV → Prop) : FW F1 Tryd.f88.ntmps (LTab.look L28) Tryd.f88 (argsOf [numS] (a, ())) P =
 (  Q28 (a, [0#64, 0#64, 0#64, 0#64], 0, PUnit.unit) (fun _ => False)
    (fun y => P (SV.av (AV.val (Sh.arr 4 (Sh.int IntKind.u64)) y.1)), PUnit.unit)) := by kernel_rfl

theorem dec_no {x y : Nat} (h : (!decide (x < y)) = true) : y ≤ x := by
  by_cases c : x < y
  · rw [decide_eq_true c] at h; cases h
  · omega
theorem dec_yes {x y : Nat} (h : (!decide (x < y)) = false) : x < y := by
  by_cases c : x < y
  · exact c
  · rw [decide_eq_false c] at h; cases h
theorem loop28 : ∀ x Kr Kx, Q28 x Kr Kx → ∃ n, untl (W F1 Tryd.f88.ntmps (LTab.look L28) (bodyAt b28 2)) I28 [] o28 n x Kr Kx := by
  rintro ⟨a, o, i, u⟩ Kr Kx ⟨⟨h1, h2⟩, hK⟩
  have h1 : numS.wfT a := h1
  have h2 : i = 0 := h2
  have hK : Kx.1 (wordsN 4 (valN a % PP), o, ()) := hK
  subst h2
  have A2 : valN a < 2 ^ 256 := lt4 h1
  have sa : wordsN 4 (valN a) = a := self4 h1
  have h2 := PP2
  have hp := PP_pos
  have hl := PP_lt
  have hPv := PP_val
  refine ⟨3, ?_⟩
  -- what a round makes
  have fin : ∀ x : List (BitVec 64), x = wordsN 4 (valN a % PP) → untl (W F1 Tryd.f88.ntmps (LTab.look L28) (bodyAt b28 2)) I28 [] o28 1 (x, o, (2 : Int), ()) Kr Kx := by
    intro x e
    rw [show (1 : Nat) = 0 + 1 from rfl, untl_succ, round28]
    refine ifB_of (fun h => absurd (of_decide_eq_true h) (by omega)) (fun _ => ?_)
    rw [e]; exact hK
  rw [show (3 : Nat) = 2 + 1 from rfl, untl_succ, round28, hPv, bor0, B256_eq]
  have w1 : IntKind.i64.wrap ((0 : Int) + 1) = 1 := by decide
  have w2 : IntKind.i64.wrap ((1 : Int) + 1) = 2 := by decide
  rw [w1]
  have e1 : PP ≤ valN a → valN (wordsN 4 (valN a + 2 ^ 256 - PP)) = valN a - PP := fun h => by rw [v4m]; omega
  refine ifB_of (fun _ => ifB_of (fun h => ?_) (fun h => ?_)) (fun h => absurd (of_decide_eq_false h) (by omega))
  · have h := dec_no h
    rw [show (2 : Nat) = 1 + 1 from rfl, untl_succ, round28, hPv, bor0, w2, B256_eq, e1 h]
    refine ifB_of (fun _ => ifB_of (fun h' => ?_) (fun h' => ?_)) (fun h => absurd (of_decide_eq_false h) (by omega))
    · have h' := dec_no h'
      refine fin _ (words_eq ?_)
      rw [Nat.mod_eq_sub_mod h, Nat.mod_eq_sub_mod h', Nat.mod_eq_of_lt (a := valN a - PP - PP) (by omega), show 64 * 4 = 256 from rfl]; omega
    · have h' := dec_yes h'
      refine fin _ (words_eq ?_)
      rw [Nat.mod_eq_sub_mod h, Nat.mod_eq_of_lt h', show 64 * 4 = 256 from rfl]; omega
  · have h := dec_yes h
    rw [show (2 : Nat) = 1 + 1 from rfl, untl_succ, round28, hPv, bor0, w2, B256_eq]
    refine ifB_of (fun _ => ifB_of (fun h' => ?_) (fun h' => ?_)) (fun h => absurd (of_decide_eq_false h) (by omega))
    · exact absurd (dec_no h') (by omega)
    · refine fin _ ?_
      rw [Nat.mod_eq_of_lt h, sa]
theorem lowP_ok : COK Tryd.prog GL 88 (conT [numS] lowPF) := by
  refine conT_ok (fun xs hw => ?_) (fun xs => rfl)
  obtain ⟨a, ⟨⟩⟩ := xs
  have wa : numS.wfT a := hw.1
  have eF : lowPF (a, PUnit.unit) = SV.av (.val numS (wordsN 4 (valN a % PP))) := rfl
  refine PC_of_fw (t := L28) shU_ok f1_ok mixed Tryd.func88 (c := b28) rfl (by kernel_rfl) (by kernel_rfl) (loopsOK (by kernel_rfl) (LTCons (loop_of shU_ok f1_ok mixed (loopsOK (by kernel_rfl) (LTCons (noLoop (by kernel_rfl)) LTNil)) (by kernel_rfl) loop28) LTNil)) rfl ?_
  rw [show (PUnit.unit : HL []) = () from rfl, fw28, eF]
  exact ⟨⟨wa, rfl⟩, rfl⟩
noncomputable def f2 : CTab := (88, conT [numS] lowPF) :: f1
theorem f2_ok : ∀ p ∈ f2, COK Tryd.prog GL p.1 p.2 := CCons lowP_ok f1_ok
noncomputable abbrev F2 : Go.Ty.Cx := mkX Tryd.prog GL shU f2

/-! ## sums, differences -/
noncomputable def addPF : HL [numS, numS] → SV := fun xs => .av (.val numS (wordsN 4 ((valN xs.1 + valN xs.2.1) % PP)))
noncomputable def subPF : HL [numS, numS] → SV := fun xs => .av (.val numS (wordsN 4 ((valN xs.1 % PP + PP - valN xs.2.1 % PP) % PP)))
noncomputable def mulPF : HL [numS, numS] → SV := fun xs => .av (.val numS (wordsN 4 (valN xs.1 * valN xs.2.1 % PP)))
theorem vp (X : Nat) : valN (wordsN 4 (X % PP)) = X % PP := v4 (by have := PP_lt; have := Nat.mod_lt X PP_pos; omega)
theorem fw31 (a : Sh.T (numS)) (b : Sh.T (numS)) (P : SV → Prop) : FW F2 Tryd.f91.ntmps (LTab.look []) Tryd.f91 (argsOf [numS, numS] (a, b, ())) P =
 (  P
    (SV.av
      (AV.val (Sh.arr 4 (Sh.int IntKind.u64))
        (wordsN 4 (valN (wordsN 4 (valN (wordsN 4 (valN a % PP)) + valN (wordsN 4 (valN b % PP)))) % PP))))) := by kernel_rfl
theorem fw33 (a : Sh.T (numS)) (b : Sh.T (numS)) (P : SV → Prop) : FW F2 Tryd.f90.ntmps (LTab.look []) Tryd.f90 (argsOf [numS, numS] (a, b, ())) P =
 (  ifB (decide ((bif decide (valN (wordsN 4 (valN a % PP)) < valN (wordsN 4 (valN b % PP))) then 1#64 else 0#64) = 1#64))
    (P
      (SV.av
        (AV.val (Sh.arr 4 (Sh.int IntKind.u64))
          (wordsN 4
            (valN (wordsN 4 (valN (wordsN 4 (valN a % PP)) + B256 - valN (wordsN 4 (valN b % PP)))) +
              valN (wordsN 4 PP))))))
    (P
      (SV.av
        (AV.val (Sh.arr 4 (Sh.int IntKind.u64))
          (wordsN 4 (valN (wordsN 4 (valN a % PP)) + B256 - valN (wordsN 4 (valN b % PP)))))))) := by kernel_rfl

theorem addP_ok : COK Tryd.prog GL 91 (conT [numS, numS] addPF) := by
  refine conT_ok (fun xs hw => ?_) (fun xs => rfl)
  obtain ⟨a, b, ⟨⟩⟩ := xs
  have eF : addPF (a, b, PUnit.unit) = SV.av (.val numS (wordsN 4 ((valN a + valN b) % PP))) := rfl
  refine PC_of_fw (t := []) shU_ok f2_ok mixed Tryd.func91 (c := Tryd.f91.body.getD .skip) rfl (by kernel_rfl) (by kernel_rfl) loopsNil rfl ?_
  rw [show (PUnit.unit : HL []) = () from rfl, fw31, eF, vp, vp]
  have h1 := Nat.mod_lt (valN a) PP_pos
  have h2 := Nat.mod_lt (valN b) PP_pos
  have h3 := PP_lt
  rw [v4 (n := valN a % PP + valN b % PP) (by omega), ← Nat.add_mod]
theorem subP_ok : COK Tryd.prog GL 90 (conT [numS, numS] subPF) := by
  refine conT_ok (fun xs hw => ?_) (fun xs => rfl)
  obtain ⟨a, b, ⟨⟩⟩ := xs
  have eF : subPF (a, b, PUnit.unit) = SV.av (.val numS (wordsN 4 ((valN a % PP + PP - valN b % PP) % PP))) := rfl
  refine PC_of_fw (t := []) shU_ok f2_ok mixed Tryd.func90 (c := Tryd.f90.body.getD .skip) rfl (by kernel_rfl) (by kernel_rfl) loopsNil rfl ?_
  rw [show (PUnit.unit : HL []) = () from rfl, fw33, eF, vp, vp, PP_val, bor1, B256_eq]
  have h1 := Nat.mod_lt (valN a) PP_pos
  have h2 := Nat.mod_lt (valN b) PP_pos
  have h3 := PP_lt
  generalize valN a % PP = A at *
  generalize valN b % PP = B at *
  generalize PP = M at *
  rw [v4m]
  refine ifB_of (fun h => ?_) (fun h => ?_)
  · have h1 := of_decide_eq_true h
    rw [Nat.mod_eq_of_lt (show A + M - B < M by omega), show wordsN 4 ((A + 2 ^ 256 - B) % 2 ^ 256 + M) = wordsN 4 (A + M - B) from words_eq (by rw [show 64 * 4 = 256 from rfl]; omega)]
  · have h1 := of_decide_eq_false h
    rw [show A + M - B = (A - B) + M by omega, Nat.add_mod_right, Nat.mod_eq_of_lt (show A - B < M by omega), show wordsN 4 (A + 2 ^ 256 - B) = wordsN 4 (A - B) from words_eq (by rw [show 64 * 4 = 256 from rfl]; omega)]

/-! ## products -/
abbrev Im : List It := [.p 4 2000 numS, .p 5 2001 wideS, .p 6 2002 numS, .v 7 u64S, .v 16 i64S]
abbrev oum : List (Nat × List It) := [(0, [.p 4 2000 numS, .p 6 2002 numS, .v 7 u64S])]
noncomputable def bm : Code := Tryd.f89.body.getD .skip
def Qm : LQ Im [] oum := fun x _ Kx => (wideS.wfT x.2.1 ∧ x.2.2.1 = wordsN 4 0 ∧ x.2.2.2.1 = 0#64 ∧ x.2.2.2.2.1 = 0) ∧
  ∀ (y : List (BitVec 64)) (c : BitVec 64), numS.wfT y → valN y + 2 ^ 256 * c.toNat = valN x.2.1 % 2 ^ 256 + 38 * (valN x.2.1 / 2 ^ 256) → Kx.1 (x.1, y, c, ())
noncomputable abbrev Lm : LTab := [(5, ptL Im [] oum Qm)]
theorem roundm (o w x : List (BitVec 64)) (c : BitVec 64) (i : Int) (Kn : HI Im → Prop) (Kr : HI [] → Prop) (Kx : HP oum) : roundT (W F2 Tryd.f89.ntmps (LTab.look Lm) (bodyAt bm 5)) Im [] oum (o, w, x, c, i, ()) Kn Kr Kx =
 (  ifB (decide (i < 4))
    (dmd (decide (0 ≤ IntKind.i64.wrap (i + 4)) && decide (IntKind.i64.wrap (i + 4) < 8))
      (dmd (decide (0 ≤ i) && decide (i < 8))
        (dmd (decide (0 ≤ i) && decide (i < 4))
          (Kn
            (o, w,
              x.set i.toNat
                (BitVec.ofNat 64
                  ((BitVec.ofNat 64
                          ((BitVec.ofNat 64
                                  (BitVec.toNat (rd (Sh.int IntKind.u64) w (IntKind.i64.wrap (i + 4)).toNat) *
                                    38)).toNat +
                              BitVec.toNat (rd (Sh.int IntKind.u64) w i.toNat) +
                            0)).toNat +
                      c.toNat +
                    0)),
              BitVec.ofNat 64
                    (BitVec.toNat (rd (Sh.int IntKind.u64) w (IntKind.i64.wrap (i + 4)).toNat) * 38 /
                      (2 ^ 64)) +
                  BitVec.ofNat 64
                    (((BitVec.ofNat 64
                              (BitVec.toNat (rd (Sh.int IntKind.u64) w (IntKind.i64.wrap (i + 4)).toNat) * 38)).toNat +
                          BitVec.toNat (rd (Sh.int IntKind.u64) w i.toNat) +
                        0) /
                      (2 ^ 64)) +
                BitVec.ofNat 64
                  (((BitVec.ofNat 64
                            ((BitVec.ofNat 64
                                    (BitVec.toNat (rd (Sh.int IntKind.u64) w (IntKind.i64.wrap (i + 4)).toNat) *
                                      38)).toNat +
                                BitVec.toNat (rd (Sh.int IntKind.u64) w i.toNat) +
                              0)).toNat +
                        c.toNat +
                      0) /
                    (2 ^ 64)),
              IntKind.i64.wrap (i + 1), PUnit.unit)))))
    (Kx.1 (o, x, c, PUnit.unit))) := by kernel_rfl
theorem fw32 (a : Sh.T (numS)) (b : Sh.T (numS)) (P : SV → Prop) : FW F2 Tryd.f89.ntmps (LTab.look Lm) Tryd.f89 (argsOf [numS, numS] (a, b, ())) P =
 (  Qm ([0#64, 0#64, 0#64, 0#64], wordsN 8 (valN a * valN b), [0#64, 0#64, 0#64, 0#64], 0#64, 0, PUnit.unit)
    (fun _ => False)
    (fun y =>
      ifB (decide (BitVec.ofNat 64 ((valN y.2.1 + valN [y.2.2.1 * 38#64, 0#64, 0#64, 0#64]) / B256) = 1#64))
        (P
          (SV.av
            (AV.val (Sh.arr 4 (Sh.int IntKind.u64))
              (wordsN 4
                (valN
                    (wordsN 4
                      (valN (wordsN 4 (valN y.2.1 + valN [y.2.2.1 * 38#64, 0#64, 0#64, 0#64])) +
                        valN [38#64, 0#64, 0#64, 0#64])) %
                  PP)))))
        (P
          (SV.av
            (AV.val (Sh.arr 4 (Sh.int IntKind.u64))
              (wordsN 4 (valN (wordsN 4 (valN y.2.1 + valN [y.2.2.1 * 38#64, 0#64, 0#64, 0#64])) % PP))))),
      PUnit.unit)) := by kernel_rfl

theorem hi_words {w : List (BitVec 64)} (h : wideS.wfT w) : valN w / 2 ^ 256 = valN (w.drop 4) ∧ (w.drop 4).length = 4 := by
  have hl : w.length = 8 := h.1
  have e := words_high (xs := w.take 4) (ys := w.drop 4)
  rw [List.take_append_drop, List.length_take, hl, show 64 * min 4 8 = 256 from rfl] at e
  exact ⟨e, by rw [List.length_drop, hl]⟩
theorem rd_drop (w : List (BitVec 64)) (j : Nat) : rd u64S (w.drop 4) j = rd u64S w (j + 4) := by
  unfold rd
  rw [List.getD_eq_getElem?_getD, List.getD_eq_getElem?_getD, List.getElem?_drop, Nat.add_comm]
theorem num_set {t : List (BitVec 64)} {n : Nat} {y : BitVec 64} (h : numS.wfT t) : numS.wfT (t.set n y) := ⟨by rw [List.length_set]; exact h.1, fun _ _ => trivial⟩
set_option maxRecDepth 100000 in
set_option maxHeartbeats 1000000 in
theorem loopm : ∀ x Kr Kx, Qm x Kr Kx → ∃ n, untl (W F2 Tryd.f89.ntmps (LTab.look Lm) (bodyAt bm 5)) Im [] oum n x Kr Kx := by
  rintro ⟨o, w, x0, c0, i0, u⟩ Kr Kx ⟨⟨h1, h2, h3, h4⟩, hK⟩
  have h1 : wideS.wfT w := h1
  have h2 : x0 = wordsN 4 0 := h2
  have h3 : c0 = 0#64 := h3
  have h4 : i0 = 0 := h4
  have hK : ∀ (y : List (BitVec 64)) (c : BitVec 64), numS.wfT y → valN y + 2 ^ 256 * c.toNat = valN w % 2 ^ 256 + 38 * (valN w / 2 ^ 256) → Kx.1 (o, y, c, ()) := hK
  subst h2 h3 h4
  obtain ⟨ehi, lhi⟩ := hi_words h1
  have key : ∀ (d j : Nat) (x : List (BitVec 64)) (c : BitVec 64), j + d = 4 → numS.wfT x → valN x < 2 ^ (64 * j) → valN x + 2 ^ (64 * j) * c.toNat = valN w % 2 ^ (64 * j) + 38 * (valN (w.drop 4) % 2 ^ (64 * j)) →
      untl (W F2 Tryd.f89.ntmps (LTab.look Lm) (bodyAt bm 5)) Im [] oum (d + 1) (o, w, x, c, (j : Int), ()) Kr Kx := by
    intro d
    induction d with
    | zero =>
      intro j x c hj wx hx e
      have hj : j = 4 := by omega
      subst hj
      rw [untl_succ, roundm]
      refine ifB_of (fun h => absurd (of_decide_eq_true h) (by omega)) (fun _ => ?_)
      rw [show 64 * 4 = 256 from rfl] at e
      have hlt := valN_lt (w.drop 4)
      rw [lhi, show 64 * 4 = 256 from rfl] at hlt
      rw [Nat.mod_eq_of_lt hlt] at e
      exact hK x c wx (by rw [ehi]; exact e)
    | succ d ih =>
      intro j x c hj wx hx e
      rw [untl_succ, roundm]
      have e1 : (j : Int) + 4 = ((j + 4 : Nat) : Int) := by omega
      have e2 : (j : Int) + 1 = ((j + 1 : Nat) : Int) := by omega
      rw [e1, e2, i64n (n := j + 4) (by omega), i64n (n := j + 1) (by omega), Int.toNat_natCast, Int.toNat_natCast]
      refine ifB_of (fun _ => dmd_of (bounds (k := 8) (by omega)) (dmd_of (bounds (k := 8) (by omega)) (dmd_of (bounds (k := 4) (by omega)) ?_))) (fun h => absurd (of_decide_eq_false h) (by omega))
      obtain ⟨lo, hi, b1, b2, b3, b4, b5⟩ := mul_add2 (BitVec.isLt (rd u64S w (j + 4))) (show 38 < 2 ^ 64 by omega) (BitVec.isLt (rd u64S w j)) (BitVec.isLt c)
      have b4' : BitVec.ofNat 64 ((BitVec.ofNat 64 ((BitVec.ofNat 64 (BitVec.toNat (rd (Sh.int IntKind.u64) w (j + 4)) * 38)).toNat + BitVec.toNat (rd (Sh.int IntKind.u64) w j) + 0)).toNat + c.toNat + 0) = BitVec.ofNat 64 lo := b4
      have b5' : BitVec.ofNat 64 (BitVec.toNat (rd (Sh.int IntKind.u64) w (j + 4)) * 38 / 2 ^ 64) + BitVec.ofNat 64 (((BitVec.ofNat 64 (BitVec.toNat (rd (Sh.int IntKind.u64) w (j + 4)) * 38)).toNat + BitVec.toNat (rd (Sh.int IntKind.u64) w j) + 0) / 2 ^ 64) +
          BitVec.ofNat 64 (((BitVec.ofNat 64 ((BitVec.ofNat 64 (BitVec.toNat (rd (Sh.int IntKind.u64) w (j + 4)) * 38)).toNat + BitVec.toNat (rd (Sh.int IntKind.u64) w j) + 0)).toNat + c.toNat + 0) / 2 ^ 64) = BitVec.ofNat 64 hi := b5
      rw [b4', b5']
      have hs := valN_set x j (BitVec.ofNat 64 lo) (by rw [show x.length = 4 from wx.1]; omega)
      have hz : (rd u64S x j).toNat = 0 := by rw [← word_at x j, Nat.div_eq_of_lt hx]
      rw [hz, Nat.mul_zero, Nat.add_zero, BitVec.toNat_ofNat, Nat.mod_eq_of_lt b1] at hs
      have hmw := mod_word w j
      have hmh := mod_word (w.drop 4) j
      rw [rd_drop] at hmh
      refine ih (j + 1) _ _ (by omega) (num_set wx) ?_ ?_
      · rw [hs, show 64 * (j + 1) = 64 * j + 64 by omega, Nat.pow_add]
        have : 2 ^ (64 * j) * (lo + 1) ≤ 2 ^ (64 * j) * 2 ^ 64 := Nat.mul_le_mul_left _ b1
        rw [Nat.mul_add, Nat.mul_one] at this
        omega
      · rw [BitVec.toNat_ofNat, Nat.mod_eq_of_lt b2, hmw, hmh, hs, show 64 * (j + 1) = 64 * j + 64 by omega, Nat.pow_add]
        clear b4 b5 b4' b5' ih hK hs hmw hmh ehi
        generalize (rd u64S w (j + 4)).toNat = wh at *
        generalize (rd u64S w j).toNat = wl at *
        generalize valN w % 2 ^ (64 * j) = Wl at *
        generalize valN (w.drop 4) % 2 ^ (64 * j) = Wh at *
        generalize c.toNat = c' at *
        generalize 2 ^ (64 * j) = B at *
        generalize valN x = X at *
        grind
  have := key 4 0 (wordsN 4 0) 0#64 (by omega) (num_wf _) (by rw [v4 (by omega)]; simp) (by rw [v4 (by omega), show (0#64).toNat = 0 from rfl]; simp [Nat.mod_one])
  exact ⟨_, this⟩
theorem v38 {c : BitVec 64} (h : c.toNat ≤ 38) : valN [c * 38#64, 0#64, 0#64, 0#64] = c.toNat * 38 := by
  show (c * 38#64).toNat + 2 ^ 64 * 0 = _
  rw [BitVec.toNat_mul, show (38#64).toNat = 38 from rfl]; omega
theorem fold38 {T lo hi x c P : Nat} (hP : 2 ^ 256 = 2 * P + 38) (h1 : T = lo + 2 ^ 256 * hi) (h2 : x + 2 ^ 256 * c = lo + 38 * hi) : (x + c * 38) % P = T % P := by
  have e : x + c * 38 + P * (2 * c + 2 * hi) = T := by
    rw [h1]
    have h3 : 2 ^ 256 * c = 2 * (P * c) + 38 * c := by rw [hP, Nat.add_mul, Nat.mul_assoc]
    have h4 : 2 ^ 256 * hi = 2 * (P * hi) + 38 * hi := by rw [hP, Nat.add_mul, Nat.mul_assoc]
    rw [h3] at h2
    rw [h4, Nat.mul_add, Nat.mul_left_comm P 2 c, Nat.mul_left_comm P 2 hi]
    generalize P * c = Pc at *
    generalize P * hi = Ph at *
    omega
  have e2 := congrArg (· % P) e
  simp only [Nat.add_mul_mod_self_left] at e2
  exact e2
theorem mulP_ok : COK Tryd.prog GL 89 (conT [numS, numS] mulPF) := by
  refine conT_ok (fun xs hw => ?_) (fun xs => rfl)
  obtain ⟨a, b, ⟨⟩⟩ := xs
  have A2 : valN a < 2 ^ 256 := lt4 hw.1
  have B2 : valN b < 2 ^ 256 := lt4 hw.2.1
  have eF : mulPF (a, b, PUnit.unit) = SV.av (.val numS (wordsN 4 (valN a * valN b % PP))) := rfl
  refine PC_of_fw (t := Lm) shU_ok f2_ok mixed Tryd.func89 (c := bm) rfl (by kernel_rfl) (by kernel_rfl) (loopsOK (by kernel_rfl) (LTCons (loop_of shU_ok f2_ok mixed (loopsOK (by kernel_rfl) (LTCons (noLoop (by kernel_rfl)) LTNil)) (by kernel_rfl) loopm) LTNil)) rfl ?_
  rw [show (PUnit.unit : HL []) = () from rfl, fw32, eF]
  refine ⟨⟨wide_wf _, show [0#64, 0#64, 0#64, 0#64] = wordsN 4 0 from by rw [wordsN_eq]; decide, rfl, rfl⟩, fun y c wy e => ?_⟩
  have hT : valN a * valN b < 2 ^ 256 * 2 ^ 256 := Nat.mul_lt_mul'' A2 B2
  have e : valN y + 2 ^ 256 * c.toNat = valN (wordsN 8 (valN a * valN b)) % 2 ^ 256 + 38 * (valN (wordsN 8 (valN a * valN b)) / 2 ^ 256) := e
  rw [v8 hT] at e
  have hhi : valN a * valN b / 2 ^ 256 < 2 ^ 256 := Nat.div_lt_of_lt_mul hT
  have hlo := Nat.mod_lt (valN a * valN b) (show 0 < 2 ^ 256 by omega)
  have hdm := Nat.div_add_mod (valN a * valN b) (2 ^ 256)
  have Y2 : valN y < 2 ^ 256 := lt4 wy
  have hc : c.toNat ≤ 38 := by omega
  have hf := fold38 PP2 (show valN a * valN b = valN a * valN b % 2 ^ 256 + 2 ^ 256 * (valN a * valN b / 2 ^ 256) by omega) e
  have h38 : valN [38#64, 0#64, 0#64, 0#64] = 38 := rfl
  show ifB (decide (BitVec.ofNat 64 ((valN y + valN [c * 38#64, 0#64, 0#64, 0#64]) / B256) = 1#64))
    (SV.av (AV.val numS (wordsN 4 (valN (wordsN 4 (valN (wordsN 4 (valN y + valN [c * 38#64, 0#64, 0#64, 0#64])) + valN [38#64, 0#64, 0#64, 0#64])) % PP))) = SV.av (.val numS (wordsN 4 (valN a * valN b % PP))))
    (SV.av (AV.val numS (wordsN 4 (valN (wordsN 4 (valN y + valN [c * 38#64, 0#64, 0#64, 0#64])) % PP))) = SV.av (.val numS (wordsN 4 (valN a * valN b % PP))))
  rw [v38 hc, h38, ← hf, B256_eq]
  clear hf e hdm hhi hlo hT
  have hP := PP2
  generalize valN y = Y at *
  generalize c.toNat = c' at *
  have hq : (Y + c' * 38) / 2 ^ 256 ≤ 1 := by omega
  refine ifB_of (fun h => ?_) (fun h => ?_)
  · have h := congrArg BitVec.toNat (of_decide_eq_true h)
    rw [BitVec.toNat_ofNat, show (1#64).toNat = 1 from rfl] at h
    have h1 : 2 ^ 256 ≤ Y + c' * 38 := by omega
    rw [v4m, v4m, show ((Y + c' * 38) % 2 ^ 256 + 38) % 2 ^ 256 = Y + c' * 38 - 2 ^ 256 + 38 by omega]
    have e1 : Y + c' * 38 = Y + c' * 38 - 2 ^ 256 + 38 + PP * 2 := by omega
    conv => rhs; rw [e1, Nat.add_mul_mod_self_left]
  · have h1 : Y + c' * 38 < 2 ^ 256 := by
      rcases Nat.lt_or_ge (Y + c' * 38) (2 ^ 256) with c | c
      · exact c
      · exact absurd (by rw [show (Y + c' * 38) / 2 ^ 256 = 1 by omega]) (of_decide_eq_false h)
    rw [v4 h1]
noncomputable def f3 : CTab := (91, conT [numS, numS] addPF) :: (90, conT [numS, numS] subPF) :: (89, conT [numS, numS] mulPF) :: f2
theorem f3_ok : ∀ p ∈ f3, COK Tryd.prog GL p.1 p.2 := CCons addP_ok (CCons subP_ok (CCons mulP_ok f2_ok))
noncomputable abbrev F3 : Go.Ty.Cx := mkX Tryd.prog GL shU f3
end Go.Proofs.YtghmfiandllpfaaDoor.Lb
