import Derived.Test.YtmekcdapbpioaaaGc
namespace Go.Proofs.Ytmekcdapbpioaaa
open Go.Ty

/-! ## Unpack -/
noncomputable def rtA (y : Nat) : Nat := (y * y % PP % PP + PP - 1 % PP) % PP * powP ((DD * (y * y % PP) % PP + 1) % PP) (PP - 2) % PP
noncomputable def upOk (M : Nat) : Bool := sqrtB (rtA (M % B255)) && (decide (M % B255 < PP) && !(decide (B255 ≤ M) && decide (sqrtN (rtA (M % B255)) = 0)))
noncomputable def upX (M : Nat) : Nat := bif decide (B255 ≤ M) then (PP - sqrtN (rtA (M % B255))) % PP else sqrtN (rtA (M % B255))
noncomputable def upF : HL [b32S] → SV := fun xs => .tup [.val ptS (wordsN 4 (bif upOk (valB xs.1) then upX (valB xs.1) else 0), wordsN 4 (bif upOk (valB xs.1) then valB xs.1 % B255 else 0), ()), .val i64S (errB (upOk (valB xs.1)) 4)]
theorem fw54 (b : Sh.T (.arr 32 u8S)) (P : SV → Prop) : FW G4 Try.f30.ntmps (LTab.look []) Try.f30 (argsOf [.arr 32 u8S] (b, ())) P =
 (  ifB
    (!sqrtB
        (valN
          (wordsN 4
            (valN
                  (wordsN 4
                    ((valN
                              (wordsN 4
                                (valN (wordsN 4 (valB (List.set b 31 (rd (Sh.int IntKind.u8) b 31 &&& 127#8)))) *
                                    valN (wordsN 4 (valB (List.set b 31 (rd (Sh.int IntKind.u8) b 31 &&& 127#8)))) %
                                  PP)) %
                            PP +
                          PP -
                        valN [1#64, 0#64, 0#64, 0#64] % PP) %
                      PP)) *
                valN
                  (wordsN 4
                    (powP
                      (valN
                        (wordsN 4
                          ((valN
                                (wordsN 4
                                  (valN (wordsN 4 DD) *
                                      valN
                                        (wordsN 4
                                          (valN
                                                (wordsN 4
                                                  (valB (List.set b 31 (rd (Sh.int IntKind.u8) b 31 &&& 127#8)))) *
                                              valN
                                                (wordsN 4
                                                  (valB (List.set b 31 (rd (Sh.int IntKind.u8) b 31 &&& 127#8)))) %
                                            PP)) %
                                    PP)) +
                              valN [1#64, 0#64, 0#64, 0#64]) %
                            PP)))
                      (PP - 2))) %
              PP))))
    (P
      (SV.tup
        [AV.val ((Sh.arr 4 (Sh.int IntKind.u64)).pair ((Sh.arr 4 (Sh.int IntKind.u64)).pair Sh.unit))
            ([0#64, 0#64, 0#64, 0#64], [0#64, 0#64, 0#64, 0#64], PUnit.unit),
          AV.val (Sh.int IntKind.i64) 4]))
    (ifB
      (!teq (Sh.arr 4 (Sh.int IntKind.u64)) (wordsN 4 (valB (List.set b 31 (rd (Sh.int IntKind.u8) b 31 &&& 127#8))))
          (wordsN 4 (valN (wordsN 4 (valB (List.set b 31 (rd (Sh.int IntKind.u8) b 31 &&& 127#8)))) % PP)))
      (P
        (SV.tup
          [AV.val ((Sh.arr 4 (Sh.int IntKind.u64)).pair ((Sh.arr 4 (Sh.int IntKind.u64)).pair Sh.unit))
              ([0#64, 0#64, 0#64, 0#64], [0#64, 0#64, 0#64, 0#64], PUnit.unit),
            AV.val (Sh.int IntKind.i64) 4]))
      (ifB (decide (rd (Sh.int IntKind.u8) b 31 >>> 7 = 1#8))
        (ifB
          (teq (Sh.arr 4 (Sh.int IntKind.u64))
            (wordsN 4
              (sqrtN
                (valN
                  (wordsN 4
                    (valN
                          (wordsN 4
                            ((valN
                                      (wordsN 4
                                        (valN (wordsN 4 (valB (List.set b 31 (rd (Sh.int IntKind.u8) b 31 &&& 127#8)))) *
                                            valN
                                              (wordsN 4 (valB (List.set b 31 (rd (Sh.int IntKind.u8) b 31 &&& 127#8)))) %
                                          PP)) %
                                    PP +
                                  PP -
                                valN [1#64, 0#64, 0#64, 0#64] % PP) %
                              PP)) *
                        valN
                          (wordsN 4
                            (powP
                              (valN
                                (wordsN 4
                                  ((valN
                                        (wordsN 4
                                          (valN (wordsN 4 DD) *
                                              valN
                                                (wordsN 4
                                                  (valN
                                                        (wordsN 4
                                                          (valB
                                                            (List.set b 31 (rd (Sh.int IntKind.u8) b 31 &&& 127#8)))) *
                                                      valN
                                                        (wordsN 4
                                                          (valB
                                                            (List.set b 31 (rd (Sh.int IntKind.u8) b 31 &&& 127#8)))) %
                                                    PP)) %
                                            PP)) +
                                      valN [1#64, 0#64, 0#64, 0#64]) %
                                    PP)))
                              (PP - 2))) %
                      PP)))))
            [0#64, 0#64, 0#64, 0#64])
          (P
            (SV.tup
              [AV.val ((Sh.arr 4 (Sh.int IntKind.u64)).pair ((Sh.arr 4 (Sh.int IntKind.u64)).pair Sh.unit))
                  ([0#64, 0#64, 0#64, 0#64], [0#64, 0#64, 0#64, 0#64], PUnit.unit),
                AV.val (Sh.int IntKind.i64) 4]))
          (ifB (decide (rd (Sh.int IntKind.u8) b 31 >>> 7 = 1#8))
            (P
              (SV.tup
                [AV.val ((Sh.arr 4 (Sh.int IntKind.u64)).pair ((Sh.arr 4 (Sh.int IntKind.u64)).pair Sh.unit))
                    (wordsN 4
                        ((valN [0#64, 0#64, 0#64, 0#64] % PP + PP -
                            valN
                                (wordsN 4
                                  (sqrtN
                                    (valN
                                      (wordsN 4
                                        (valN
                                              (wordsN 4
                                                ((valN
                                                          (wordsN 4
                                                            (valN
                                                                  (wordsN 4
                                                                    (valB
                                                                      (List.set b 31
                                                                        (rd (Sh.int IntKind.u8) b 31 &&& 127#8)))) *
                                                                valN
                                                                  (wordsN 4
                                                                    (valB
                                                                      (List.set b 31
                                                                        (rd (Sh.int IntKind.u8) b 31 &&& 127#8)))) %
                                                              PP)) %
                                                        PP +
                                                      PP -
                                                    valN [1#64, 0#64, 0#64, 0#64] % PP) %
                                                  PP)) *
                                            valN
                                              (wordsN 4
                                                (powP
                                                  (valN
                                                    (wordsN 4
                                                      ((valN
                                                            (wordsN 4
                                                              (valN (wordsN 4 DD) *
                                                                  valN
                                                                    (wordsN 4
                                                                      (valN
                                                                            (wordsN 4
                                                                              (valB
                                                                                (List.set b 31
                                                                                  (rd (Sh.int IntKind.u8) b 31 &&&
                                                                                    127#8)))) *
                                                                          valN
                                                                            (wordsN 4
                                                                              (valB
                                                                                (List.set b 31
                                                                                  (rd (Sh.int IntKind.u8) b 31 &&&
                                                                                    127#8)))) %
                                                                        PP)) %
                                                                PP)) +
                                                          valN [1#64, 0#64, 0#64, 0#64]) %
                                                        PP)))
                                                  (PP - 2))) %
                                          PP))))) %
                              PP) %
                          PP),
                      wordsN 4 (valB (List.set b 31 (rd (Sh.int IntKind.u8) b 31 &&& 127#8))), PUnit.unit),
                  AV.val (Sh.int IntKind.i64) 0]))
            (P
              (SV.tup
                [AV.val ((Sh.arr 4 (Sh.int IntKind.u64)).pair ((Sh.arr 4 (Sh.int IntKind.u64)).pair Sh.unit))
                    (wordsN 4
                        (sqrtN
                          (valN
                            (wordsN 4
                              (valN
                                    (wordsN 4
                                      ((valN
                                                (wordsN 4
                                                  (valN
                                                        (wordsN 4
                                                          (valB
                                                            (List.set b 31 (rd (Sh.int IntKind.u8) b 31 &&& 127#8)))) *
                                                      valN
                                                        (wordsN 4
                                                          (valB
                                                            (List.set b 31 (rd (Sh.int IntKind.u8) b 31 &&& 127#8)))) %
                                                    PP)) %
                                              PP +
                                            PP -
                                          valN [1#64, 0#64, 0#64, 0#64] % PP) %
                                        PP)) *
                                  valN
                                    (wordsN 4
                                      (powP
                                        (valN
                                          (wordsN 4
                                            ((valN
                                                  (wordsN 4
                                                    (valN (wordsN 4 DD) *
                                                        valN
                                                          (wordsN 4
                                                            (valN
                                                                  (wordsN 4
                                                                    (valB
                                                                      (List.set b 31
                                                                        (rd (Sh.int IntKind.u8) b 31 &&& 127#8)))) *
                                                                valN
                                                                  (wordsN 4
                                                                    (valB
                                                                      (List.set b 31
                                                                        (rd (Sh.int IntKind.u8) b 31 &&& 127#8)))) %
                                                              PP)) %
                                                      PP)) +
                                                valN [1#64, 0#64, 0#64, 0#64]) %
                                              PP)))
                                        (PP - 2))) %
                                PP)))),
                      wordsN 4 (valB (List.set b 31 (rd (Sh.int IntKind.u8) b 31 &&& 127#8))), PUnit.unit),
                  AV.val (Sh.int IntKind.i64) 0]))))
        (ifB (decide (rd (Sh.int IntKind.u8) b 31 >>> 7 = 1#8))
          (P
            (SV.tup
              [AV.val ((Sh.arr 4 (Sh.int IntKind.u64)).pair ((Sh.arr 4 (Sh.int IntKind.u64)).pair Sh.unit))
                  (wordsN 4
                      ((valN [0#64, 0#64, 0#64, 0#64] % PP + PP -
                          valN
                              (wordsN 4
                                (sqrtN
                                  (valN
                                    (wordsN 4
                                      (valN
                                            (wordsN 4
                                              ((valN
                                                        (wordsN 4
                                                          (valN
                                                                (wordsN 4
                                                                  (valB
                                                                    (List.set b 31
                                                                      (rd (Sh.int IntKind.u8) b 31 &&& 127#8)))) *
                                                              valN
                                                                (wordsN 4
                                                                  (valB
                                                                    (List.set b 31
                                                                      (rd (Sh.int IntKind.u8) b 31 &&& 127#8)))) %
                                                            PP)) %
                                                      PP +
                                                    PP -
                                                  valN [1#64, 0#64, 0#64, 0#64] % PP) %
                                                PP)) *
                                          valN
                                            (wordsN 4
                                              (powP
                                                (valN
                                                  (wordsN 4
                                                    ((valN
                                                          (wordsN 4
                                                            (valN (wordsN 4 DD) *
                                                                valN
                                                                  (wordsN 4
                                                                    (valN
                                                                          (wordsN 4
                                                                            (valB
                                                                              (List.set b 31
                                                                                (rd (Sh.int IntKind.u8) b 31 &&&
                                                                                  127#8)))) *
                                                                        valN
                                                                          (wordsN 4
                                                                            (valB
                                                                              (List.set b 31
                                                                                (rd (Sh.int IntKind.u8) b 31 &&&
                                                                                  127#8)))) %
                                                                      PP)) %
                                                              PP)) +
                                                        valN [1#64, 0#64, 0#64, 0#64]) %
                                                      PP)))
                                                (PP - 2))) %
                                        PP))))) %
                            PP) %
                        PP),
                    wordsN 4 (valB (List.set b 31 (rd (Sh.int IntKind.u8) b 31 &&& 127#8))), PUnit.unit),
                AV.val (Sh.int IntKind.i64) 0]))
          (P
            (SV.tup
              [AV.val ((Sh.arr 4 (Sh.int IntKind.u64)).pair ((Sh.arr 4 (Sh.int IntKind.u64)).pair Sh.unit))
                  (wordsN 4
                      (sqrtN
                        (valN
                          (wordsN 4
                            (valN
                                  (wordsN 4
                                    ((valN
                                              (wordsN 4
                                                (valN
                                                      (wordsN 4
                                                        (valB (List.set b 31 (rd (Sh.int IntKind.u8) b 31 &&& 127#8)))) *
                                                    valN
                                                      (wordsN 4
                                                        (valB (List.set b 31 (rd (Sh.int IntKind.u8) b 31 &&& 127#8)))) %
                                                  PP)) %
                                            PP +
                                          PP -
                                        valN [1#64, 0#64, 0#64, 0#64] % PP) %
                                      PP)) *
                                valN
                                  (wordsN 4
                                    (powP
                                      (valN
                                        (wordsN 4
                                          ((valN
                                                (wordsN 4
                                                  (valN (wordsN 4 DD) *
                                                      valN
                                                        (wordsN 4
                                                          (valN
                                                                (wordsN 4
                                                                  (valB
                                                                    (List.set b 31
                                                                      (rd (Sh.int IntKind.u8) b 31 &&& 127#8)))) *
                                                              valN
                                                                (wordsN 4
                                                                  (valB
                                                                    (List.set b 31
                                                                      (rd (Sh.int IntKind.u8) b 31 &&& 127#8)))) %
                                                            PP)) %
                                                    PP)) +
                                              valN [1#64, 0#64, 0#64, 0#64]) %
                                            PP)))
                                      (PP - 2))) %
                              PP)))),
                    wordsN 4 (valB (List.set b 31 (rd (Sh.int IntKind.u8) b 31 &&& 127#8))), PUnit.unit),
                AV.val (Sh.int IntKind.i64) 0])))))) := by kernel_rfl
set_option maxHeartbeats 1000000 in
theorem unpack_ok : COK Try.prog noGl 30 (conT [b32S] upF) := by
  refine conT_ok (fun xs hw => ?_) (fun xs => rfl)
  obtain ⟨b, ⟨⟩⟩ := xs
  have hl : b.length = 32 := hw.1.1
  have eF : upF (b, PUnit.unit) = .tup [.val ptS (wordsN 4 (bif upOk (valB b) then upX (valB b) else 0), wordsN 4 (bif upOk (valB b) then valB b % B255 else 0), ()), .val i64S (errB (upOk (valB b)) 4)] := rfl
  refine PC_of_fw (t := []) shV_ok g4_ok mixed Try.func30 (c := Try.f30.body.getD .skip) rfl (by kernel_rfl) (by kernel_rfl) loopsNil rfl ?_
  have z0 : valN [0#64, 0#64, 0#64, 0#64] = 0 := rfl
  have z1 : valN [1#64, 0#64, 0#64, 0#64] = 1 := rfl
  have hy : valB b % B255 < 2 ^ 256 := by
    have := Nat.mod_lt (valB b) (show 0 < B255 by rw [B255_eq]; decide)
    rw [B255_eq] at *; omega
  have hv : valN (wordsN 4 (valB b % B255)) = valB b % B255 := v4 hy
  rw [show (PUnit.unit : HL []) = () from rfl, fw54, eF]
  simp only [(unpack_top hl).1, (unpack_top hl).2, hv, vp, vpw, vs, z0, z1, DD_val, words_inj hy (vlt _), teq_z (sqrtN_lt _)]
  have er : (valB b % B255 * (valB b % B255) % PP % PP + PP - 1 % PP) % PP * powP ((DD * (valB b % B255 * (valB b % B255) % PP) % PP + 1) % PP) (PP - 2) % PP = rtA (valB b % B255) := rfl
  simp only [er]
  have ey : decide (valB b % B255 = valB b % B255 % PP) = decide (valB b % B255 < PP) := decide_eq_decide.2 ⟨fun e => by rw [e]; exact Nat.mod_lt _ PP_pos, fun e => (Nat.mod_eq_of_lt e).symm⟩
  rw [ey]
  unfold upOk upX errB
  generalize hY : valB b % B255 = y at *
  cases h1 : sqrtB (rtA y)
  · simp only [Bool.not_false, Bool.false_and, ifB_true, cond_false, w0_eq]
  · have hs := (sqrtN_spec h1).1
    cases h2 : decide (y < PP)
    · simp only [Bool.not_true, Bool.not_false, Bool.false_and, Bool.and_false, ifB_true, ifB_false, cond_false, w0_eq]
    · cases h3 : decide (B255 ≤ valB b)
      · simp only [Bool.not_true, Bool.not_false, Bool.false_and, Bool.true_and, ifB_false, cond_false, cond_true]
      · cases h4 : decide (sqrtN (rtA y) = 0)
        · simp only [Bool.not_true, Bool.not_false, Bool.true_and, ifB_true, ifB_false, cond_true, Nat.zero_mod, Nat.zero_add, Nat.mod_eq_of_lt hs]
        · simp only [Bool.not_true, Bool.true_and, ifB_true, ifB_false, cond_false, w0_eq]
noncomputable def placeF : HL [ptS] → SV := fun xs => .av (.val numS (wordsN 4 (bif onN (valN xs.1.1) (valN xs.1.2.1) then uN (valN xs.1.2.1) else 0)))
theorem fw66 (p : Sh.T (ptS)) (P : SV → Prop) : FW G4 Try.f43.ntmps (LTab.look []) Try.f43 (argsOf [ptS] (p, ())) P =
 (  P
    (SV.av
      (AV.val (Sh.arr 4 (Sh.int IntKind.u64)) (wordsN 4 (bif onN (valN p.1) (valN p.2.1) then uN (valN p.2.1) else 0))))) := by kernel_rfl
theorem place_ok : COK Try.prog noGl 43 (conT [ptS] placeF) := by
  refine conT_ok (fun xs hw => ?_) (fun xs => rfl)
  obtain ⟨p, ⟨⟩⟩ := xs
  refine PC_of_fw (t := []) shV_ok g4_ok mixed Try.func43 (c := Try.f43.body.getD .skip) rfl (by kernel_rfl) (by kernel_rfl) loopsNil rfl ?_
  rw [show (PUnit.unit : HL []) = () from rfl, fw66]; rfl
noncomputable def g5 : CTab := (30, conT [b32S] upF) :: (43, conT [ptS] placeF) :: g4
theorem g5_ok : ∀ p ∈ g5, COK Try.prog noGl p.1 p.2 := CCons unpack_ok (CCons place_ok g4_ok)
noncomputable abbrev G5 : Go.Ty.Cx := mkX Try.prog noGl shV g5

/-! ## What Unpack finds -/
theorem pwm_d : Go.Fer.pwm (2 ^ 255 - 19) 256 37095705934669439343138083508754565189542113879843219016388785533085940283555 (2 ^ 254 - 10) 1 % (2 ^ 255 - 19) = 2 ^ 255 - 19 - 1 := by kernel_rfl
theorem d_chi : DD ^ HH % PP = PP - 1 := by
  have h := Go.Fer.pwm_eq (p := PP) 256 DD HH 1 (by have := HH_2; have := PP_lt; omega)
  rw [Nat.one_mul] at h
  rw [← h, PP_eq, HH_eq, DD_eq]
  exact pwm_d
theorem d_nz : DD % PP ≠ 0 := by rw [Nat.mod_eq_of_lt DD_lt, DD_eq]; decide
theorem d_non : sqrtB DD = false := by rw [sqrtB_chi d_nz, d_chi]; exact decide_eq_false (by have := PP_3; omega)
/-- EDWARDS: d y^2 is never -1 -/
theorem dyy {y : Nat} (e : (DD * (y * y) + 1) % PP = 0) : False := by
  have h3 := PP_3
  by_cases hy : y % PP = 0
  · have : DD * (y * y) % PP = 0 := by rw [Nat.mul_mod, Nat.mul_mod y, hy, Nat.zero_mul, Nat.zero_mod, Nat.mul_zero, Nat.zero_mod]
    rw [← Nat.mod_add_mod, this, Nat.zero_add, Nat.mod_eq_of_lt (by omega)] at e
    cases e
  · have h1 := sqrt_mul d_nz (mul_nz hy hy)
    have h2 : DD * (y * y) % PP = PP - 1 := by
      have hl := Nat.mod_lt (DD * (y * y)) PP_pos
      rw [← Nat.mod_add_mod] at e
      generalize DD * (y * y) % PP = k at *
      by_cases c : k + 1 < PP
      · rw [Nat.mod_eq_of_lt c] at e; omega
      · omega
    rw [h2, sqrt_minus, d_non, sqrtB_sq (y := y) rfl] at h1
    cases h1
theorem rt_iff {x y : Nat} : x * x % PP = rtA y % PP ↔ y * y % PP = (x * x + (1 + DD * (x * x * (y * y)))) % PP := by
  have h3 := PP_3
  have hE : (DD * (y * y % PP) % PP + 1) % PP = (DD * (y * y) + 1) % PP := by simp only [Nat.mod_add_mod, Nat.mul_mod_mod]
  have hi : (DD * (y * y) + 1) % PP * powP ((DD * (y * y) + 1) % PP) (PP - 2) % PP = 1 := inv_mul (fun c => dyy (by rwa [Nat.mod_mod] at c))
  have hU := sub_eq_iff (A := y * y % PP) (B := 1) (C := x * x * (DD * (y * y) + 1) % PP) (Nat.mod_lt _ PP_pos) (by omega) (Nat.mod_lt _ PP_pos)
  have hR : (1 + x * x * (DD * (y * y) + 1) % PP) % PP = (x * x + (1 + DD * (x * x * (y * y)))) % PP := by
    rw [Nat.add_mod_mod]; congr 1; grind
  rw [hR] at hU
  rw [← hU]
  unfold rtA
  rw [hE, Nat.mod_mod, Nat.mod_mod, Nat.mod_eq_of_lt (show 1 < PP by omega)]
  have hul : (y * y % PP + PP - 1) % PP < PP := Nat.mod_lt _ PP_pos
  generalize hI : powP ((DD * (y * y) + 1) % PP) (PP - 2) = i at *
  generalize (y * y % PP + PP - 1) % PP = u at *
  rw [Nat.mod_mul_mod] at hi
  generalize DD * (y * y) + 1 = e at *
  have hu : (u * i) * e % PP = u % PP := by
    rw [show u * i * e = u * (e * i) by grind, Nat.mul_mod, hi, Nat.mul_one, Nat.mod_mod]
  have hx : (x * x * e) * i % PP = x * x % PP := by
    rw [show x * x * e * i = x * x * (e * i) by grind, Nat.mul_mod, hi, Nat.mul_one, Nat.mod_mod]
  constructor
  · intro h
    rw [← Nat.mod_mul_mod (x * x), h, Nat.mod_mul_mod, hu, Nat.mod_eq_of_lt hul]
  · intro h
    rw [← hx, ← Nat.mod_mul_mod (x * x * e), ← h]
end Go.Proofs.Ytmekcdapbpioaaa
