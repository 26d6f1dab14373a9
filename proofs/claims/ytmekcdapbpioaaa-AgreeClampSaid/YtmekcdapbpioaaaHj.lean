import Derived.Test.YtmekcdapbpioaaaHi
namespace Go.Proofs.Ytmekcdapbpioaaa
open Go.Ty

/-! ## The numbers that two agree on -/
theorem pl_base : Go.Edw.pl ivF bF.2 = tf 9 := by
  show Go.Edw.pl ivF (tf BY) = tf 9
  unfold Go.Edw.pl
  have hd : (1 : FF) - tf BY ≠ 0 := by
    rw [← tf_one, ← tf_sub]
    refine tf_nz ?_
    rw [PP_eq, BY_eq]; decide
  have hi := ivF_mul hd
  refine crv.canc hd ?_
  have e1 : tf 9 * (1 - tf BY) = 1 + tf BY := by
    rw [← tf_one, ← tf_sub, ← tf_mul, ← tf_add]
    refine tf_eq.2 ?_
    rw [PP_eq, BY_eq]
  generalize ivF (1 - tf BY) = v at *
  have : (1 - tf BY) * ((1 + tf BY) * v) = (1 + tf BY) * ((1 - tf BY) * v) := by grind
  rw [this, hi, ← e1]; grind
theorem pl_one : Go.Edw.pl ivF 1 = 0 := by
  unfold Go.Edw.pl
  rw [show (1 : FF) - 1 = 0 by grind, ivF_zero]; grind
theorem pl_ne {P : FF × FF} (h : Go.Edw.On dF P) (h0 : P.1 ≠ 0) : Go.Edw.pl ivF P.2 ≠ 0 := by
  intro e
  unfold Go.Edw.pl at e
  have n1 : 1 - P.2 ≠ 0 := fun e => crv.y_ne (x0 := P.1) (y0 := P.2) h h0 (Go.Edw.one_of e)
  rcases crv.hz e with e | e
  · refine crv.y_ne (x0 := P.1) (y0 := P.2) h h0 ?_
    have : P.2 = -1 := by clear h h0 n1; grind
    rw [this]; clear this e h h0 n1; grind
  · have := ivF_mul n1
    rw [e] at this
    exact crv.one (by rw [← this]; clear this e h h0 n1; grind)
theorem dbl_zero {P : FF × FF} (h : Go.Edw.On dF P) (h0 : P.1 = 0) : Go.Edw.add dF ivF P P = (0, 1) := by
  have h : P.2 * P.2 = P.1 * P.1 + 1 + dF * (P.1 * P.1) * (P.2 * P.2) := h
  unfold Go.Edw.add
  rw [h0] at h ⊢
  rw [show (1 : FF) - dF * (0 * 0 * P.2 * P.2) = 1 by clear h; grind, crv.iv_one]
  refine Prod.ext ?_ ?_ <;> dsimp only
  · clear h; grind
  · rw [h]; clear h; grind
theorem LL_2 : 2 < LL := by rw [LL_eq] <;> decide
theorem nd_mul {a b : Nat} (ha : a % LL ≠ 0) (hb : b % LL ≠ 0) : a * b % LL ≠ 0 := by
  intro e
  rcases ferLL.dvd_mul (Nat.dvd_of_mod_eq_zero e) with c | c
  · exact ha (Nat.mod_eq_zero_of_dvd c)
  · exact hb (Nat.mod_eq_zero_of_dvd c)
theorem base_x {n : Nat} (h : n % LL ≠ 0) : (Go.Edw.mul dF ivF n bF).1 ≠ 0 := by
  intro e
  have := dbl_zero (crv.mul_on bF_on n) e
  rw [← crv.mul_add bF_on, ← Nat.two_mul] at this
  refine nd_mul ?_ h ((base_iff _).1 this)
  have := LL_2
  rw [Nat.mod_eq_of_lt this]; decide
theorem base_pl {n : Nat} (h : n % LL ≠ 0) : Go.Edw.pl ivF (Go.Edw.mul dF ivF n bF).2 ≠ 0 := pl_ne (crv.mul_on bF_on n) (base_x h)
def clN (M : Nat) : Nat := M % 2 ^ 254 / 8 * 8 + 2 ^ 254
theorem clN_lt (M : Nat) : clN M < 2 ^ 255 := by unfold clN; omega
theorem clN_ge (M : Nat) : 2 ^ 254 ≤ clN M := by unfold clN; omega
theorem clN_8 (M : Nat) : clN M = clN M / 8 * 8 := by unfold clN; omega
theorem clN_256 (M : Nat) : clN M < 2 ^ 256 := by have := clN_lt M; omega
theorem clN_nd (M : Nat) : clN M % LL ≠ 0 := by
  have h1 := clN_lt M
  have h2 := clN_ge M
  rw [clN_8 M]
  have hl : 2 ^ 252 < LL := by rw [LL_eq]; decide
  refine nd_mul ?_ ?_
  · rw [Nat.mod_eq_of_lt (by omega)]; omega
  · rw [Nat.mod_eq_of_lt (by omega)]; decide
noncomputable def clampF : HL [b32S] → SV := fun xs => .av (.val numS (wordsN 4 (clN (valB xs.1))))
noncomputable def pubV (M : Nat) : FF := Classical.choose (⟨Go.Edw.ladv kF ivF (tf 9) (clN M), rfl⟩ : ∃ x, x = Go.Edw.ladv kF ivF (tf 9) (clN M))
theorem pubV_def (M : Nat) : pubV M = Go.Edw.ladv kF ivF (tf 9) (clN M) := Classical.choose_spec (⟨Go.Edw.ladv kF ivF (tf 9) (clN M), rfl⟩ : ∃ x, x = Go.Edw.ladv kF ivF (tf 9) (clN M))
noncomputable def shV_ (M N : Nat) : FF := Classical.choose (⟨Go.Edw.ladv kF ivF (tf (N % B255)) (clN M), rfl⟩ : ∃ x, x = Go.Edw.ladv kF ivF (tf (N % B255)) (clN M))
theorem shV_def (M N : Nat) : shV_ M N = Go.Edw.ladv kF ivF (tf (N % B255)) (clN M) := Classical.choose_spec (⟨Go.Edw.ladv kF ivF (tf (N % B255)) (clN M), rfl⟩ : ∃ x, x = Go.Edw.ladv kF ivF (tf (N % B255)) (clN M))
noncomputable def shB (M N : Nat) : Bool := Classical.choose (⟨!decide (shV_ M N = 0), rfl⟩ : ∃ b, b = !decide (shV_ M N = 0))
theorem shB_def (M N : Nat) : shB M N = !decide (shV_ M N = 0) := Classical.choose_spec (⟨!decide (shV_ M N = 0), rfl⟩ : ∃ b, b = !decide (shV_ M N = 0))
noncomputable def publicF : HL [b32S] → SV := fun xs => .av (.val b32S (bytesB 32 (pubV (valB xs.1)).val))
noncomputable def sharedF : HL [b32S, b32S] → SV := fun xs => .tup [.val b32S (bytesB 32 (shV_ (valB xs.1) (valB xs.2.1)).val), .val i64S (errB (shB (valB xs.1) (valB xs.2.1)) 1)]
theorem pubV_eq (M : Nat) : pubV M = Go.Edw.pl ivF (Go.Edw.mul dF ivF (clN M) bF).2 := by
  rw [pubV_def, ← pl_base, ladder_pt bF_on (clN_256 M)]
theorem val_bytes (v : FF) : valB (bytesB 32 v.val) = v.val := valB_bytes 32 _ (by
  have := v.isLt; have := PP_lt
  have e : (256 : Nat) ^ 32 = 2 ^ 256 := by decide
  omega)
theorem sh_val (M : Nat) (v : FF) : shV_ M v.val = Go.Edw.ladv kF ivF v (clN M) := by
  rw [shV_def, Nat.mod_eq_of_lt (by have := v.isLt; have := PP_255; omega), tf_self]
theorem sh_pl (M : Nat) {P : FF × FF} (h : Go.Edw.On dF P) : shV_ M (Go.Edw.pl ivF P.2).val = Go.Edw.pl ivF (Go.Edw.mul dF ivF (clN M) P).2 := by
  rw [sh_val, ladder_pt h (clN_256 M)]
theorem sh_base (M n : Nat) : shV_ M (Go.Edw.pl ivF (Go.Edw.mul dF ivF n bF).2).val = Go.Edw.pl ivF (Go.Edw.mul dF ivF (clN M * n) bF).2 := by
  rw [sh_pl M (crv.mul_on bF_on n), crv.mul_mul bF_on]
theorem shB_base (M : Nat) {n : Nat} (h : n % LL ≠ 0) : shB M (Go.Edw.pl ivF (Go.Edw.mul dF ivF n bF).2).val = true := by
  rw [shB_def, sh_base, decide_eq_false (base_pl (nd_mul (clN_nd M) h))]; rfl
/-! ## Bits put in their places -/
theorem of_ends {b : List (BitVec 8)} (h : b.length = 32) : ∃ x mid t, b = x :: (mid ++ [t]) ∧ mid.length = 30 := by
  obtain ⟨b0, b1, b2, b3, b4, b5, b6, b7, b8, b9, b10, b11, b12, b13, b14, b15, b16, b17, b18, b19, b20, b21, b22, b23, b24, b25, b26, b27, b28, b29, b30, b31, rfl⟩ := of32 h
  exact ⟨b0, [b1, b2, b3, b4, b5, b6, b7, b8, b9, b10, b11, b12, b13, b14, b15, b16, b17, b18, b19, b20, b21, b22, b23, b24, b25, b26, b27, b28, b29, b30], b31, rfl, rfl⟩
theorem ends_val (x t : BitVec 8) {mid : List (BitVec 8)} (hm : mid.length = 30) : valB (x :: (mid ++ [t])) = x.toNat + 256 * (valB mid + 256 ^ 30 * t.toNat) := by
  show x.toNat + 256 * valB (mid ++ [t]) = _
  rw [valB_append, hm]; rfl
theorem ends_set (x t y : BitVec 8) {mid : List (BitVec 8)} (hm : mid.length = 30) : (x :: (mid ++ [t])).set 31 y = x :: (mid ++ [y]) := set_top (x :: mid) t y (by rw [List.length_cons, hm])
theorem ends_rd (x t : BitVec 8) {mid : List (BitVec 8)} (hm : mid.length = 30) : rd (Sh.int IntKind.u8) (x :: (mid ++ [t])) 31 = t := rd_top (x :: mid) t (by rw [List.length_cons, hm])
theorem and248 : ∀ x : BitVec 8, (x &&& 248#8).toNat = x.toNat / 8 * 8 := by decide
theorem top64 : ∀ t : BitVec 8, (t &&& 127#8 ||| 64#8).toNat = t.toNat % 64 + 64 := by decide
theorem xor7 : ∀ x : BitVec 8, (x ^^^ 7#8).toNat / 8 = x.toNat / 8 := by decide
theorem xor192 : ∀ t : BitVec 8, (t ^^^ 192#8).toNat % 64 = t.toNat % 64 := by decide
theorem xor128 : ∀ t : BitVec 8, (t ^^^ 128#8).toNat % 128 = t.toNat % 128 := by decide
theorem clamp_val {b : List (BitVec 8)} (h : b.length = 32) : valB ((b.set 0 (rd (Sh.int IntKind.u8) b 0 &&& 248#8)).set 31 (rd (Sh.int IntKind.u8) (b.set 0 (rd (Sh.int IntKind.u8) b 0 &&& 248#8)) 31 &&& 127#8 ||| 64#8)) = clN (valB b) := by
  obtain ⟨x, mid, t, rfl, hm⟩ := of_ends h
  have e : (x :: (mid ++ [t])).set 0 (rd (Sh.int IntKind.u8) (x :: (mid ++ [t])) 0 &&& 248#8) = (x &&& 248#8) :: (mid ++ [t]) := rfl
  rw [e, ends_rd _ _ hm, ends_set _ _ _ hm, ends_val _ _ hm, ends_val _ _ hm, and248, top64]
  have hl := valB_lt mid
  rw [hm] at hl
  have h1 := x.isLt
  have h2 := t.isLt
  unfold clN
  omega
theorem other_val {b : List (BitVec 8)} (h : b.length = 32) : clN (valB ((b.set 0 (rd (Sh.int IntKind.u8) b 0 ^^^ 7#8)).set 31 (rd (Sh.int IntKind.u8) (b.set 0 (rd (Sh.int IntKind.u8) b 0 ^^^ 7#8)) 31 ^^^ 192#8))) = clN (valB b) := by
  obtain ⟨x, mid, t, rfl, hm⟩ := of_ends h
  have e : (x :: (mid ++ [t])).set 0 (rd (Sh.int IntKind.u8) (x :: (mid ++ [t])) 0 ^^^ 7#8) = (x ^^^ 7#8) :: (mid ++ [t]) := rfl
  rw [e, ends_rd _ _ hm, ends_set _ _ _ hm, ends_val _ _ hm, ends_val _ _ hm]
  have hl := valB_lt mid
  rw [hm] at hl
  have h1 := x.isLt
  have h2 := t.isLt
  have h3 := (x ^^^ 7#8).isLt
  have h4 := (t ^^^ 192#8).isLt
  have h5 := xor7 x
  have h6 := xor192 t
  unfold clN
  omega
theorem pub_val {b : List (BitVec 8)} (h : b.length = 32) : valB (b.set 31 (rd (Sh.int IntKind.u8) b 31 ^^^ 128#8)) % B255 = valB b % B255 := by
  obtain ⟨x, mid, t, rfl, hm⟩ := of_ends h
  rw [ends_rd _ _ hm, ends_set _ _ _ hm, ends_val _ _ hm, ends_val _ _ hm, B255_eq]
  have hl := valB_lt mid
  rw [hm] at hl
  have h1 := x.isLt
  have h5 := xor128 t
  omega
theorem fwClamp (b : Sh.T (b32S)) (P : SV → Prop) : FW L4 Try.f49.ntmps (LTab.look []) Try.f49 (argsOf [b32S] (b, ())) P =
 (  P
    (SV.av
      (AV.val (Sh.arr 4 (Sh.int IntKind.u64))
        (wordsN 4
          (valB
            ((List.set b 0 (rd (Sh.int IntKind.u8) b 0 &&& 248#8)).set 31
              (rd (Sh.int IntKind.u8) (List.set b 0 (rd (Sh.int IntKind.u8) b 0 &&& 248#8)) 31 &&& 127#8 ||| 64#8))))))) := by kernel_rfl
theorem clamp_ok : COK Try.prog noGl 49 (conT [b32S] clampF) := by
  refine conT_ok (fun xs hw => ?_) (fun xs => rfl)
  obtain ⟨b, ⟨⟩⟩ := xs
  have hl : b.length = 32 := hw.1.1
  refine PC_of_fw (t := []) shW_ok l4_ok mixed Try.func49 (c := Try.f49.body.getD .skip) rfl (by kernel_rfl) (by kernel_rfl) loopsNil rfl ?_
  rw [show (PUnit.unit : HL []) = () from rfl, fwClamp, clamp_val hl]; rfl
noncomputable def l5 : CTab := (49, conT [b32S] clampF) :: (23, conT [] fun _ => .av (.val numS (wordsN 4 LL))) :: l4
theorem l5_ok : ∀ p ∈ l5, COK Try.prog noGl p.1 p.2 := CCons clamp_ok (CCons L_ok l4_ok)
noncomputable abbrev L5 : Go.Ty.Cx := mkX Try.prog noGl shW l5
theorem fwPublic (b : Sh.T (b32S)) (P : SV → Prop) : FW L5 Try.f47.ntmps (LTab.look []) Try.f47 (argsOf [b32S] (b, ())) P =
 (  P
    (SV.av
      (AV.val (Sh.arr 32 (Sh.int IntKind.u8))
        (bytesB 32 (valN (wf (Edw.ladv kF ivF (tf (valN [9#64, 0#64, 0#64, 0#64])) (valN (wordsN 4 (clN (valB b))))))))))) := by kernel_rfl
theorem public_ok : COK Try.prog noGl 47 (conT [b32S] publicF) := by
  refine conT_ok (fun xs hw => ?_) (fun xs => rfl)
  obtain ⟨b, ⟨⟩⟩ := xs
  refine PC_of_fw (t := []) shW_ok l5_ok mixed Try.func47 (c := Try.f47.body.getD .skip) rfl (by kernel_rfl) (by kernel_rfl) loopsNil rfl ?_
  rw [show (PUnit.unit : HL []) = () from rfl, fwPublic, vwf, nine_w, v4 (clN_256 _), ← pubV_def]; rfl
theorem fwShared (s : Sh.T (b32S)) (p : Sh.T (b32S)) (P : SV → Prop) : FW L5 Try.f46.ntmps (LTab.look []) Try.f46 (argsOf [b32S, b32S] (s, p, ())) P =
 (  ifB
    (teq (Sh.arr 4 (Sh.int IntKind.u64))
      (wf
        (Edw.ladv kF ivF (tf (valN (wordsN 4 (valB (List.set p 31 (rd (Sh.int IntKind.u8) p 31 &&& 127#8))))))
          (valN (wordsN 4 (clN (valB s))))))
      [0#64, 0#64, 0#64, 0#64])
    (P
      (SV.tup
        [AV.val (Sh.arr 32 (Sh.int IntKind.u8))
            [0#8, 0#8, 0#8, 0#8, 0#8, 0#8, 0#8, 0#8, 0#8, 0#8, 0#8, 0#8, 0#8, 0#8, 0#8, 0#8, 0#8, 0#8, 0#8, 0#8, 0#8, 0#8,
              0#8, 0#8, 0#8, 0#8, 0#8, 0#8, 0#8, 0#8, 0#8, 0#8],
          AV.val (Sh.int IntKind.i64) 1]))
    (P
      (SV.tup
        [AV.val (Sh.arr 32 (Sh.int IntKind.u8))
            (bytesB 32
              (valN
                (wf
                  (Edw.ladv kF ivF (tf (valN (wordsN 4 (valB (List.set p 31 (rd (Sh.int IntKind.u8) p 31 &&& 127#8))))))
                    (valN (wordsN 4 (clN (valB s)))))))),
          AV.val (Sh.int IntKind.i64) 0]))) := by kernel_rfl
theorem shared_ok : COK Try.prog noGl 46 (conT [b32S, b32S] sharedF) := by
  refine conT_ok (fun xs hw => ?_) (fun xs => rfl)
  obtain ⟨s, p, ⟨⟩⟩ := xs
  have hl : p.length = 32 := hw.2.1.1
  have eF : sharedF (s, p, PUnit.unit) = .tup [.val b32S (bytesB 32 (shV_ (valB s) (valB p)).val), .val i64S (errB (shB (valB s) (valB p)) 1)] := rfl
  refine PC_of_fw (t := []) shW_ok l5_ok mixed Try.func46 (c := Try.f46.body.getD .skip) rfl (by kernel_rfl) (by kernel_rfl) loopsNil rfl ?_
  have hm : valB p % B255 < 2 ^ 256 := by
    have := Nat.mod_lt (valB p) (show 0 < B255 by rw [B255_eq]; decide)
    rw [B255_eq] at *; omega
  rw [show (PUnit.unit : HL []) = () from rfl, fwShared, eF, (unpack_top hl).1, v4 hm, v4 (clN_256 _), vwf]
  rw [show Go.Edw.ladv kF ivF (tf (valB p % B255)) (clN (valB s)) = shV_ (valB s) (valB p) from (shV_def _ _).symm]
  have e : teq (Sh.arr 4 (Sh.int IntKind.u64)) (wf (shV_ (valB s) (valB p))) [0#64, 0#64, 0#64, 0#64] = decide (shV_ (valB s) (valB p) = 0) := by rw [← wf_nought, teq_wf]
  rw [e, shB_def]
  by_cases h : shV_ (valB s) (valB p) = 0
  · rw [decide_eq_true h]
    refine ifB_of (fun _ => ?_) (fun h => absurd h (by decide))
    rw [h]; rfl
  · rw [decide_eq_false h]
    refine ifB_of (fun h => absurd h (by decide)) (fun _ => ?_)
    rfl
noncomputable def l6 : CTab := (47, conT [b32S] publicF) :: (46, conT [b32S, b32S] sharedF) :: l5
theorem l6_ok : ∀ p ∈ l6, COK Try.prog noGl p.1 p.2 := CCons public_ok (CCons shared_ok l5_ok)
noncomputable abbrev L6 : Go.Ty.Cx := mkX Try.prog noGl shW l6
theorem fwAgrees  (P : SV → Prop) : FW L6 Try.f45.ntmps (LTab.look []) Try.f45 (argsOf [] (())) P =
 (  P
    (SV.av
      (AV.val Sh.bool
        (!teq (Sh.arr 32 (Sh.int IntKind.u8)) (bytesB 32 (pubV (valB [1#8, 0#8, 0#8, 0#8, 0#8, 0#8, 0#8, 0#8, 0#8, 0#8, 0#8, 0#8, 0#8, 0#8, 0#8, 0#8, 0#8, 0#8, 0#8, 0#8, 0#8, 0#8, 0#8, 0#8, 0#8, 0#8, 0#8, 0#8, 0#8, 0#8, 0#8, 0#8])).1) [0#8, 0#8, 0#8, 0#8, 0#8, 0#8, 0#8, 0#8, 0#8, 0#8, 0#8, 0#8, 0#8, 0#8, 0#8, 0#8, 0#8, 0#8, 0#8, 0#8, 0#8, 0#8, 0#8, 0#8, 0#8, 0#8, 0#8, 0#8, 0#8, 0#8, 0#8, 0#8])))) := by kernel_rfl
theorem agrees_ok : COK Try.prog noGl 45 (conT [] fun _ => .av (.val .bool true)) := by
  refine conT_ok (fun xs hw => ?_) (fun xs => rfl)
  obtain ⟨⟩ := xs
  refine PC_of_fw (t := []) shW_ok l6_ok mixed Try.func45 (c := Try.f45.body.getD .skip) rfl (by kernel_rfl) (by kernel_rfl) loopsNil rfl ?_
  rw [show (PUnit.unit : HL []) = () from rfl, fwAgrees]
  generalize valB [1#8, 0#8, 0#8, 0#8, 0#8, 0#8, 0#8, 0#8, 0#8, 0#8, 0#8, 0#8, 0#8, 0#8, 0#8, 0#8, 0#8, 0#8, 0#8, 0#8, 0#8, 0#8, 0#8, 0#8, 0#8, 0#8, 0#8, 0#8, 0#8, 0#8, 0#8, 0#8] = M
  refine pbool ?_
  cases h : teq (Sh.arr 32 (Sh.int IntKind.u8)) (bytesB 32 (pubV M).1) [0#8, 0#8, 0#8, 0#8, 0#8, 0#8, 0#8, 0#8, 0#8, 0#8, 0#8, 0#8, 0#8, 0#8, 0#8, 0#8, 0#8, 0#8, 0#8, 0#8, 0#8, 0#8, 0#8, 0#8, 0#8, 0#8, 0#8, 0#8, 0#8, 0#8, 0#8, 0#8]
  · rfl
  · exfalso
    have h : bytesB 32 (pubV M).1 = bytesB 32 0 := teq_iff.1 h
    have h := congrArg valB h
    rw [val_bytes, valB_bytes 32 0 (by decide)] at h
    refine base_pl (clN_nd M) ?_
    rw [← pubV_eq]
    exact Fin.ext h
noncomputable def l7 : CTab := (45, conT [] fun _ => .av (.val .bool true)) :: l6
theorem l7_ok : ∀ p ∈ l7, COK Try.prog noGl p.1 p.2 := CCons agrees_ok l6_ok
noncomputable abbrev L7 : Go.Ty.Cx := mkX Try.prog noGl shW l7
end Go.Proofs.Ytmekcdapbpioaaa
