import Derived.Test.YtmekcdapbpioaaaHj
namespace Go.Proofs.Ytmekcdapbpioaaa
open Go.Ty

theorem err_t {p f : Prop} (hp : p) : ifB (decide (errB true 1 = 0)) p f := ifB_of (fun _ => hp) (fun h => absurd h (by decide))
theorem fwABoth (a : Sh.T (b32S)) (b : Sh.T (b32S)) (P : SV → Prop) : FW L7 Try.f13.ntmps (LTab.look []) Try.f13 (argsOf [b32S, b32S] (a, b, ())) P =
 (  ifB (decide (errB (shB (valB a) (valB (bytesB 32 (pubV (valB b)).1))) 1 = 0))
    (ifB (decide (errB (shB (valB b) (valB (bytesB 32 (pubV (valB a)).1))) 1 = 0))
      (P
        (SV.av
          (AV.val Sh.bool
            (teq (Sh.arr 32 (Sh.int IntKind.u8)) (bytesB 32 (shV_ (valB a) (valB (bytesB 32 (pubV (valB b)).1))).1)
              (bytesB 32 (shV_ (valB b) (valB (bytesB 32 (pubV (valB a)).1))).1)))))
      (P (SV.av (AV.val Sh.bool false))))
    (P (SV.av (AV.val Sh.bool false)))) := by kernel_rfl
theorem walkABoth (xs : HL [b32S, b32S]) (h : okHL [b32S, b32S] xs) : PC (bx Try.prog noGl) 13 (argsOf [b32S, b32S] xs) (.av (.val .bool true)) := by
  obtain ⟨a, b, ⟨⟩⟩ := xs
  refine PC_of_fw (t := []) shW_ok l7_ok mixed Try.func13 (c := Try.f13.body.getD .skip) rfl (by kernel_rfl) (by kernel_rfl) loopsNil rfl ?_
  rw [show (PUnit.unit : HL []) = () from rfl, fwABoth]
  have e1 := nd_mul (clN_nd (valB a)) (clN_nd (valB b))
  simp only [val_bytes, pubV_eq, shB_base _ (clN_nd _), sh_base]
  refine err_t (err_t (pbool (teq_of (s := b32S) ?_)))
  rw [Nat.mul_comm]
theorem fwAThree (a : Sh.T (b32S)) (b : Sh.T (b32S)) (c : Sh.T (b32S)) (P : SV → Prop) : FW L7 Try.f14.ntmps (LTab.look []) Try.f14 (argsOf [b32S, b32S, b32S] (a, b, c, ())) P =
 (  ifB (decide (errB (shB (valB a) (valB (bytesB 32 (pubV (valB b)).1))) 1 = 0))
    (ifB (decide (errB (shB (valB b) (valB (bytesB 32 (pubV (valB c)).1))) 1 = 0))
      (ifB (decide (errB (shB (valB c) (valB (bytesB 32 (shV_ (valB a) (valB (bytesB 32 (pubV (valB b)).1))).1))) 1 = 0))
        (ifB
          (decide (errB (shB (valB a) (valB (bytesB 32 (shV_ (valB b) (valB (bytesB 32 (pubV (valB c)).1))).1))) 1 = 0))
          (P
            (SV.av
              (AV.val Sh.bool
                (teq (Sh.arr 32 (Sh.int IntKind.u8))
                  (bytesB 32 (shV_ (valB c) (valB (bytesB 32 (shV_ (valB a) (valB (bytesB 32 (pubV (valB b)).1))).1))).1)
                  (bytesB 32
                    (shV_ (valB a) (valB (bytesB 32 (shV_ (valB b) (valB (bytesB 32 (pubV (valB c)).1))).1))).1)))))
          (P (SV.av (AV.val Sh.bool false))))
        (P (SV.av (AV.val Sh.bool false))))
      (P (SV.av (AV.val Sh.bool false))))
    (P (SV.av (AV.val Sh.bool false)))) := by kernel_rfl
theorem walkAThree (xs : HL [b32S, b32S, b32S]) (h : okHL [b32S, b32S, b32S] xs) : PC (bx Try.prog noGl) 14 (argsOf [b32S, b32S, b32S] xs) (.av (.val .bool true)) := by
  obtain ⟨a, b, c, ⟨⟩⟩ := xs
  refine PC_of_fw (t := []) shW_ok l7_ok mixed Try.func14 (c := Try.f14.body.getD .skip) rfl (by kernel_rfl) (by kernel_rfl) loopsNil rfl ?_
  rw [show (PUnit.unit : HL []) = () from rfl, fwAThree]
  simp only [val_bytes, pubV_eq, sh_base, shB_base _ (clN_nd _), shB_base _ (nd_mul (clN_nd _) (clN_nd _))]
  refine err_t (err_t (err_t (err_t (pbool (teq_of (s := b32S) ?_)))))
  rw [Nat.mul_left_comm, Nat.mul_comm (clN (valB c))]
theorem fwASmall (s : Sh.T (b32S)) (p : Sh.T (ptS)) (P : SV → Prop) : FW L7 Try.f15.ntmps (LTab.look []) Try.f15 (argsOf [b32S, ptS] (s, p, ())) P =
 (  ifB (!onN (valN p.1) (valN p.2.1)) (P (SV.av (AV.val Sh.bool true)))
    (ifB
      (decide
        (errB
            (shB (valB s)
              (valB
                (bytesB 32
                  (valN
                    (wordsN 4
                      (bif
                          onN (valN (wb (onP p) (tmP (wordsN 4 LL) p).1)) (valN (wb (onP p) (tmP (wordsN 4 LL) p).2)) then
                        uN (valN (wb (onP p) (tmP (wordsN 4 LL) p).2))
                      else 0))))))
            1 =
          1))
      (P
        (SV.av
          (AV.val Sh.bool
            (teq (Sh.arr 32 (Sh.int IntKind.u8))
              (bytesB 32
                (shV_ (valB s)
                    (valB
                      (bytesB 32
                        (valN
                          (wordsN 4
                            (bif
                                onN (valN (wb (onP p) (tmP (wordsN 4 LL) p).1))
                                  (valN (wb (onP p) (tmP (wordsN 4 LL) p).2)) then
                              uN (valN (wb (onP p) (tmP (wordsN 4 LL) p).2))
                            else 0)))))).1)
              [0#8, 0#8, 0#8, 0#8, 0#8, 0#8, 0#8, 0#8, 0#8, 0#8, 0#8, 0#8, 0#8, 0#8, 0#8, 0#8, 0#8, 0#8, 0#8, 0#8, 0#8,
                0#8, 0#8, 0#8, 0#8, 0#8, 0#8, 0#8, 0#8, 0#8, 0#8, 0#8]))))
      (P (SV.av (AV.val Sh.bool false))))) := by kernel_rfl
theorem walkASmall (xs : HL [b32S, ptS]) (h : okHL [b32S, ptS] xs) : PC (bx Try.prog noGl) 15 (argsOf [b32S, ptS] xs) (.av (.val .bool true)) := by
  obtain ⟨s, p, ⟨⟩⟩ := xs
  refine PC_of_fw (t := []) shW_ok l7_ok mixed Try.func15 (c := Try.f15.body.getD .skip) rfl (by kernel_rfl) (by kernel_rfl) loopsNil rfl ?_
  rw [show (PUnit.unit : HL []) = () from rfl, fwASmall]
  rw [show onN (valN p.1) (valN p.2.1) = onP p from rfl]
  cases h1 : onP p
  · exact ifB_of (fun _ => rfl) (fun h => absurd h (by decide))
  · refine ifB_of (fun h => absurd h (by decide)) (fun _ => ?_)
    have c1 := onP_on h1
    have on : onN (valN (wb true (tmP (wordsN 4 LL) p).1)) (valN (wb true (tmP (wordsN 4 LL) p).2)) = true := onP_w (tm_on h1)
    have eu : uN (valN (wb true (tmP (wordsN 4 LL) p).2)) = (Go.Edw.pl ivF (tmP (wordsN 4 LL) p).2).val := by
      rw [wb_true, vwf, uN_eq (tmP (wordsN 4 LL) p).2.isLt, tf_self]
    rw [on, cond_true, eu]
    have ev : valN (wordsN 4 (Go.Edw.pl ivF (tmP (wordsN 4 LL) p).2).val) = (Go.Edw.pl ivF (tmP (wordsN 4 LL) p).2).val := vwf _
    rw [ev, val_bytes]
    have z : shV_ (valB s) (Go.Edw.pl ivF (tmP (wordsN 4 LL) p).2).val = 0 := by
      rw [sh_pl _ (tm_on h1)]
      unfold tmP
      rw [LL_val, crv.mul_mul c1, clN_8, Nat.mul_assoc, ← crv.mul_mul c1, order8 c1, crv.mul_zero]
      exact pl_one
    have zb : shB (valB s) (Go.Edw.pl ivF (tmP (wordsN 4 LL) p).2).val = false := by
      rw [shB_def, decide_eq_true z]; rfl
    rw [zb, z]
    refine ifB_of (fun _ => pbool (teq_of (s := b32S) ?_)) (fun h => absurd h (by decide))
    rfl
theorem fwAClamp (s : Sh.T (b32S)) (p : Sh.T (b32S)) (P : SV → Prop) : FW L7 Try.f16.ntmps (LTab.look []) Try.f16 (argsOf [b32S, b32S] (s, p, ())) P =
 (  ifB (decide (((blen (valN (wordsN 4 (clN (valB s)))) : Nat) : Int) = 255))
    (ifB (decide (rd (Sh.int IntKind.u64) (wordsN 4 (clN (valB s))) 0 % 8#64 = 0#64))
      (ifB
        (teq (Sh.arr 4 (Sh.int IntKind.u64)) (wordsN 4 (clN (valB (bytesB 32 (valN (wordsN 4 (clN (valB s))))))))
          (wordsN 4 (clN (valB s))))
        (ifB
          (teq (Sh.arr 4 (Sh.int IntKind.u64))
            (wordsN 4
              (clN
                (valB
                  ((List.set s 0 (rd (Sh.int IntKind.u8) s 0 ^^^ 7#8)).set 31
                    (rd (Sh.int IntKind.u8) (List.set s 0 (rd (Sh.int IntKind.u8) s 0 ^^^ 7#8)) 31 ^^^ 192#8)))))
            (wordsN 4 (clN (valB s))))
          (ifB
            (teq (Sh.arr 32 (Sh.int IntKind.u8))
              (bytesB 32
                (pubV
                    (valB
                      ((List.set s 0 (rd (Sh.int IntKind.u8) s 0 ^^^ 7#8)).set 31
                        (rd (Sh.int IntKind.u8) (List.set s 0 (rd (Sh.int IntKind.u8) s 0 ^^^ 7#8)) 31 ^^^ 192#8)))).1)
              (bytesB 32 (pubV (valB s)).1))
            (ifB
              (teq (Sh.arr 32 (Sh.int IntKind.u8)) (bytesB 32 (shV_ (valB s) (valB p)).1)
                (bytesB 32
                  (shV_
                      (valB
                        ((List.set s 0 (rd (Sh.int IntKind.u8) s 0 ^^^ 7#8)).set 31
                          (rd (Sh.int IntKind.u8) (List.set s 0 (rd (Sh.int IntKind.u8) s 0 ^^^ 7#8)) 31 ^^^ 192#8)))
                      (valB (List.set p 31 (rd (Sh.int IntKind.u8) p 31 ^^^ 128#8)))).1))
              (P
                (SV.av
                  (AV.val Sh.bool
                    (decide
                      (errB (shB (valB s) (valB p)) 1 =
                        errB
                          (shB
                            (valB
                              ((List.set s 0 (rd (Sh.int IntKind.u8) s 0 ^^^ 7#8)).set 31
                                (rd (Sh.int IntKind.u8) (List.set s 0 (rd (Sh.int IntKind.u8) s 0 ^^^ 7#8)) 31 ^^^
                                  192#8)))
                            (valB (List.set p 31 (rd (Sh.int IntKind.u8) p 31 ^^^ 128#8))))
                          1)))))
              (P (SV.av (AV.val Sh.bool false))))
            (P (SV.av (AV.val Sh.bool false))))
          (P (SV.av (AV.val Sh.bool false))))
        (P (SV.av (AV.val Sh.bool false))))
      (P (SV.av (AV.val Sh.bool false))))
    (P (SV.av (AV.val Sh.bool false)))) := by kernel_rfl
theorem rd_words (X : Nat) : rd (Sh.int IntKind.u64) (wordsN 4 X) 0 = BitVec.ofNat 64 X := by rw [wordsN_eq]; rfl
theorem walkAClamp (xs : HL [b32S, b32S]) (h : okHL [b32S, b32S] xs) : PC (bx Try.prog noGl) 16 (argsOf [b32S, b32S] xs) (.av (.val .bool true)) := by
  obtain ⟨s, p, ⟨⟩⟩ := xs
  refine PC_of_fw (t := []) shW_ok l7_ok mixed Try.func16 (c := Try.f16.body.getD .skip) rfl (by kernel_rfl) (by kernel_rfl) loopsNil rfl ?_
  rw [show (PUnit.unit : HL []) = () from rfl, fwAClamp]
  have hs : s.length = 32 := h.1.1
  have hp : p.length = 32 := h.2.1.1
  have e1 : valN (wordsN 4 (clN (valB s))) = clN (valB s) := v4 (clN_256 _)
  have e2 : valB (bytesB 32 (clN (valB s))) = clN (valB s) := valB_bytes 32 _ (by
    have := clN_256 (valB s)
    have e : (256 : Nat) ^ 32 = 2 ^ 256 := by decide
    omega)
  have e3 : clN (clN (valB s)) = clN (valB s) := by unfold clN; omega
  have e4 := other_val hs
  have e5 : ∀ M N, clN N = clN M → pubV N = pubV M := fun M N e => by rw [pubV_def, pubV_def, e]
  have e6 : shV_ (valB ((List.set s 0 (rd (Sh.int IntKind.u8) s 0 ^^^ 7#8)).set 31 (rd (Sh.int IntKind.u8) (List.set s 0 (rd (Sh.int IntKind.u8) s 0 ^^^ 7#8)) 31 ^^^ 192#8))) (valB (List.set p 31 (rd (Sh.int IntKind.u8) p 31 ^^^ 128#8))) = shV_ (valB s) (valB p) := by
    rw [shV_def, shV_def, e4, pub_val hp]
  have eb : blen (clN (valB s)) = 255 := blen_one (k := 254) (clN_ge _) (clN_lt _)
  have er : rd (Sh.int IntKind.u64) (wordsN 4 (clN (valB s))) 0 % 8#64 = 0#64 := by
    rw [rd_words (clN (valB s))]
    have h8 := clN_8 (valB s)
    generalize clN (valB s) = X at *
    refine BitVec.eq_of_toNat_eq ?_
    rw [BitVec.toNat_umod, BitVec.toNat_ofNat]
    show X % 2 ^ 64 % 8 = 0
    omega
  rw [e1, e2, e3, e4, eb]
  refine ifB_of (fun _ => ifB_of (fun _ => step_t (s := numS) rfl (step_t (s := numS) rfl (step_t (s := b32S) ?_ (step_t (s := b32S) ?_ (pbool ?_))))) (fun h => ?_)) (fun h => absurd h (by decide))
  · rw [e5 _ _ e4]
  · rw [e6]
  · rw [shB_def, shB_def, e6]
    exact decide_eq_true rfl
  · exact absurd er (of_decide_eq_false h)
end Go.Proofs.Ytmekcdapbpioaaa
