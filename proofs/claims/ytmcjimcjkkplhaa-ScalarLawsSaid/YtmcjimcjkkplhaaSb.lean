import Derived.Test.YtmcjimcjkkplhaaSa
namespace Go.Proofs.Ytmcjimcjkkplhaa
open Go.Ty

abbrev r16 : List It := [.v 6 .bool]
noncomputable def b16 : Code := Try.f8.body.getD .skip
abbrev I16_2 : List It := [.p 3 2000 numS, .p 4 2001 numS, .p 5 2002 numS, .p 7 2003 numS, .p 8 2004 numS]
abbrev I16_4 : List It := [.p 3 2000 numS, .p 4 2001 numS, .p 5 2002 numS, .p 7 2003 numS, .p 8 2004 numS]
abbrev I16_6 : List It := [.p 3 2000 numS, .p 7 2001 numS, .p 8 2002 numS]
noncomputable def Q16_6 : CQ I16_6 [] r16 [] := fun (a, low, z, _) _ Kr _ =>
  ifB (teq (Sh.arr 4 (Sh.int IntKind.u64)) low z)
    (ifB (teq (Sh.arr 4 (Sh.int IntKind.u64)) (wordsN 4 (invN (valN a) LL)) z) (Kr (true, PUnit.unit))
      (Kr
        (teq (Sh.arr 4 (Sh.int IntKind.u64)) (wordsN 4 (valN a * valN (wordsN 4 (invN (valN a) LL)) % LL))
            [1#64, 0#64, 0#64, 0#64],
          PUnit.unit)))
    (Kr
      (teq (Sh.arr 4 (Sh.int IntKind.u64)) (wordsN 4 (valN a * valN (wordsN 4 (invN (valN a) LL)) % LL))
          [1#64, 0#64, 0#64, 0#64],
        PUnit.unit))
noncomputable def Q16_4 : CQ I16_4 [] r16 [] := fun (a, b, c, low, z, _) Kn Kr _ =>
  ifB
    (!teq (Sh.arr 4 (Sh.int IntKind.u64)) (wordsN 4 (valN (wordsN 4 (valN a * valN b % LL)) * valN c % LL))
        (wordsN 4 (valN a * valN (wordsN 4 (valN b * valN c % LL)) % LL)))
    (Kr (false, PUnit.unit))
    (ifB
      (!teq (Sh.arr 4 (Sh.int IntKind.u64)) (wordsN 4 (valN a * valN (wordsN 4 ((valN b + valN c) % LL)) % LL))
          (wordsN 4 ((valN (wordsN 4 (valN a * valN b % LL)) + valN (wordsN 4 (valN a * valN c % LL))) % LL)))
      (Kr (false, PUnit.unit))
      (ifB (!teq (Sh.arr 4 (Sh.int IntKind.u64)) (wordsN 4 ((valN a + valN (wordsN 4 ((LL - valN a % LL) % LL))) % LL)) z)
        (Kr (false, PUnit.unit))
        (Q16_6 (a, low, z, PUnit.unit) (fun _ => Kn PUnit.unit) (fun y => Kr (y.1, PUnit.unit)) PUnit.unit)))
noncomputable def Q16_2 : CQ I16_2 [] r16 [] := fun (a, b, c, low, z, _) Kn Kr _ =>
  ifB (decide (0 ≤ cmpI (valN low) (valN (wordsN 4 LL)))) (Kr (false, PUnit.unit))
    (ifB (!teq (Sh.arr 4 (Sh.int IntKind.u64)) (wordsN 4 ((valN a + valN b) % LL)) (wordsN 4 ((valN b + valN a) % LL)))
      (Kr (false, PUnit.unit))
      (ifB
        (!teq (Sh.arr 4 (Sh.int IntKind.u64)) (wordsN 4 ((valN (wordsN 4 ((valN a + valN b) % LL)) + valN c) % LL))
            (wordsN 4 ((valN a + valN (wordsN 4 ((valN b + valN c) % LL))) % LL)))
        (Kr (false, PUnit.unit))
        (ifB (!teq (Sh.arr 4 (Sh.int IntKind.u64)) (wordsN 4 (valN a * valN b % LL)) (wordsN 4 (valN b * valN a % LL)))
          (Kr (false, PUnit.unit))
          (Q16_4 (a, b, c, low, z, PUnit.unit) (fun _ => Kn PUnit.unit) (fun y => Kr (y.1, PUnit.unit)) PUnit.unit))))
noncomputable abbrev L16 : LTab := [(1000002, ptC I16_2 [] r16 [] Q16_2), (1000004, ptC I16_4 [] r16 [] Q16_4), (1000006, ptC I16_6 [] r16 [] Q16_6)]
set_option maxRecDepth 100000 in
theorem piece16_2 (a : Sh.T (numS)) (b : Sh.T (numS)) (c : Sh.T (numS)) (low : Sh.T (numS)) (z : Sh.T (numS)) (Kn : HI [] → Prop) (Kr : HI r16 → Prop) (Kx : HP []) : pieceT (W S4 Try.f8.ntmps (LTab.look L16) (tailAt b16 1000002)) I16_2 [] r16 [] (a, b, c, low, z, ()) Kn Kr Kx = Q16_2 (a, b, c, low, z, ()) Kn Kr Kx := by kernel_rfl
set_option maxRecDepth 100000 in
theorem piece16_4 (a : Sh.T (numS)) (b : Sh.T (numS)) (c : Sh.T (numS)) (low : Sh.T (numS)) (z : Sh.T (numS)) (Kn : HI [] → Prop) (Kr : HI r16 → Prop) (Kx : HP []) : pieceT (W S4 Try.f8.ntmps (LTab.look L16) (tailAt b16 1000004)) I16_4 [] r16 [] (a, b, c, low, z, ()) Kn Kr Kx = Q16_4 (a, b, c, low, z, ()) Kn Kr Kx := by kernel_rfl
set_option maxRecDepth 100000 in
theorem piece16_6 (a : Sh.T (numS)) (low : Sh.T (numS)) (z : Sh.T (numS)) (Kn : HI [] → Prop) (Kr : HI r16 → Prop) (Kx : HP []) : pieceT (W S4 Try.f8.ntmps (LTab.look L16) (tailAt b16 1000006)) I16_6 [] r16 [] (a, low, z, ()) Kn Kr Kx = Q16_6 (a, low, z, ()) Kn Kr Kx := by kernel_rfl
theorem fw16 (a : Sh.T (numS)) (b : Sh.T (numS)) (c : Sh.T (numS)) (P : SV → Prop) : FW S4 Try.f8.ntmps (LTab.look L16) Try.f8 (argsOf [numS, numS, numS] (a, b, c, ())) P =
 (  Q16_2 (a, b, c, wordsN 4 (valN a % LL), [0#64, 0#64, 0#64, 0#64], PUnit.unit) (fun _ => False)
    (fun y => P (SV.av (AV.val Sh.bool y.1))) PUnit.unit) := by kernel_rfl
set_option maxRecDepth 100000 in
theorem S16_6 : ∀ s K, ptC I16_6 [] r16 [] Q16_6 s K → SemC S4 Try.f8.ntmps (tailAt b16 1000006) s K :=
  cut_sem shU_ok s4_ok mixed (loopsOK (by kernel_rfl) (LTCons (noLoop (by kernel_rfl)) (LTCons (noLoop (by kernel_rfl)) (LTCons (noLoop (by kernel_rfl)) LTNil)))) (by kernel_rfl) (fun ⟨a, low, z, _⟩ Kn Kr Kx h => (piece16_6 a low z Kn Kr Kx).mpr h)
set_option maxRecDepth 100000 in
theorem S16_4 : ∀ s K, ptC I16_4 [] r16 [] Q16_4 s K → SemC S4 Try.f8.ntmps (tailAt b16 1000004) s K :=
  cut_sem shU_ok s4_ok mixed (loopsOK (by kernel_rfl) (LTCons (noLoop (by kernel_rfl)) (LTCons (noLoop (by kernel_rfl)) (LTCons (fun _ => by rw [show tailAt (tailAt b16 1000004) 1000006 = tailAt b16 1000006 from by kernel_rfl]; exact S16_6) LTNil)))) (by kernel_rfl) (fun ⟨a, b, c, low, z, _⟩ Kn Kr Kx h => (piece16_4 a b c low z Kn Kr Kx).mpr h)
set_option maxRecDepth 100000 in
theorem S16_2 : ∀ s K, ptC I16_2 [] r16 [] Q16_2 s K → SemC S4 Try.f8.ntmps (tailAt b16 1000002) s K :=
  cut_sem shU_ok s4_ok mixed (loopsOK (by kernel_rfl) (LTCons (noLoop (by kernel_rfl)) (LTCons (fun _ => by rw [show tailAt (tailAt b16 1000002) 1000004 = tailAt b16 1000004 from by kernel_rfl]; exact S16_4) (LTCons (fun _ => by rw [show tailAt (tailAt b16 1000002) 1000006 = tailAt b16 1000006 from by kernel_rfl]; exact S16_6) LTNil)))) (by kernel_rfl) (fun ⟨a, b, c, low, z, _⟩ Kn Kr Kx h => (piece16_2 a b c low z Kn Kr Kx).mpr h)
set_option maxRecDepth 100000 in
theorem loops16 : LoopsOK S4 Try.f8.ntmps (LTab.look L16) b16 := loopsOK (by kernel_rfl) (LTCons (fun _ => S16_2) (LTCons (fun _ => S16_4) (LTCons (fun _ => S16_6) LTNil)))

theorem fer_inv {A M : Nat} (hf : Go.Fer.Fer M) (h : A % M ≠ 0) : A * invN A M % M = 1 := by
  have h1 := hf.1
  have e : A * A ^ (M - 2) % M = 1 := by
    rw [Nat.mul_comm, ← Nat.pow_succ]
    have : M - 2 + 1 = M - 1 := by omega
    show A ^ (M - 2 + 1) % M = 1
    rw [this]; exact hf.2 A h
  have hx := Nat.mod_lt (A ^ (M - 2)) (show 0 < M by omega)
  have e2 : A * (A ^ (M - 2) % M) % M = 1 := by rw [Nat.mul_mod_mod]; exact e
  rw [invN_eq hx e2]; exact e2
theorem inv_zero {A M : Nat} (h1 : 1 < M) (h : A % M = 0) : invN A M = 0 := by
  refine invN_none fun e => ?_
  have : M ∣ Nat.gcd A M := Nat.dvd_gcd (Nat.dvd_of_mod_eq_zero h) (Nat.dvd_refl M)
  rw [e] at this
  have := Nat.le_of_dvd (by omega) this
  omega
theorem invN_lt {A M : Nat} (h : 0 < M) : invN A M < M := by
  unfold invN
  by_cases h2 : ∃ x, x < M ∧ A * x % M = 1
  · rw [dif_pos h2]; exact (Classical.choose_spec h2).1
  · rw [dif_neg h2]; exact h
theorem neg_add {A M : Nat} (h : 0 < M) : (A + (M - A % M) % M) % M = 0 := by
  have h1 := Nat.mod_lt A h
  have e := Nat.div_add_mod A M
  rw [Nat.add_mod_mod, show A + (M - A % M) = M * (A / M + 1) by rw [Nat.mul_add, Nat.mul_one]; generalize M * (A / M) = z at *; omega, Nat.mul_mod_right]
theorem walk16 (xs : HL [numS, numS, numS]) (h : okHL [numS, numS, numS] xs) : PC (bx Try.prog noGl) 8 (argsOf [numS, numS, numS] xs) (.av (.val .bool true)) := by
  obtain ⟨a, b, c, ⟨⟩⟩ := xs
  refine PC_of_fw (t := L16) shU_ok s4_ok mixed Try.func8 (c := b16) rfl (by kernel_rfl) (by kernel_rfl) loops16 rfl ?_
  rw [show (PUnit.unit : HL []) = () from rfl, fw16]
  unfold Q16_2 Q16_4 Q16_6
  have hi : valN (wordsN 4 (invN (valN a) LL)) = invN (valN a) LL := v4 (by have := LL_lt; have := invN_lt (A := valN a) LL_pos; omega)
  simp only [vl', LL_val, hi]
  rw [neg_add LL_pos]
  have hl := LL_lt
  refine ifB_of (fun h => ?_) (fun _ => ifB_of (fun h => ?_) (fun _ => ifB_of (fun h => ?_) (fun _ => ifB_of (fun h => ?_) (fun _ => ifB_of (fun h => ?_) (fun _ => ifB_of (fun h => ?_) (fun _ => ifB_of (fun h => ?_) (fun _ => ?_)))))))
  · rw [cmpI_lt (Nat.mod_lt _ LL_pos)] at h; exact absurd h (by decide)
  · rw [Nat.add_comm (valN b)] at h; exact teq_nn h
  · rw [Nat.mod_add_mod, Nat.add_mod_mod, Nat.add_assoc] at h; exact teq_nn h
  · rw [Nat.mul_comm (valN b)] at h; exact teq_nn h
  · rw [Nat.mod_mul_mod, Nat.mul_mod_mod, Nat.mul_assoc] at h; exact teq_nn h
  · rw [Nat.mul_mod_mod, Nat.mul_add, ← Nat.add_mod] at h; exact teq_nn h
  · rw [wz4] at h; exact teq_nn h
  · rw [teq_z (vll _)]
    refine ifB_of (fun h => ?_) (fun h => ?_)
    · have h := of_decide_eq_true h
      rw [inv_zero LL_1 h, wz4]
      exact step_t rfl trivial
    · have h := of_decide_eq_false h
      rw [fer_inv ferLL h]
      exact pbool (teq_of (by rw [wordsN_eq]; decide))
end Go.Proofs.Ytmcjimcjkkplhaa
