import Derived.Test.YtninlahlmjhmhaaRc
namespace Go.Proofs.Ytninlahlmjhmhaa
open Go.Ty

theorem word_at : ∀ (m : List (BitVec 64)) (j : Nat), valN m / 2 ^ (64 * j) % 2 ^ 64 = (rd u64S m j).toNat
  | [], j => by
    have : rd u64S [] j = 0#64 := by cases j <;> rfl
    rw [this]; simp [valN]
  | x :: r, 0 => by
    have hx := x.isLt
    show (x.toNat + 2 ^ 64 * valN r) / 2 ^ (64 * 0) % 2 ^ 64 = x.toNat
    rw [Nat.mul_zero, Nat.pow_zero, Nat.div_one]; omega
  | x :: r, j + 1 => by
    have hx := x.isLt
    show (x.toNat + 2 ^ 64 * valN r) / 2 ^ (64 * (j + 1)) % 2 ^ 64 = (rd u64S r j).toNat
    rw [show 64 * (j + 1) = 64 + 64 * j by omega, Nat.pow_add, ← Nat.div_div_eq_div_mul, show (x.toNat + 2 ^ 64 * valN r) / 2 ^ 64 = valN r by omega]
    exact word_at r j
/-- a step of Montgomery's: the word goes -/
theorem mont_word {u k M tn iv : Nat} (h1 : u % 2 ^ 64 = tn) (h2 : k = tn * iv % 2 ^ 64) (h3 : (iv * M + 1) % 2 ^ 64 = 0) : (u + k * M) % 2 ^ 64 = 0 := by
  have e1 : (u + k * M) % 2 ^ 64 = (tn + tn * iv * M) % 2 ^ 64 := by
    have ht : tn % 2 ^ 64 = tn := by omega
    rw [Nat.add_mod u, h1, h2, Nat.mod_mul_mod, Nat.add_mod tn (tn * iv * M), ht]
  rw [e1, show tn + tn * iv * M = tn * (iv * M + 1) by rw [Nat.mul_add, Nat.mul_one, ← Nat.mul_assoc, Nat.add_comm], Nat.mul_mod, h3]; simp
theorem clear_low {V A E D c u w : Nat} (h1 : V + A * E * D * c = A * u) (h2 : u = E * w) : V % (A * E) = 0 := by
  rw [h2, ← Nat.mul_assoc, Nat.mul_assoc (A * E) D c] at h1
  have h3 := congrArg (· % (A * E)) h1
  simp only [Nat.add_mul_mod_self_left, Nat.mul_mod_right] at h3
  exact h3
set_option maxRecDepth 100000 in
set_option maxHeartbeats 1000000 in
theorem loop3 : ∀ x Kr Kx, Q3 x Kr Kx → ∃ n, untl (W Y7 Try.f45.ntmps (LTab.look L45) (bodyAt b45 3)) I3 [] o3 n x Kr Kx := by
  rintro ⟨r, t0, o, ov0, i0, u⟩ Kr Kx ⟨⟨h1, h2, h3, h4⟩, hK⟩
  have h1 : okR r := h1
  have h2 : wideS.wfT t0 := h2
  have h3 : ov0 = 0#64 := h3
  have h4 : i0 = 0 := h4
  have hK : ∀ (t : List (BitVec 64)) (ov : BitVec 64) (K : Nat), wideS.wfT t → K < 2 ^ 256 → valN t + 2 ^ 256 * 2 ^ 256 * ov.toNat = valN t0 + K * valN r.1 → valN t % 2 ^ 256 = 0 → Kx.1 (r, t, o, ov, ()) := hK
  subst h3 h4
  obtain ⟨wm, hodd, hm1, _, _, hinv⟩ := h1
  have hinv : (BitVec.toNat r.2.2.2.1 * valN r.1 + 1) % 2 ^ 64 = 0 := hinv
  have M2 : valN r.1 < 2 ^ 256 := lt4 wm
  have T2 : valN t0 < 2 ^ 256 * 2 ^ 256 := lt8 h2
  have key : ∀ (d n : Nat) (t : List (BitVec 64)) (ov : BitVec 64) (K : Nat), n + d = 4 → wideS.wfT t → K < 2 ^ (64 * n) → valN t + 2 ^ 256 * 2 ^ 256 * ov.toNat = valN t0 + K * valN r.1 → valN t % 2 ^ (64 * n) = 0 →
      untl (W Y7 Try.f45.ntmps (LTab.look L45) (bodyAt b45 3)) I3 [] o3 (d + 1) (r, t, o, ov, (n : Int), ()) Kr Kx := by
    intro d
    induction d with
    | zero =>
      intro n t ov K hn wt hk e hz
      have hn : n = 4 := by omega
      subst hn
      rw [untl_succ, round3]
      refine ifB_of (fun h => absurd (of_decide_eq_true h) (by omega)) (fun _ => ?_)
      exact hK t ov K wt hk e hz
    | succ d ih =>
      intro n t ov K hn wt hk e hz
      have hn4 : n < 4 := by omega
      rw [untl_succ, round3, Int.toNat_natCast]
      refine ifB_of (fun _ => dmd_of (bounds (k := 8) (by omega)) ?_) (fun h => absurd (of_decide_eq_false h) (by omega))
      refine ⟨⟨n, hn4, rfl, wt, wm, rfl, rfl⟩, fun n1 t1 c1 en wt1 e1 => ?_⟩
      have en : (n : Int) = (n1 : Int) := en
      have en : n1 = n := by omega
      subst en
      have e1 : valN t1 + 2 ^ (64 * n1) * 2 ^ 256 * c1.toNat = valN t + 2 ^ (64 * n1) * (BitVec.toNat (rd (Sh.int IntKind.u64) t n1 * r.2.2.2.1) * valN r.1) := e1
      have ew : IntKind.i64.wrap ((n1 : Int) + 4) = ((n1 + 4 : Nat) : Int) := by rw [show (n1 : Int) + 4 = ((n1 + 4 : Nat) : Int) by omega, i64n (by omega)]
      have ew2 : IntKind.i64.wrap ((n1 : Int) + 1) = ((n1 + 1 : Nat) : Int) := by rw [show (n1 : Int) + 1 = ((n1 + 1 : Nat) : Int) by omega, i64n (by omega)]
      refine ⟨⟨n1 + 4, by omega, ew, wt1⟩, fun n2 t2 c2 en wt2 e2 => ?_⟩
      have en : IntKind.i64.wrap ((n1 : Int) + 4) = (n2 : Int) := en
      rw [ew] at en
      have en : n2 = n1 + 4 := by omega
      subst en
      have e2 : valN t2 + 2 ^ 256 * 2 ^ 256 * c2.toNat = valN t1 + 2 ^ (64 * (n1 + 4)) * c1.toNat := e2
      show untl (W Y7 Try.f45.ntmps (LTab.look L45) (bodyAt b45 3)) I3 [] o3 (d + 1) (r, t2, o, ov + c2, IntKind.i64.wrap ((n1 : Int) + 1), ()) Kr Kx
      rw [ew2]
      have ek : BitVec.toNat (rd (Sh.int IntKind.u64) t n1 * r.2.2.2.1) = (rd u64S t n1).toNat * BitVec.toNat r.2.2.2.1 % 2 ^ 64 := BitVec.toNat_mul _ _
      have hk2 : BitVec.toNat (rd (Sh.int IntKind.u64) t n1 * r.2.2.2.1) < 2 ^ 64 := BitVec.isLt _
      rw [show 64 * (n1 + 4) = 64 * n1 + 256 by omega, Nat.pow_add, e1] at e2
      have hword := word_at t n1
      have hdm := Nat.div_add_mod (valN t) (2 ^ (64 * n1))
      rw [hz, Nat.add_zero] at hdm
      have hmw := mont_word hword ek hinv
      generalize BitVec.toNat (rd (Sh.int IntKind.u64) t n1 * r.2.2.2.1) = k at *
      have hkn : K + 2 ^ (64 * n1) * k < 2 ^ (64 * (n1 + 1)) := by
        rw [show 64 * (n1 + 1) = 64 * n1 + 64 by omega, Nat.pow_add]
        have : 2 ^ (64 * n1) * (k + 1) ≤ 2 ^ (64 * n1) * 2 ^ 64 := Nat.mul_le_mul_left _ hk2
        rw [Nat.mul_add, Nat.mul_one] at this
        omega
      have hk256 : K + 2 ^ (64 * n1) * k < 2 ^ 256 := Nat.lt_of_lt_of_le hkn (Nat.pow_le_pow_right (by omega) (by omega))
      have hKM : (K + 2 ^ (64 * n1) * k) * valN r.1 ≤ 2 ^ 256 * valN r.1 := Nat.mul_le_mul_right _ (Nat.le_of_lt hk256)
      have hall : valN t2 + 2 ^ 256 * 2 ^ 256 * (ov.toNat + c2.toNat) = valN t0 + (K + 2 ^ (64 * n1) * k) * valN r.1 := by
        rw [Nat.mul_add, Nat.add_mul, Nat.mul_assoc (2 ^ (64 * n1))]
        generalize 2 ^ (64 * n1) * (k * valN r.1) = z at *
        omega
      have hov : (ov + c2).toNat = ov.toNat + c2.toNat := by
        rw [BitVec.toNat_add]
        refine Nat.mod_eq_of_lt ?_
        generalize (K + 2 ^ (64 * n1) * k) * valN r.1 = z at *
        omega
      refine ih (n1 + 1) t2 (ov + c2) (K + 2 ^ (64 * n1) * k) (by omega) wt2 hkn (by rw [hov]; exact hall) ?_
      rw [show 64 * (n1 + 1) = 64 * n1 + 64 by omega, Nat.pow_add]
      have hD : 2 ^ 256 * 2 ^ 256 = 2 ^ (64 * n1) * 2 ^ 64 * 2 ^ (64 * (7 - n1)) := by
        have a1 : 2 ^ (64 * n1) * 2 ^ 64 * 2 ^ (64 * (7 - n1)) = 2 ^ (64 * n1 + 64 + 64 * (7 - n1)) := by rw [← Nat.pow_add, ← Nat.pow_add]
        have a2 : 2 ^ (64 * n1 + 64 + 64 * (7 - n1)) = 2 ^ 256 * 2 ^ 256 := powa (by omega)
        exact (a1.trans a2).symm
      refine clear_low (D := 2 ^ (64 * (7 - n1))) (c := c2.toNat) (u := valN t / 2 ^ (64 * n1) + k * valN r.1) (w := (valN t / 2 ^ (64 * n1) + k * valN r.1) / 2 ^ 64) ?_ (by have hx := Nat.div_add_mod (valN t / 2 ^ (64 * n1) + k * valN r.1) (2 ^ 64); rw [hmw, Nat.add_zero] at hx; exact hx.symm)
      rw [← hD, e2, Nat.mul_add, hdm]
  exact ⟨_, key 4 0 t0 0#64 0 (by omega) h2 (by simp) (by rw [show (0#64).toNat = 0 from rfl]; omega) (by simp [Nat.mod_one])⟩

noncomputable def outN (T M : Nat) : Nat := T * invN (2 ^ 256) M % M
theorem inv256 {M : Nat} (h1 : M % 2 = 1) (h2 : 1 < M) : ∃ x, x < M ∧ 2 ^ 256 * x % M = 1 ∧ invN (2 ^ 256) M = x := by
  have hg : Nat.gcd (2 ^ 256) M = 1 := by
    have := gcd_pow2 h1 1 256
    rw [Nat.mul_one, Nat.gcd_one_left] at this; exact this
  obtain ⟨x, hx, ex⟩ := inv_some h2 hg
  exact ⟨x, hx, ex, invN_eq hx ex⟩
theorem outN_eq {U T K M : Nat} (h1 : M % 2 = 1) (h2 : 1 < M) (h : U * 2 ^ 256 = T + K * M) : U % M = outN T M := by
  obtain ⟨x, hx, ex, ei⟩ := inv256 h1 h2
  unfold outN
  rw [ei]
  have e1 : (T + K * M) * x % M = T * x % M := by rw [Nat.mul_mod, Nat.add_mul_mod_self_right, ← Nat.mul_mod]
  rw [← e1, ← h, Nat.mul_assoc, Nat.mul_mod, ex, Nat.mul_one, Nat.mod_mod]
noncomputable def outF : HA [.f ringS, .v wideS] → RT := fun xs => .pre (okR xs.1) (.ret (.av (.val numS (wordsN 4 (outN (valN xs.2.1) (valN xs.1.1))))))
theorem in8 : bodyAt (bodyAt b45 3) 8 = bodyAt b45 8 := by kernel_rfl
theorem in18 : bodyAt (bodyAt b45 3) 18 = bodyAt b45 18 := by kernel_rfl
theorem loop8' : ∀ x Kr Kx, Q8 x Kr Kx → ∃ n, untl (W Y7 Try.f45.ntmps (LTab.look L45) (bodyAt (bodyAt b45 3) 8)) I8 [] o8 n x Kr Kx := by rw [in8]; exact loop8
theorem loop18' : ∀ x Kr Kx, Q18 x Kr Kx → ∃ n, untl (W Y7 Try.f45.ntmps (LTab.look L45) (bodyAt (bodyAt b45 3) 18)) I18 [] o18 n x Kr Kx := by rw [in18]; exact loop18
set_option maxHeartbeats 1000000 in
theorem out_ok : COK Try.prog noGl 45 (conA [.f ringS, .v wideS] outF) := by
  refine conA_ok (fun xs hw hc => ?_) (fun _ => rfl)
  obtain ⟨r, t, ⟨⟩⟩ := xs
  have hc : okR r := hc.1
  have wt : wideS.wfT t := hw.2.1
  have eF : (outF (r, t, PUnit.unit)).val = SV.av (.val numS (wordsN 4 (outN (valN t) (valN r.1)))) := rfl
  rw [eF]
  refine PC_of_fw (t := L45) shR_ok ct7_ok mixed Try.func45 (c := b45) rfl (by kernel_rfl) (by kernel_rfl)
    (loopsOK (by kernel_rfl) (LTCons (loop_of shR_ok ct7_ok mixed (loopsOK (by kernel_rfl) (LTCons (noLoop (by kernel_rfl)) (LTCons (loop_of shR_ok ct7_ok mixed (loopsOK (by kernel_rfl) (LTCons (noLoop (by kernel_rfl)) (LTCons (noLoop (by kernel_rfl)) (LTCons (noLoop (by kernel_rfl)) LTNil)))) (by kernel_rfl) loop8')
      (LTCons (loop_of shR_ok ct7_ok mixed (loopsOK (by kernel_rfl) (LTCons (noLoop (by kernel_rfl)) (LTCons (noLoop (by kernel_rfl)) (LTCons (noLoop (by kernel_rfl)) LTNil)))) (by kernel_rfl) loop18') LTNil)))) (by kernel_rfl) loop3)
     (LTCons (loop_of shR_ok ct7_ok mixed (loopsOK (by kernel_rfl) (LTCons (noLoop (by kernel_rfl)) (LTCons (noLoop (by kernel_rfl)) (LTCons (noLoop (by kernel_rfl)) LTNil)))) (by kernel_rfl) loop8)
      (LTCons (loop_of shR_ok ct7_ok mixed (loopsOK (by kernel_rfl) (LTCons (noLoop (by kernel_rfl)) (LTCons (noLoop (by kernel_rfl)) (LTCons (noLoop (by kernel_rfl)) LTNil)))) (by kernel_rfl) loop18) LTNil)))) rfl ?_
  rw [show (PUnit.unit : HA []) = () from rfl, fw45]
  refine ⟨⟨hc, wt, rfl, rfl⟩, fun t' ov K wt' hk e hz => ?_⟩
  have e : valN t' + 2 ^ 256 * 2 ^ 256 * ov.toNat = valN t + K * valN r.1 := e
  obtain ⟨wm, hodd, hm1, _, _, _⟩ := hc
  have M2 : valN r.1 < 2 ^ 256 := lt4 wm
  have T2 := lt8 wt
  have T2' := lt8 wt'
  have hKM : K * valN r.1 ≤ 2 ^ 256 * valN r.1 := Nat.mul_le_mul_right _ (Nat.le_of_lt hk)
  have hH : valN t' / 2 ^ 256 < 2 ^ 256 := Nat.div_lt_of_lt_mul T2'
  have hd := Nat.div_add_mod (valN t') (2 ^ 256)
  rw [hz, Nat.add_zero] at hd
  have hU : (valN t' / 2 ^ 256 + 2 ^ 256 * ov.toNat) * 2 ^ 256 = valN t + K * valN r.1 := by rw [← e]; omega
  have hU2 : valN t' / 2 ^ 256 + 2 ^ 256 * ov.toNat < 2 ^ 256 + valN r.1 := by
    generalize K * valN r.1 = z at *
    omega
  have hout := outN_eq hodd hm1 hU
  show ifB (decide (0#64 < ov)) (SV.av (AV.val numS (wordsN 4 (remN (valN (wordsN 4 (valN (wordsN 4 (valN t' / 2 ^ 256)) + 2 ^ 256 - valN r.1))) (valN r.1)))) = SV.av (.val numS (wordsN 4 (outN (valN t) (valN r.1)))))
    (SV.av (AV.val numS (wordsN 4 (remN (valN (wordsN 4 (valN t' / 2 ^ 256))) (valN r.1)))) = SV.av (.val numS (wordsN 4 (outN (valN t) (valN r.1)))))
  rw [v4 hH, remN_pos (by omega), remN_pos (by omega)]
  refine ifB_of (fun h => ?_) (fun h => ?_)
  · have h := of_decide_eq_true h
    have h1 : 0 < ov.toNat := BitVec.lt_def.1 h
    have h1 : ov.toNat = 1 := by omega
    rw [h1, Nat.mul_one] at hout hU2
    rw [v4 (n := valN t' / 2 ^ 256 + 2 ^ 256 - valN r.1) (by omega)]
    have e2 : (valN t' / 2 ^ 256 + 2 ^ 256 - valN r.1) % valN r.1 = (valN t' / 2 ^ 256 + 2 ^ 256) % valN r.1 := (Nat.mod_eq_sub_mod (by omega)).symm
    rw [e2, hout]
  · have h1 : ov.toNat = 0 := by
      refine Nat.eq_zero_of_not_pos fun h1 => ?_
      rw [decide_eq_true (show 0#64 < ov from BitVec.lt_def.2 h1)] at h; cases h
    rw [h1, Nat.mul_zero, Nat.add_zero] at hout
    rw [hout]
noncomputable def ct8 : CTab := (45, conA [.f ringS, .v wideS] outF) :: ct7
theorem ct8_ok : ∀ p ∈ ct8, COK Try.prog noGl p.1 p.2 := CCons out_ok ct7_ok
noncomputable abbrev Y8 : Go.Ty.Cx := mkX Try.prog noGl shR ct8
end Go.Proofs.Ytninlahlmjhmhaa
