import Derived.Test.YtehgaljcpbaplaaWA9
namespace Go.Proofs.Ytehgaljcpbaplaa
open Go.Ty

/-! ## wrap.Wrap and wrap.Unwrap -/
noncomputable def okP (l : Nat) : Bool := decide (l % 8 = 0) && (decide (16 ≤ l) && decide (l ≤ 64))
noncomputable def okU (l : Nat) : Bool := decide (l % 8 = 0) && (decide (24 ≤ l) && decide (l ≤ 72))
noncomputable def hd8 (y : List (BitVec 8)) : Bool := decide (rd u8S y 0 = 166#8) && (decide (rd u8S y 1 = 166#8) && (decide (rd u8S y 2 = 166#8) && (decide (rd u8S y 3 = 166#8) && (decide (rd u8S y 4 = 166#8) && (decide (rd u8S y 5 = 166#8) && (decide (rd u8S y 6 = 166#8) && decide (rd u8S y 7 = 166#8)))))))
noncomputable def wrapO (w : WW) (R : Int) (p : List (BitVec 8)) : List (BitVec 8) := bif okP p.length then wN w R (p.length / 8) (6 * (p.length / 8)) (List.replicate 8 166#8 ++ p) else []
noncomputable def wrapE (p : List (BitVec 8)) : Int := bif okP p.length then 0 else 1
noncomputable def unwY (w : WW) (R : Int) (c : List (BitVec 8)) : List (BitVec 8) := uN w R (c.length / 8 - 1) (6 * (c.length / 8 - 1)) c
noncomputable def unwO (w : WW) (R : Int) (c : List (BitVec 8)) : List (BitVec 8) := bif okU c.length then (bif hd8 (unwY w R c) then (unwY w R c).drop 8 else []) else []
noncomputable def unwE (w : WW) (R : Int) (c : List (BitVec 8)) : Int := bif okU c.length then (bif hd8 (unwY w R c) then 0 else 5) else 1
theorem okP_iff {l : Nat} : okP l = true ↔ l % 8 = 0 ∧ 16 ≤ l ∧ l ≤ 64 := by
  unfold okP; rw [Bool.and_eq_true, Bool.and_eq_true, decide_eq_true_eq, decide_eq_true_eq, decide_eq_true_eq]
theorem okU_iff {l : Nat} : okU l = true ↔ l % 8 = 0 ∧ 24 ≤ l ∧ l ≤ 72 := by
  unfold okU; rw [Bool.and_eq_true, Bool.and_eq_true, decide_eq_true_eq, decide_eq_true_eq, decide_eq_true_eq]
theorem hd8_iff {y : List (BitVec 8)} : hd8 y = true ↔ rd u8S y 0 = 166#8 ∧ rd u8S y 1 = 166#8 ∧ rd u8S y 2 = 166#8 ∧ rd u8S y 3 = 166#8 ∧ rd u8S y 4 = 166#8 ∧ rd u8S y 5 = 166#8 ∧ rd u8S y 6 = 166#8 ∧ rd u8S y 7 = 166#8 := by
  unfold hd8
  simp only [Bool.and_eq_true, decide_eq_true_eq]
theorem hd8_app (p : List (BitVec 8)) : hd8 (List.replicate 8 166#8 ++ p) = true := hd8_iff.2 ⟨rfl, rfl, rfl, rfl, rfl, rfl, rfl, rfl⟩
theorem hd8_eq {y : List (BitVec 8)} (hl : 8 ≤ y.length) (h : hd8 y = true) : y = List.replicate 8 166#8 ++ y.drop 8 := by
  obtain ⟨h0, h1, h2, h3, h4, h5, h6, h7⟩ := hd8_iff.1 h
  match y, hl with
  | b0 :: b1 :: b2 :: b3 :: b4 :: b5 :: b6 :: b7 :: r, _ =>
    have h0 : b0 = 166#8 := h0
    have h1 : b1 = 166#8 := h1
    have h2 : b2 = 166#8 := h2
    have h3 : b3 = 166#8 := h3
    have h4 : b4 = 166#8 := h4
    have h5 : b5 = 166#8 := h5
    have h6 : b6 = 166#8 := h6
    have h7 : b7 = 166#8 := h7
    rw [h0, h1, h2, h3, h4, h5, h6, h7]; rfl
theorem unw_wrap (w : WW) (R : Int) {p : List (BitVec 8)} (h : okP p.length = true) : wrapE p = 0 ∧ (wrapO w R p).length = p.length + 8 ∧ unwE w R (wrapO w R p) = 0 ∧ unwO w R (wrapO w R p) = p := by
  obtain ⟨h1, h2, h3⟩ := okP_iff.1 h
  have e : wrapO w R p = wN w R (p.length / 8) (6 * (p.length / 8)) (List.replicate 8 166#8 ++ p) := by unfold wrapO; rw [h]; rfl
  have li : List.length (List.replicate 8 166#8 ++ p) = 8 + 8 * (p.length / 8) := by rw [List.length_append, List.length_replicate]; omega
  have hn : 1 ≤ p.length / 8 := by omega
  have hl : (wrapO w R p).length = p.length + 8 := by rw [e, wN_len w R _ hn _ _ li]; omega
  have hu : okU (wrapO w R p).length = true := okU_iff.2 (by rw [hl]; omega)
  have hy : unwY w R (wrapO w R p) = List.replicate 8 166#8 ++ p := by
    unfold unwY
    rw [hl, show (p.length + 8) / 8 - 1 = p.length / 8 by omega, e, uN_wN w R _ hn _ _ li]
  refine ⟨by unfold wrapE; rw [h]; rfl, hl, ?_, ?_⟩
  · unfold unwE; rw [hu, hy, hd8_app]; rfl
  · unfold unwO; rw [hu, hy, hd8_app]; rfl
theorem unw_no (w : WW) (R : Int) {c : List (BitVec 8)} (h : unwE w R c ≠ 0) : unwO w R c = [] := by
  unfold unwE at h
  unfold unwO
  cases hu : okU c.length with
  | false => rfl
  | true =>
    rw [hu] at h
    cases hy : hd8 (unwY w R c) with
    | false => rfl
    | true => rw [hy] at h; exact absurd rfl h
theorem wrap_unw (w : WW) (R : Int) {c : List (BitVec 8)} (h : unwE w R c = 0) : wrapE (unwO w R c) = 0 ∧ wrapO w R (unwO w R c) = c := by
  have hu : okU c.length = true := by
    cases hu : okU c.length with
    | true => rfl
    | false => unfold unwE at h; rw [hu] at h; exact absurd h (show ¬ (1 : Int) = 0 by decide)
  have hy : hd8 (unwY w R c) = true := by
    cases hy : hd8 (unwY w R c) with
    | true => rfl
    | false => unfold unwE at h; rw [hu, hy] at h; exact absurd h (by decide)
  obtain ⟨h1, h2, h3⟩ := okU_iff.1 hu
  have hn : 1 ≤ c.length / 8 - 1 := by omega
  have li : c.length = 8 + 8 * (c.length / 8 - 1) := by omega
  have ly : (unwY w R c).length = 8 + 8 * (c.length / 8 - 1) := uN_len w R _ hn _ _ li
  have eo : unwO w R c = (unwY w R c).drop 8 := by unfold unwO; rw [hu, hy]; rfl
  have lo : (unwO w R c).length = 8 * (c.length / 8 - 1) := by rw [eo, List.length_drop, ly]; omega
  have hp : okP (unwO w R c).length = true := okP_iff.2 (by rw [lo]; omega)
  refine ⟨by unfold wrapE; rw [hp]; rfl, ?_⟩
  unfold wrapO
  rw [hp, lo, show 8 * (c.length / 8 - 1) / 8 = c.length / 8 - 1 by omega, eo, ← hd8_eq (by rw [ly]; omega) hy]
  exact wN_uN w R _ hn _ _ li
noncomputable def wrapF : HA [.v keyS, .v (.sl u8S)] → RT := fun xs => .dem (decide (1 ≤ xs.1.2.1) && decide (xs.1.2.1 < 15)) (.ret (.tup [.val (.sl u8S) (wrapO xs.1.1 xs.1.2.1 xs.2.1), .val i64S (wrapE xs.2.1)]))
noncomputable def unwF : HA [.v keyS, .v (.sl u8S)] → RT := fun xs => .dem (decide (1 ≤ xs.1.2.1) && decide (xs.1.2.1 < 15)) (.ret (.tup [.val (.sl u8S) (unwO xs.1.1 xs.1.2.1 xs.2.1), .val i64S (unwE xs.1.1 xs.1.2.1 xs.2.1)]))
theorem tmod8 (l : Nat) : ((l : Nat) : Int).tmod 8 = ((l % 8 : Nat) : Int) := (Int.ofNat_tmod l 8).symm
theorem tdiv8 (l : Nat) : ((l : Nat) : Int).tdiv 8 = ((l / 8 : Nat) : Int) := (Int.ofNat_tdiv l 8).symm
theorem init8 (p : List (BitVec 8)) : ((((((((over (List.replicate (8 + p.length) 0#8) 8 p).set 0 166#8).set 1 166#8).set 2 166#8).set 3 166#8).set 4 166#8).set 5 166#8).set 6 166#8).set 7 166#8 = List.replicate 8 166#8 ++ p := by
  unfold over
  rw [List.take_replicate, show min 8 (8 + p.length) = 8 by omega, List.drop_of_length_le (by rw [List.length_replicate]; exact Nat.le_refl _), List.append_nil]
  rfl
theorem wrap_ok : COK Try.prog GL 24 (conA [.v keyS, .v (.sl u8S)] wrapF) := by
  refine conA_ok (fun xs hw hc => ?_) (fun xs => rfl)
  obtain ⟨⟨w, R0, ⟨⟩⟩, p, ⟨⟩⟩ := xs
  obtain ⟨hc1, _⟩ := hc
  obtain ⟨R, eR⟩ : ∃ R : Int, R = R0 := ⟨R0, rfl⟩
  subst eR
  have hc1 : (decide ((1 : Int) ≤ R) && decide (R < (15 : Int))) = true := hc1
  rw [Bool.and_eq_true, decide_eq_true_eq, decide_eq_true_eq] at hc1
  have loops := loopsOK (X := bx Try.prog GL) (by kernel_rfl) (LTCons (loop_of shA_ok a11_ok mixed (loopsOK (by kernel_rfl) (LTCons (noLoop (by kernel_rfl)) LTNil)) (by kernel_rfl) loopswra) LTNil)
  show PC (bx Try.prog GL) 24 (argsA [.v keyS, .v (.sl u8S)] ((w, R, ()), p, ())) (.tup [.val (.sl u8S) (wrapO w R p), .val i64S (wrapE p)])
  cases h : okP (List.length p) with
  | false =>
    have e1 : wrapO w R p = [] := by unfold wrapO; rw [h]; rfl
    have e2 : wrapE p = 1 := by unfold wrapE; rw [h]; rfl
    rw [e1, e2]
    refine PC.nil ?_ rfl
    refine PC_of_fw (t := Lwra) shA_ok a11_ok mixed Try.func24 (c := bwra) rfl (by kernel_rfl) (by kernel_rfl) loops rfl ?_
    refine (fwWrap (w, R, ()) p _).mpr ?_
    rw [tmod8]
    refine ifB_of (fun _ => rfl) (fun h1 => ifB_of (fun _ => rfl) (fun h2 => ifB_of (fun _ => rfl) (fun h3 => ?_)))
    rw [Bool.not_eq_false', decide_eq_true_eq] at h1
    rw [decide_eq_false_iff_not] at h2 h3
    have : okP (List.length p) = true := okP_iff.2 (by omega)
    rw [h] at this
    cases this
  | true =>
    obtain ⟨h1, h2, h3⟩ := okP_iff.1 h
    have e1 : wrapO w R p = wN w R (p.length / 8) (6 * (p.length / 8)) (List.replicate 8 166#8 ++ p) := by unfold wrapO; rw [h]; rfl
    have e2 : wrapE p = 0 := by unfold wrapE; rw [h]; rfl
    rw [e1, e2]
    refine PC_of_fw (t := Lwra) shA_ok a11_ok mixed Try.func24 (c := bwra) rfl (by kernel_rfl) (by kernel_rfl) loops rfl ?_
    refine (fwWrap (w, R, ()) p _).mpr ?_
    have q1 : IntKind.i64.wrap (8 + ((List.length p : Nat) : Int)) = ((8 + List.length p : Nat) : Int) := by rw [IntWalk.i64_in _ (by omega)]; omega
    have q2 : IntKind.i64.wrap ((((List.length p : Nat) : Int)).tdiv 8) = ((List.length p / 8 : Nat) : Int) := by rw [tdiv8, IntWalk.i64_in _ (by omega)]
    rw [tmod8, q1, q2, Int.toNat_natCast, init8]
    refine ifB_of (fun h => ?_) (fun _ => ifB_of (fun h => ?_) (fun _ => ifB_of (fun h => ?_) (fun _ => dmd_of ?_ (dmd_of ?_ (dmd_of ?_ (dmd_of ?_ (dmd_of ?_ (dmd_of ?_ (dmd_of ?_ (dmd_of ?_ (dmd_of ?_ (dmd_of ?_ ⟨⟨rfl, ?_⟩, ⟨hc1, ⟨List.length p / 8, rfl, ?_, ?_, ?_⟩, rfl⟩, ?_⟩))))))))))))
    · rw [Bool.not_eq_true', decide_eq_false_iff_not] at h; omega
    · rw [decide_eq_true_eq] at h; omega
    · rw [decide_eq_true_eq] at h; omega
    · rw [decide_eq_true (show (8 : Int) ≤ ((8 + List.length p : Nat) : Int) by omega), decide_eq_true (show ((8 + List.length p : Nat) : Int) * 1 ≤ 140737488355328 by omega), decide_eq_true (show ((8 + List.length p : Nat) : Int) < 9223372036854775808 by omega)]; rfl
    · exact Nat.ble_eq_true_of_le (Nat.le_refl _)
    · exact decide_eq_true (by omega)
    · exact decide_eq_true (by omega)
    · exact decide_eq_true (by omega)
    · exact decide_eq_true (by omega)
    · exact decide_eq_true (by omega)
    · exact decide_eq_true (by omega)
    · exact decide_eq_true (by omega)
    · exact decide_eq_true (by omega)
    · rw [List.length_append, List.length_replicate]
    · omega
    · omega
    · show List.length (List.replicate 8 166#8 ++ p) = _
      rw [List.length_append, List.length_replicate]; omega
    · show SV.tup [AV.val (.sl u8S) (List.take (List.length (wN w R ((List.length p / 8 : Nat) : Int).toNat (6 * ((List.length p / 8 : Nat) : Int).toNat) (List.replicate 8 166#8 ++ p))) (List.drop 0 (wN w R ((List.length p / 8 : Nat) : Int).toNat (6 * ((List.length p / 8 : Nat) : Int).toNat) (List.replicate 8 166#8 ++ p)))), AV.val i64S 0] = _
      rw [Int.toNat_natCast, List.drop_zero, List.take_length]
theorem app0 {n : Nat} {p q : Prop} (h : n ≠ 0) (h2 : n * 1 ≤ 140737488355328) (k : p) : ifB (n.beq 0) q (dmd ((n * 1).ble 140737488355328) p) := by
  rw [beq0 h]
  exact dmd_of (Nat.ble_eq_true_of_le h2) k
theorem ckB {b : Bool} {p q : Prop} (h : b = true) (k : q) : ifB (!b) p q := by subst h; exact k
theorem unwrap_ok : COK Try.prog GL 30 (conA [.v keyS, .v (.sl u8S)] unwF) := by
  refine conA_ok (fun xs hw hc => ?_) (fun xs => rfl)
  obtain ⟨⟨w, R0, ⟨⟩⟩, c, ⟨⟩⟩ := xs
  obtain ⟨hc1, _⟩ := hc
  obtain ⟨R, eR⟩ : ∃ R : Int, R = R0 := ⟨R0, rfl⟩
  subst eR
  have hc1 : (decide ((1 : Int) ≤ R) && decide (R < (15 : Int))) = true := hc1
  rw [Bool.and_eq_true, decide_eq_true_eq, decide_eq_true_eq] at hc1
  have loops := loopsOK (X := bx Try.prog GL) (by kernel_rfl) (LTCons (loop_of shA_ok a11_ok mixed (loopsOK (by kernel_rfl) (LTCons (noLoop (by kernel_rfl)) LTNil)) (by kernel_rfl) loopsunw) LTNil)
  show PC (bx Try.prog GL) 30 (argsA [.v keyS, .v (.sl u8S)] ((w, R, ()), c, ())) (.tup [.val (.sl u8S) (unwO w R c), .val i64S (unwE w R c)])
  cases h : okU (List.length c) with
  | false =>
    have e1 : unwO w R c = [] := by unfold unwO; rw [h]; rfl
    have e2 : unwE w R c = 1 := by unfold unwE; rw [h]; rfl
    rw [e1, e2]
    refine PC.nil ?_ rfl
    refine PC_of_fw (t := Lunw) shA_ok a11_ok mixed Try.func30 (c := bunw) rfl (by kernel_rfl) (by kernel_rfl) loops rfl ?_
    refine (fwUnwrap (w, R, ()) c _).mpr ?_
    rw [tmod8]
    refine ifB_of (fun _ => rfl) (fun h1 => ifB_of (fun _ => rfl) (fun h2 => ifB_of (fun _ => rfl) (fun h3 => ?_)))
    rw [Bool.not_eq_false', decide_eq_true_eq] at h1
    rw [decide_eq_false_iff_not] at h2 h3
    have : okU (List.length c) = true := okU_iff.2 (by omega)
    rw [h] at this
    cases this
  | true =>
    obtain ⟨h1, h2, h3⟩ := okU_iff.1 h
    have q2 : IntKind.i64.wrap (IntKind.i64.wrap ((((List.length c : Nat) : Int)).tdiv 8) - 1) = ((List.length c / 8 - 1 : Nat) : Int) := by rw [tdiv8, IntWalk.i64_in ((List.length c / 8 : Nat) : Int) (by omega), IntWalk.i64_in _ (by omega)]; omega
    have q3 : IntKind.i64.wrap (6 * ((List.length c / 8 - 1 : Nat) : Int)) = 6 * ((List.length c / 8 - 1 : Nat) : Int) := IntWalk.i64_in _ (by omega)
    have hn : 1 ≤ List.length c / 8 - 1 := by omega
    have li : List.length c = 8 + 8 * (List.length c / 8 - 1) := by omega
    have ey : uN w R ((List.length c / 8 - 1 : Nat) : Int).toNat (6 * ((List.length c / 8 - 1 : Nat) : Int).toNat) c = unwY w R c := by rw [Int.toNat_natCast]; rfl
    have ly : List.length (unwY w R c) = 8 + 8 * (List.length c / 8 - 1) := uN_len w R _ hn _ _ li
    cases hy : hd8 (unwY w R c) with
    | false =>
      have e1 : unwO w R c = [] := by unfold unwO; rw [h, hy]; rfl
      have e2 : unwE w R c = 5 := by unfold unwE; rw [h, hy]; rfl
      rw [e1, e2]
      refine PC.nil ?_ rfl
      refine PC_of_fw (t := Lunw) shA_ok a11_ok mixed Try.func30 (c := bunw) rfl (by kernel_rfl) (by kernel_rfl) loops rfl ?_
      refine (fwUnwrap (w, R, ()) c _).mpr ?_
      rw [tmod8, q2, q3]
      refine ifB_of (fun h => ?_) (fun _ => ifB_of (fun h => ?_) (fun _ => ifB_of (fun h => ?_) (fun _ => app0 (by omega) (by omega) ⟨⟨rfl, rfl⟩, ⟨hc1, ⟨List.length c / 8 - 1, rfl, hn, ?_, li⟩, rfl⟩, ?_⟩)))
      · rw [Bool.not_eq_true', decide_eq_false_iff_not] at h; omega
      · rw [decide_eq_true_eq] at h; omega
      · rw [decide_eq_true_eq] at h; omega
      · omega
      · show dmd (Nat.ble 8 (List.length (uN w R ((List.length c / 8 - 1 : Nat) : Int).toNat (6 * ((List.length c / 8 - 1 : Nat) : Int).toNat) c))) _
        rw [ey]
        refine dmd_of (Nat.ble_eq_true_of_le (by omega)) (ifB_of (fun _ => rfl) (fun k0 => ifB_of (fun _ => rfl) (fun k1 => ifB_of (fun _ => rfl) (fun k2 => ifB_of (fun _ => rfl) (fun k3 => ifB_of (fun _ => rfl) (fun k4 => ifB_of (fun _ => rfl) (fun k5 => ifB_of (fun _ => rfl) (fun k6 => ifB_of (fun _ => rfl) (fun k7 => ?_)))))))))
        have k0 : (!decide (rd u8S (unwY w R c) 0 = 166#8)) = false := by rw [← ey]; exact k0
        have k1 : (!decide (rd u8S (unwY w R c) 1 = 166#8)) = false := by rw [← ey]; exact k1
        have k2 : (!decide (rd u8S (unwY w R c) 2 = 166#8)) = false := by rw [← ey]; exact k2
        have k3 : (!decide (rd u8S (unwY w R c) 3 = 166#8)) = false := by rw [← ey]; exact k3
        have k4 : (!decide (rd u8S (unwY w R c) 4 = 166#8)) = false := by rw [← ey]; exact k4
        have k5 : (!decide (rd u8S (unwY w R c) 5 = 166#8)) = false := by rw [← ey]; exact k5
        have k6 : (!decide (rd u8S (unwY w R c) 6 = 166#8)) = false := by rw [← ey]; exact k6
        have k7 : (!decide (rd u8S (unwY w R c) 7 = 166#8)) = false := by rw [← ey]; exact k7
        rw [Bool.not_eq_false', decide_eq_true_eq] at k0 k1 k2 k3 k4 k5 k6 k7
        have : hd8 (unwY w R c) = true := hd8_iff.2 ⟨k0, k1, k2, k3, k4, k5, k6, k7⟩
        rw [hy] at this
        cases this
    | true =>
      have e1 : unwO w R c = (unwY w R c).drop 8 := by unfold unwO; rw [h, hy]; rfl
      have e2 : unwE w R c = 0 := by unfold unwE; rw [h, hy]; rfl
      rw [e1, e2]
      refine PC_of_fw (t := Lunw) shA_ok a11_ok mixed Try.func30 (c := bunw) rfl (by kernel_rfl) (by kernel_rfl) loops rfl ?_
      refine (fwUnwrap (w, R, ()) c _).mpr ?_
      rw [tmod8, q2, q3]
      obtain ⟨k0, k1, k2, k3, k4, k5, k6, k7⟩ := hd8_iff.1 hy
      refine ifB_of (fun h => ?_) (fun _ => ifB_of (fun h => ?_) (fun _ => ifB_of (fun h => ?_) (fun _ => app0 (by omega) (by omega) ⟨⟨rfl, rfl⟩, ⟨hc1, ⟨List.length c / 8 - 1, rfl, hn, ?_, li⟩, rfl⟩, ?_⟩)))
      · rw [Bool.not_eq_true', decide_eq_false_iff_not] at h; omega
      · rw [decide_eq_true_eq] at h; omega
      · rw [decide_eq_true_eq] at h; omega
      · omega
      · show dmd (Nat.ble 8 (List.length (uN w R ((List.length c / 8 - 1 : Nat) : Int).toNat (6 * ((List.length c / 8 - 1 : Nat) : Int).toNat) c))) _
        dsimp only
        rw [ey]
        have ed : List.take (List.length (unwY w R c) - 8) (List.drop 8 (unwY w R c)) = List.drop 8 (unwY w R c) := List.take_of_length_le (by rw [List.length_drop]; exact Nat.le_refl _)
        rw [ed, List.drop_zero, List.take_length]
        refine dmd_of (Nat.ble_eq_true_of_le (by omega)) (ckB (decide_eq_true k0) (ckB (decide_eq_true k1) (ckB (decide_eq_true k2) (ckB (decide_eq_true k3) (ckB (decide_eq_true k4) (ckB (decide_eq_true k5) (ckB (decide_eq_true k6) (ckB (decide_eq_true k7) (dmd_of (leB (by omega)) (app0 (by rw [List.length_drop]; omega) (by rw [List.length_drop]; omega) rfl))))))))))
noncomputable def a13 : CTab := (30, conA [.v keyS, .v (.sl u8S)] unwF) :: (24, conA [.v keyS, .v (.sl u8S)] wrapF) :: a11
theorem a13_ok : ∀ p ∈ a13, COK Try.prog GL p.1 p.2 := CCons unwrap_ok (CCons wrap_ok a11_ok)
noncomputable abbrev A13 : Go.Ty.Cx := mkX Try.prog GL shA a13
theorem fwWApart (key : Sh.T (.sl u8S)) (p : Sh.T (.sl u8S)) (q : Sh.T (.sl u8S)) (P : SV → Prop) : FW A13 Try.f7.ntmps (LTab.look []) Try.f7 (argsOf [.sl u8S, .sl u8S, .sl u8S] (key, p, q, ())) P =
 (  ifB (!decide (keyE key = 0)) (P (SV.av (AV.val Sh.bool true)))
    (dmd (decide (1 ≤ keyR key) && decide (keyR key < 15))
      (dmd (decide (1 ≤ keyR key) && decide (keyR key < 15))
        (ifB (!decide (wrapE p = 0)) (P (SV.av (AV.val Sh.bool true)))
          (ifB (!decide (wrapE q = 0)) (P (SV.av (AV.val Sh.bool true)))
            (P
              (SV.av
                (AV.val Sh.bool
                  (teq Sh.bool
                    (teq (Sh.int IntKind.u8).sl (wrapO (keyW key) (keyR key) p) (wrapO (keyW key) (keyR key) q))
                    (teq (Sh.int IntKind.u8).sl p q)))))))))) := by kernel_rfl
theorem fwWBack (key : Sh.T (.sl u8S)) (p : Sh.T (.sl u8S)) (P : SV → Prop) : FW A13 Try.f14.ntmps (LTab.look []) Try.f14 (argsOf [.sl u8S, .sl u8S] (key, p, ())) P =
 (  ifB (!decide (keyE key = 0)) (P (SV.av (AV.val Sh.bool true)))
    (dmd (decide (1 ≤ keyR key) && decide (keyR key < 15))
      (ifB (!decide (wrapE p = 0))
        (ifB (decide ((((wrapO (keyW key) (keyR key) p).length : Nat) : Int) = 0))
          (ifB (!decide (((((List.length p) : Nat) : Int)).tmod 8 = 0)) (P (SV.av (AV.val Sh.bool true)))
            (ifB (decide ((((List.length p) : Nat) : Int) < 16)) (P (SV.av (AV.val Sh.bool true)))
              (P (SV.av (AV.val Sh.bool (decide (64 < (((List.length p) : Nat) : Int))))))))
          (P (SV.av (AV.val Sh.bool false))))
        (dmd (decide (1 ≤ keyR key) && decide (keyR key < 15))
          (ifB (decide (unwE (keyW key) (keyR key) (wrapO (keyW key) (keyR key) p) = 0))
            (ifB (teq (Sh.int IntKind.u8).sl p (unwO (keyW key) (keyR key) (wrapO (keyW key) (keyR key) p)))
              (P
                (SV.av
                  (AV.val Sh.bool
                    (decide ((((wrapO (keyW key) (keyR key) p).length : Nat) : Int) = IntKind.i64.wrap ((((List.length p) : Nat) : Int) + 8))))))
              (P (SV.av (AV.val Sh.bool false))))
            (P (SV.av (AV.val Sh.bool false)))))))) := by kernel_rfl
theorem fwWOne (key : Sh.T (.sl u8S)) (c : Sh.T (.sl u8S)) (P : SV → Prop) : FW A13 Try.f15.ntmps (LTab.look []) Try.f15 (argsOf [.sl u8S, .sl u8S] (key, c, ())) P =
 (  ifB (!decide (keyE key = 0)) (P (SV.av (AV.val Sh.bool true)))
    (dmd (decide (1 ≤ keyR key) && decide (keyR key < 15))
      (ifB (!decide (unwE (keyW key) (keyR key) c = 0))
        (P (SV.av (AV.val Sh.bool (decide ((((unwO (keyW key) (keyR key) c).length : Nat) : Int) = 0)))))
        (dmd (decide (1 ≤ keyR key) && decide (keyR key < 15))
          (ifB (decide (wrapE (unwO (keyW key) (keyR key) c) = 0))
            (P
              (SV.av
                (AV.val Sh.bool
                  (teq (Sh.int IntKind.u8).sl c (wrapO (keyW key) (keyR key) (unwO (keyW key) (keyR key) c))))))
            (P (SV.av (AV.val Sh.bool false)))))))) := by kernel_rfl
theorem wrapE_no {p : List (BitVec 8)} (h : okP p.length = false) : wrapE p = 1 := by unfold wrapE; rw [h]; rfl
theorem wrapO_no (w : WW) (R : Int) {p : List (BitVec 8)} (h : okP p.length = false) : wrapO w R p = [] := by unfold wrapO; rw [h]; rfl
theorem walkWApart (xs : HL [.sl u8S, .sl u8S, .sl u8S]) (h : okHL [.sl u8S, .sl u8S, .sl u8S] xs) : PC (bx Try.prog GL) 7 (argsOf [.sl u8S, .sl u8S, .sl u8S] xs) (.av (.val .bool true)) := by
  obtain ⟨key, p, q, ⟨⟩⟩ := xs
  refine PC_of_fw (t := []) shA_ok a13_ok mixed Try.func7 (c := Try.f7.body.getD .skip) rfl (by kernel_rfl) (by kernel_rfl) loopsNil rfl ?_
  rw [show (PUnit.unit : HL []) = () from rfl, fwWApart]
  cases hk : okL (List.length key) with
  | false => rw [keyE_no hk]; exact ifB_of (fun _ => rfl) (fun h => absurd h (by decide))
  | true =>
    obtain ⟨k1, k2, k3⟩ := keyE_ok hk
    rw [k1]
    refine ifB_of (fun h => absurd h (by decide)) (fun _ => dmd_of k3 (dmd_of k3 (ifB_of (fun _ => rfl) (fun hp => ifB_of (fun _ => rfl) (fun hq => pbool (teq_of (s := .bool) ?_))))))
    rw [Bool.not_eq_false', decide_eq_true_eq] at hp hq
    have hp : okP (List.length p) = true := by
      cases e : okP (List.length p) with
      | true => rfl
      | false => rw [wrapE_no e] at hp; exact absurd hp (by decide)
    have hq : okP (List.length q) = true := by
      cases e : okP (List.length q) with
      | true => rfl
      | false => rw [wrapE_no e] at hq; exact absurd hq (by decide)
    by_cases e : (p : List (BitVec 8)) = q
    · have e1 : teq (.sl u8S) p q = true := teq_of e
      have e2 : teq (.sl u8S) (wrapO (keyW key) (keyR key) p) (wrapO (keyW key) (keyR key) q) = true := teq_of (by rw [e])
      exact e2.trans e1.symm
    · have e1 : teq (.sl u8S) p q = false := Bool.eq_false_iff.2 fun c => e (teq_iff.1 c)
      have e2 : teq (.sl u8S) (wrapO (keyW key) (keyR key) p) (wrapO (keyW key) (keyR key) q) = false := Bool.eq_false_iff.2 fun c => e (by
        have c : wrapO (keyW key) (keyR key) p = wrapO (keyW key) (keyR key) q := teq_iff.1 c
        rw [← (unw_wrap (keyW key) (keyR key) hp).2.2.2, c, (unw_wrap (keyW key) (keyR key) hq).2.2.2])
      exact e2.trans e1.symm
theorem walkWBack (xs : HL [.sl u8S, .sl u8S]) (h : okHL [.sl u8S, .sl u8S] xs) : PC (bx Try.prog GL) 14 (argsOf [.sl u8S, .sl u8S] xs) (.av (.val .bool true)) := by
  obtain ⟨key, p, ⟨⟩⟩ := xs
  refine PC_of_fw (t := []) shA_ok a13_ok mixed Try.func14 (c := Try.f14.body.getD .skip) rfl (by kernel_rfl) (by kernel_rfl) loopsNil rfl ?_
  rw [show (PUnit.unit : HL []) = () from rfl, fwWBack]
  cases hk : okL (List.length key) with
  | false => rw [keyE_no hk]; exact ifB_of (fun _ => rfl) (fun h => absurd h (by decide))
  | true =>
    obtain ⟨k1, k2, k3⟩ := keyE_ok hk
    rw [k1]
    refine ifB_of (fun h => absurd h (by decide)) (fun _ => dmd_of k3 ?_)
    cases e : okP (List.length p) with
    | false =>
      rw [wrapE_no e, wrapO_no _ _ e, tmod8]
      refine ifB_of (fun _ => ifB_of (fun _ => ifB_of (fun _ => rfl) (fun h1 => ifB_of (fun _ => rfl) (fun h2 => pbool ?_))) (fun h => absurd h (by decide))) (fun h => absurd h (by decide))
      rw [Bool.not_eq_false', decide_eq_true_eq] at h1
      rw [decide_eq_false_iff_not] at h2
      refine decide_eq_true ?_
      have e : ¬ okP (List.length p) = true := by rw [e]; decide
      rw [okP_iff] at e
      omega
    | true =>
      obtain ⟨e1, e2, e3, e4⟩ := unw_wrap (keyW key) (keyR key) e
      obtain ⟨h1, h2, h3⟩ := okP_iff.1 e
      rw [e1, e2, e3, e4, IntWalk.i64_in _ (by omega)]
      refine ifB_of (fun h => absurd h (by decide)) (fun _ => dmd_of k3 (ifB_of (fun _ => step_t (s := .sl u8S) rfl (pbool (decide_eq_true ?_))) (fun h => absurd h (by decide))))
      omega
theorem walkWOne (xs : HL [.sl u8S, .sl u8S]) (h : okHL [.sl u8S, .sl u8S] xs) : PC (bx Try.prog GL) 15 (argsOf [.sl u8S, .sl u8S] xs) (.av (.val .bool true)) := by
  obtain ⟨key, c, ⟨⟩⟩ := xs
  refine PC_of_fw (t := []) shA_ok a13_ok mixed Try.func15 (c := Try.f15.body.getD .skip) rfl (by kernel_rfl) (by kernel_rfl) loopsNil rfl ?_
  rw [show (PUnit.unit : HL []) = () from rfl, fwWOne]
  cases hk : okL (List.length key) with
  | false => rw [keyE_no hk]; exact ifB_of (fun _ => rfl) (fun h => absurd h (by decide))
  | true =>
    obtain ⟨k1, k2, k3⟩ := keyE_ok hk
    rw [k1]
    refine ifB_of (fun h => absurd h (by decide)) (fun _ => dmd_of k3 (ifB_of (fun h => ?_) (fun h => ?_)))
    · rw [Bool.not_eq_true', decide_eq_false_iff_not] at h
      rw [unw_no _ _ h]
      exact rfl
    · rw [Bool.not_eq_false', decide_eq_true_eq] at h
      obtain ⟨e1, e2⟩ := wrap_unw (keyW key) (keyR key) h
      rw [e1, e2]
      exact dmd_of k3 (ifB_of (fun _ => pbool (teq_of (s := .sl u8S) rfl)) (fun h => absurd h (by decide)))
end Go.Proofs.Ytehgaljcpbaplaa
