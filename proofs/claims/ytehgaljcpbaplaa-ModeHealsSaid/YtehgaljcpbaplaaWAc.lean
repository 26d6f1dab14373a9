import Derived.Test.YtehgaljcpbaplaaWAb
namespace Go.Proofs.Ytehgaljcpbaplaa
open Go.Ty

/-! ## mode.Seal -/
noncomputable def sealF : HA [.v keyS, .v b16S, .v (.sl u8S)] → RT := fun xs => .dem (decide (1 ≤ xs.1.2.1) && decide (xs.1.2.1 < 15)) (.dem (Nat.ble (List.length xs.2.2.1) 140737488355300) (.ret (.av (.val (.sl u8S) (sealW xs.1.1 xs.1.2.1 xs.2.1 xs.2.2.1)))))
theorem tmod16 (l : Nat) : ((l : Nat) : Int).tmod 16 = ((l % 16 : Nat) : Int) := (Int.ofNat_tmod l 16).symm
theorem seal_ok : COK Try.prog GL 28 (conA [.v keyS, .v b16S, .v (.sl u8S)] sealF) := by
  refine conA_ok (fun xs hw hc => ?_) (fun xs => rfl)
  obtain ⟨⟨w, R0, ⟨⟩⟩, iv, p, ⟨⟩⟩ := xs
  obtain ⟨hc1, hc2, _⟩ := hc
  obtain ⟨R, eR⟩ : ∃ R : Int, R = R0 := ⟨R0, rfl⟩
  subst eR
  have hc1 : (decide ((1 : Int) ≤ R) && decide (R < (15 : Int))) = true := hc1
  have hiv : List.length iv = 16 := hw.2.1.1
  have hc2 : Nat.ble (List.length p) 140737488355300 = true := hc2
  have hp : List.length p ≤ 140737488355300 := Nat.le_of_ble_eq_true hc2
  rw [Bool.and_eq_true, decide_eq_true_eq, decide_eq_true_eq] at hc1
  have inner := fun {k} (h : hasLoop (bodyAt bsl k) 5 = false) (h' : hasLoop (bodyAt bsl k) 9 = false) (hk : keysOnce (bodyAt bsl k) = true) => loopsOK (X := mkX Try.prog GL shA a13) (N := Try.f28.ntmps) hk (LTCons (p := ptL Is5 [] os5 Qs5) (noLoop h) (LTCons (p := ptL Is9 [] os9 Qs9) (noLoop h') LTNil))
  refine PC_of_fw (t := Lsl) shA_ok a13_ok mixed Try.func28 (c := bsl) rfl (by kernel_rfl) (by kernel_rfl) (loopsOK (by kernel_rfl) (LTCons (loop_of shA_ok a13_ok mixed (inner (by kernel_rfl) (by kernel_rfl) (by kernel_rfl)) (by kernel_rfl) loopss5) (LTCons (loop_of shA_ok a13_ok mixed (inner (by kernel_rfl) (by kernel_rfl) (by kernel_rfl)) (by kernel_rfl) loopss9) LTNil))) rfl ?_
  refine (fwSeal (w, R, ()) iv p _).mpr ?_
  have hn : padN (List.length p) = 16 - List.length p % 16 := rfl
  have q1 : IntKind.i64.wrap (16 - (((List.length p : Nat) : Int)).tmod 16) = ((padN (List.length p) : Nat) : Int) := by rw [tmod16, IntWalk.i64_in _ (by omega)]; omega
  have q2 : IntKind.i64.wrap (((List.length p : Nat) : Int) + ((padN (List.length p) : Nat) : Int)) = ((List.length p + padN (List.length p) : Nat) : Int) := by rw [IntWalk.i64_in _ (by omega)]; omega
  have q3 : over (List.replicate (List.length p + padN (List.length p)) 0#8) 0 p = p ++ List.replicate (padN (List.length p)) 0#8 := by
    unfold over
    rw [List.take_zero, List.nil_append, Nat.zero_add, List.drop_replicate, Nat.add_sub_cancel_left]
  have q4 : List.length (p ++ List.replicate (padN (List.length p)) (BitVec.ofNat 8 (padN (List.length p)))) = 16 * (List.length p / 16 + 1) := pad_len p
  rw [q1, q2, Int.toNat_natCast, q3, Nat.zero_add]
  refine dmd_of ?_ (dmd_of (Nat.ble_eq_true_of_le (by omega)) ⟨⟨rfl, ?_⟩, p, padN (List.length p), by omega, by omega, rfl, rfl, rfl, rfl, ⟨rfl, ?_⟩, ⟨hc1, hiv, ?_, ⟨List.length p / 16 + 1, q4⟩, rfl⟩, ?_⟩)
  · rw [decide_eq_true (show (0 : Int) ≤ ((List.length p + padN (List.length p) : Nat) : Int) by omega), decide_eq_true (show ((List.length p + padN (List.length p) : Nat) : Int) * 1 ≤ 140737488355328 by omega), decide_eq_true (show ((List.length p + padN (List.length p) : Nat) : Int) < 9223372036854775808 by omega)]; rfl
  · rw [List.length_append, List.length_replicate]
  · show List.length p + padN (List.length p) = List.length (p ++ List.replicate (padN (List.length p)) (BitVec.ofNat 8 (padN (List.length p))))
    rw [List.length_append, List.length_replicate]
  · show List.length (p ++ List.replicate (padN (List.length p)) (BitVec.ofNat 8 (padN (List.length p)))) ≤ _
    rw [List.length_append, List.length_replicate]; omega
  · show SV.av (AV.val (.sl u8S) (List.take (List.length (sealC w R iv (padW p) (List.length (padW p) / 16))) (List.drop 0 (sealC w R iv (padW p) (List.length (padW p) / 16))))) = SV.av (AV.val (.sl u8S) (sealW w R iv p))
    rw [List.drop_zero, List.take_length, pad_len, Nat.mul_div_cancel_left _ (by decide)]; rfl
/-! ## mode.Open -/
theorem over16 (at_ : Nat) (c : List (BitVec 8)) (h : at_ + 16 ≤ c.length) : over (List.replicate 16 0#8) 0 (List.take 16 (List.drop at_ (List.take c.length c))) = blkA c at_ := by
  rw [List.take_length]
  show over (List.replicate 16 0#8) 0 (blkA c at_) = _
  have := blk_len h
  unfold over
  rw [this]
  show [] ++ blkA c at_ ++ [] = _
  rw [List.nil_append, List.append_nil]
theorem hsets (at_ : Nat) (out D : List (BitVec 8)) (b0 b1 b2 b3 b4 b5 b6 b7 b8 b9 b10 b11 b12 b13 b14 b15 : BitVec 8) (h : at_ + 16 ≤ out.length) : ((((((((((((((((out.set (at_ + 0) (rd (Sh.int IntKind.u8) D 0 ^^^ b0)).set (at_ + 1) (rd (Sh.int IntKind.u8) D 1 ^^^ b1)).set (at_ + 2) (rd (Sh.int IntKind.u8) D 2 ^^^ b2)).set (at_ + 3) (rd (Sh.int IntKind.u8) D 3 ^^^ b3)).set (at_ + 4) (rd (Sh.int IntKind.u8) D 4 ^^^ b4)).set (at_ + 5) (rd (Sh.int IntKind.u8) D 5 ^^^ b5)).set (at_ + 6) (rd (Sh.int IntKind.u8) D 6 ^^^ b6)).set (at_ + 7) (rd (Sh.int IntKind.u8) D 7 ^^^ b7)).set (at_ + 8) (rd (Sh.int IntKind.u8) D 8 ^^^ b8)).set (at_ + 9) (rd (Sh.int IntKind.u8) D 9 ^^^ b9)).set (at_ + 10) (rd (Sh.int IntKind.u8) D 10 ^^^ b10)).set (at_ + 11) (rd (Sh.int IntKind.u8) D 11 ^^^ b11)).set (at_ + 12) (rd (Sh.int IntKind.u8) D 12 ^^^ b12)).set (at_ + 13) (rd (Sh.int IntKind.u8) D 13 ^^^ b13)).set (at_ + 14) (rd (Sh.int IntKind.u8) D 14 ^^^ b14)).set (at_ + 15) (rd (Sh.int IntKind.u8) D 15 ^^^ b15)) = over out at_ (xr D [b0, b1, b2, b3, b4, b5, b6, b7, b8, b9, b10, b11, b12, b13, b14, b15]) :=
  (show ((((((((((((((((out.set (at_ + 0) (rd (Sh.int IntKind.u8) D 0 ^^^ b0)).set (at_ + 1) (rd (Sh.int IntKind.u8) D 1 ^^^ b1)).set (at_ + 2) (rd (Sh.int IntKind.u8) D 2 ^^^ b2)).set (at_ + 3) (rd (Sh.int IntKind.u8) D 3 ^^^ b3)).set (at_ + 4) (rd (Sh.int IntKind.u8) D 4 ^^^ b4)).set (at_ + 5) (rd (Sh.int IntKind.u8) D 5 ^^^ b5)).set (at_ + 6) (rd (Sh.int IntKind.u8) D 6 ^^^ b6)).set (at_ + 7) (rd (Sh.int IntKind.u8) D 7 ^^^ b7)).set (at_ + 8) (rd (Sh.int IntKind.u8) D 8 ^^^ b8)).set (at_ + 9) (rd (Sh.int IntKind.u8) D 9 ^^^ b9)).set (at_ + 10) (rd (Sh.int IntKind.u8) D 10 ^^^ b10)).set (at_ + 11) (rd (Sh.int IntKind.u8) D 11 ^^^ b11)).set (at_ + 12) (rd (Sh.int IntKind.u8) D 12 ^^^ b12)).set (at_ + 13) (rd (Sh.int IntKind.u8) D 13 ^^^ b13)).set (at_ + 14) (rd (Sh.int IntKind.u8) D 14 ^^^ b14)).set (at_ + 15) (rd (Sh.int IntKind.u8) D 15 ^^^ b15)) = setsL out at_ 0 [rd u8S D 0 ^^^ b0, rd u8S D 1 ^^^ b1, rd u8S D 2 ^^^ b2, rd u8S D 3 ^^^ b3, rd u8S D 4 ^^^ b4, rd u8S D 5 ^^^ b5, rd u8S D 6 ^^^ b6, rd u8S D 7 ^^^ b7, rd u8S D 8 ^^^ b8, rd u8S D 9 ^^^ b9, rd u8S D 10 ^^^ b10, rd u8S D 11 ^^^ b11, rd u8S D 12 ^^^ b12, rd u8S D 13 ^^^ b13, rd u8S D 14 ^^^ b14, rd u8S D 15 ^^^ b15] from rfl).trans ((setsL_over at_ [rd u8S D 0 ^^^ b0, rd u8S D 1 ^^^ b1, rd u8S D 2 ^^^ b2, rd u8S D 3 ^^^ b3, rd u8S D 4 ^^^ b4, rd u8S D 5 ^^^ b5, rd u8S D 6 ^^^ b6, rd u8S D 7 ^^^ b7, rd u8S D 8 ^^^ b8, rd u8S D 9 ^^^ b9, rd u8S D 10 ^^^ b10, rd u8S D 11 ^^^ b11, rd u8S D 12 ^^^ b12, rd u8S D 13 ^^^ b13, rd u8S D 14 ^^^ b14, rd u8S D 15 ^^^ b15] 0 out h).trans (show over out (at_ + 0) [rd u8S D 0 ^^^ b0, rd u8S D 1 ^^^ b1, rd u8S D 2 ^^^ b2, rd u8S D 3 ^^^ b3, rd u8S D 4 ^^^ b4, rd u8S D 5 ^^^ b5, rd u8S D 6 ^^^ b6, rd u8S D 7 ^^^ b7, rd u8S D 8 ^^^ b8, rd u8S D 9 ^^^ b9, rd u8S D 10 ^^^ b10, rd u8S D 11 ^^^ b11, rd u8S D 12 ^^^ b12, rd u8S D 13 ^^^ b13, rd u8S D 14 ^^^ b14, rd u8S D 15 ^^^ b15] = over out at_ (xr D [b0, b1, b2, b3, b4, b5, b6, b7, b8, b9, b10, b11, b12, b13, b14, b15]) from rfl))
set_option maxHeartbeats 1000000 in
theorem roundO (w : WW) (R : Int) {iv c out : List (BitVec 8)} {at_ : Nat} (hi : iv.length = 16) (ha : at_ + 16 ≤ c.length) (hco : out.length = c.length) (ho : c.length ≤ 140737488355328) (hk : (decide ((1 : Int) ≤ R) && decide (R < (15 : Int))) = true) (Kn : HI Io5 → Prop) (Kr : HI [] → Prop) (Kx : HP oo5)
    (h : Kn ((w, R, ()), blkA c at_, c, over out at_ (xr (decW w R (blkA c at_)) iv), ((at_ + 16 : Nat) : Int), ())) :
    roundT (W A13 Try.f29.ntmps (LTab.look Lop) (bodyAt bop 5)) Io5 [] oo5 ((w, R, ()), iv, c, out, ((at_ : Nat) : Int), ()) Kn Kr Kx := by
  have hB : at_ + 16 ≤ 140737488355328 := Nat.le_trans ha ho
  have hlt : ((at_ : Nat) : Int) < ((c.length : Nat) : Int) := by omega
  have hle : at_ ≤ c.length := by omega
  have ha' : at_ + 16 ≤ out.length := by omega
  have hO : ∀ i, i < 16 → at_ + i < out.length := fun i hi => by omega
  obtain ⟨b0, b1, b2, b3, b4, b5, b6, b7, b8, b9, b10, b11, b12, b13, b14, b15, hb⟩ := Go.Gfn.of16 hi
  subst hb
  have e0 : IntKind.i64.wrap (((at_ : Nat) : Int) + 0) = ((at_ + 0 : Nat) : Int) := eW at_ 0 (Nat.le_trans (Nat.add_le_add_left (show 0 ≤ 16 by decide) at_) hB)
  have e1 : IntKind.i64.wrap (((at_ : Nat) : Int) + 1) = ((at_ + 1 : Nat) : Int) := eW at_ 1 (Nat.le_trans (Nat.add_le_add_left (show 1 ≤ 16 by decide) at_) hB)
  have e2 : IntKind.i64.wrap (((at_ : Nat) : Int) + 2) = ((at_ + 2 : Nat) : Int) := eW at_ 2 (Nat.le_trans (Nat.add_le_add_left (show 2 ≤ 16 by decide) at_) hB)
  have e3 : IntKind.i64.wrap (((at_ : Nat) : Int) + 3) = ((at_ + 3 : Nat) : Int) := eW at_ 3 (Nat.le_trans (Nat.add_le_add_left (show 3 ≤ 16 by decide) at_) hB)
  have e4 : IntKind.i64.wrap (((at_ : Nat) : Int) + 4) = ((at_ + 4 : Nat) : Int) := eW at_ 4 (Nat.le_trans (Nat.add_le_add_left (show 4 ≤ 16 by decide) at_) hB)
  have e5 : IntKind.i64.wrap (((at_ : Nat) : Int) + 5) = ((at_ + 5 : Nat) : Int) := eW at_ 5 (Nat.le_trans (Nat.add_le_add_left (show 5 ≤ 16 by decide) at_) hB)
  have e6 : IntKind.i64.wrap (((at_ : Nat) : Int) + 6) = ((at_ + 6 : Nat) : Int) := eW at_ 6 (Nat.le_trans (Nat.add_le_add_left (show 6 ≤ 16 by decide) at_) hB)
  have e7 : IntKind.i64.wrap (((at_ : Nat) : Int) + 7) = ((at_ + 7 : Nat) : Int) := eW at_ 7 (Nat.le_trans (Nat.add_le_add_left (show 7 ≤ 16 by decide) at_) hB)
  have e8 : IntKind.i64.wrap (((at_ : Nat) : Int) + 8) = ((at_ + 8 : Nat) : Int) := eW at_ 8 (Nat.le_trans (Nat.add_le_add_left (show 8 ≤ 16 by decide) at_) hB)
  have e9 : IntKind.i64.wrap (((at_ : Nat) : Int) + 9) = ((at_ + 9 : Nat) : Int) := eW at_ 9 (Nat.le_trans (Nat.add_le_add_left (show 9 ≤ 16 by decide) at_) hB)
  have e10 : IntKind.i64.wrap (((at_ : Nat) : Int) + 10) = ((at_ + 10 : Nat) : Int) := eW at_ 10 (Nat.le_trans (Nat.add_le_add_left (show 10 ≤ 16 by decide) at_) hB)
  have e11 : IntKind.i64.wrap (((at_ : Nat) : Int) + 11) = ((at_ + 11 : Nat) : Int) := eW at_ 11 (Nat.le_trans (Nat.add_le_add_left (show 11 ≤ 16 by decide) at_) hB)
  have e12 : IntKind.i64.wrap (((at_ : Nat) : Int) + 12) = ((at_ + 12 : Nat) : Int) := eW at_ 12 (Nat.le_trans (Nat.add_le_add_left (show 12 ≤ 16 by decide) at_) hB)
  have e13 : IntKind.i64.wrap (((at_ : Nat) : Int) + 13) = ((at_ + 13 : Nat) : Int) := eW at_ 13 (Nat.le_trans (Nat.add_le_add_left (show 13 ≤ 16 by decide) at_) hB)
  have e14 : IntKind.i64.wrap (((at_ : Nat) : Int) + 14) = ((at_ + 14 : Nat) : Int) := eW at_ 14 (Nat.le_trans (Nat.add_le_add_left (show 14 ≤ 16 by decide) at_) hB)
  have e15 : IntKind.i64.wrap (((at_ : Nat) : Int) + 15) = ((at_ + 15 : Nat) : Int) := eW at_ 15 (Nat.le_trans (Nat.add_le_add_left (show 15 ≤ 16 by decide) at_) hB)
  have e16 : IntKind.i64.wrap (((at_ : Nat) : Int) + 16) = ((at_ + 16 : Nat) : Int) := eW at_ 16 (Nat.le_trans (Nat.add_le_add_left (show 16 ≤ 16 by decide) at_) hB)
  have hX := hsets at_ out (decW w R (blkA c at_)) b0 b1 b2 b3 b4 b5 b6 b7 b8 b9 b10 b11 b12 b13 b14 b15 ha'
  rw [roundo5, e0, e1, e2, e3, e4, e5, e6, e7, e8, e9, e10, e11, e12, e13, e14, e15, e16]
  simp only [Int.toNat_natCast, Nat.zero_add]
  rw [over16 at_ c ha]
  rw [hX]
  refine ifB_of (fun _ => dmd_of (decide_eq_true (Int.natCast_nonneg _)) (dmd_of (leB hle) (dmd_of hk ((dmd_of (inB (hO 0 (by decide))) (dmd_of (inB (hO 1 (by decide))) (dmd_of (inB (hO 2 (by decide))) (dmd_of (inB (hO 3 (by decide))) (dmd_of (inB (hO 4 (by decide))) (dmd_of (inB (hO 5 (by decide))) (dmd_of (inB (hO 6 (by decide))) (dmd_of (inB (hO 7 (by decide))) (dmd_of (inB (hO 8 (by decide))) (dmd_of (inB (hO 9 (by decide))) (dmd_of (inB (hO 10 (by decide))) (dmd_of (inB (hO 11 (by decide))) (dmd_of (inB (hO 12 (by decide))) (dmd_of (inB (hO 13 (by decide))) (dmd_of (inB (hO 14 (by decide))) (dmd_of (inB (hO 15 (by decide))) ⟨⟨trivial, ?_⟩, h⟩)))))))))))))))))))) (fun h => absurd hlt (of_decide_eq_false h))
  exact (over_len (xr_len _ _) ha').symm
theorem loopso5 : ∀ x Kr Kx, Qo5 x Kr Kx → ∃ n, untl (W A13 Try.f29.ntmps (LTab.look Lop) (bodyAt bop 5)) Io5 [] oo5 n x Kr Kx := by
  rintro ⟨⟨w, R0, ⟨⟩⟩, iv, c, out0, a0, v⟩ Kr Kx ⟨⟨hR, h1, h2, ⟨m, h3⟩, h5, h4⟩, hK⟩
  obtain ⟨R, eR⟩ : ∃ R : Int, R = R0 := ⟨R0, rfl⟩
  subst eR
  have hR : (1 : Int) ≤ R ∧ R < (15 : Int) := hR
  have hk : (decide ((1 : Int) ≤ R) && decide (R < (15 : Int))) = true := by
    rw [decide_eq_true hR.1, decide_eq_true hR.2]; rfl
  have h1 : List.length iv = 16 := h1
  have h2 : List.length c ≤ 140737488355328 := h2
  have h3 : List.length c = 16 * m := h3
  have h4 : a0 = ((16 * 0 : Nat) : Int) := h4
  have h5 : out0 = List.replicate (List.length c) 0#8 := h5
  have hK : Kx.1 (opnC w R iv c (List.length c / 16), ()) := hK
  rw [h3, Nat.mul_div_cancel_left _ (by decide)] at hK
  have hpl : ∀ i, i ≤ m → (prv iv c i).length = 16 := by
    intro i hi
    cases i with
    | zero => exact h1
    | succ i => exact blk_len (by omega)
  have key : ∀ (j i : Nat), i + j = m →
      untl (W A13 Try.f29.ntmps (LTab.look Lop) (bodyAt bop 5)) Io5 [] oo5 (j + 1) ((w, R, ()), prv iv c i, c, opnC w R iv c i ++ List.replicate (16 * j) 0#8, ((16 * i : Nat) : Int), ()) Kr Kx := by
    intro j
    induction j with
    | zero =>
      intro i hi
      have hi : i = m := by omega
      subst hi
      have e : opnC w R iv c i ++ List.replicate (16 * 0) 0#8 = opnC w R iv c i := by rw [Nat.mul_zero, List.replicate_zero, List.append_nil]
      rw [e, untl_succ]
      obtain ⟨b0, b1, b2, b3, b4, b5, b6, b7, b8, b9, b10, b11, b12, b13, b14, b15, hb⟩ := Go.Gfn.of16 (hpl i (Nat.le_refl _))
      rw [hb, roundo5]
      refine ifB_of (fun h => absurd (of_decide_eq_true h) (by rw [h3]; omega)) (fun _ => ⟨⟨rfl, rfl⟩, hK⟩)
    | succ j ih =>
      intro i hi
      have hl : (opnC w R iv c i ++ List.replicate (16 * (j + 1)) 0#8).length = 16 * m := by rw [List.length_append, opnC_len, List.length_replicate]; omega
      have hov : over (opnC w R iv c i ++ List.replicate (16 * (j + 1)) 0#8) (16 * i) (xr (decW w R (blkA c (16 * i))) (prv iv c i)) = opnC w R iv c (i + 1) ++ List.replicate (16 * j) 0#8 := by
        unfold over
        rw [xr_len, ← List.drop_drop, List.take_left' (opnC_len w R iv c i), List.drop_left' (opnC_len w R iv c i), List.drop_replicate, show 16 * (j + 1) - 16 = 16 * j by omega]
        rfl
      rw [untl_succ]
      refine roundO w R (hpl i (by omega)) (by omega) (by rw [hl, h3]) h2 hk _ _ _ ?_
      rw [hov, show 16 * i + 16 = 16 * (i + 1) by omega]
      exact ih (i + 1) (by omega)
  have := key m 0 (by omega)
  rw [h4, h5, h3]
  exact ⟨_, this⟩
theorem loopso20 : ∀ x Kr Kx, Qo20 x Kr Kx → ∃ n, untl (W A13 Try.f29.ntmps (LTab.look Lop) (bodyAt bop 20)) Io20 lo20 oo20 n x Kr Kx := by
  rintro ⟨out, x, n, m0, i0, v⟩ Kr Kx ⟨⟨h1, h2, h3⟩, hK⟩
  have h1 : List.length x ≤ 140737488355328 := h1
  have h2 : m0 = ((List.length x : Nat) : Int) := h2
  have h3 : i0 = ((0 : Nat) : Int) := h3
  have hK : ifB (allN x n) (Kx.1 (out, n, ())) (Kr ([], 4, ())) := hK
  have key : ∀ (j i : Nat), i + j = List.length x → ifB (allN (x.drop i) n) (Kx.1 (out, n, ())) (Kr ([], 4, ())) →
      untl (W A13 Try.f29.ntmps (LTab.look Lop) (bodyAt bop 20)) Io20 lo20 oo20 (j + 1) (out, x, n, ((List.length x : Nat) : Int), (i : Int), ()) Kr Kx := by
    intro j
    induction j with
    | zero =>
      intro i hi hK
      rw [untl_succ, roundo20]
      refine ifB_of (fun h => absurd (of_decide_eq_true h) (by omega)) (fun _ => ?_)
      rw [List.drop_of_length_le (by omega)] at hK
      exact hK
    | succ j ih =>
      intro i hi hK
      have hli : i < List.length x := by omega
      have e1 : IntKind.i64.wrap ((i : Int) + 1) = ((i + 1 : Nat) : Int) := by rw [IntWalk.i64_in _ (by omega)]; omega
      rw [untl_succ, roundo20, e1, Int.toNat_natCast]
      have hr : rd (Sh.int IntKind.u8) x i = x[i] := rd_at hli
      have ha : allN (x.drop i) n = (decide (((BitVec.toNat x[i] : Nat) : Int) = n) && allN (x.drop (i + 1)) n) := by
        rw [List.drop_eq_getElem_cons hli]; rfl
      rw [ha] at hK
      refine ifB_of (fun _ => dmd_of (inB hli) ?_) (fun h => absurd (of_decide_eq_false h) (by omega))
      by_cases hx : ((BitVec.toNat x[i] : Nat) : Int) = n
      · rw [decide_eq_true hx, Bool.true_and] at hK
        refine ifB_of (fun h => ?_) (fun _ => ih (i + 1) (by omega) hK)
        have h : (!decide (((BitVec.toNat (rd (Sh.int IntKind.u8) x i) : Nat) : Int) = n)) = true := h
        rw [hr, decide_eq_true hx] at h; cases h
      · rw [decide_eq_false hx, Bool.false_and] at hK
        refine ifB_of (fun _ => hK) (fun h => ?_)
        have h : (!decide (((BitVec.toNat (rd (Sh.int IntKind.u8) x i) : Nat) : Int) = n)) = false := h
        rw [hr, decide_eq_false hx] at h; cases h
  have := key (List.length x) 0 (by omega) (by rw [List.drop_zero]; exact hK)
  rw [h2, h3]
  exact ⟨_, this⟩
noncomputable def opnY (w : WW) (R : Int) (iv c : List (BitVec 8)) : List (BitVec 8) := opnC w R iv c (c.length / 16)
noncomputable def lastN (y : List (BitVec 8)) : Nat := (rd u8S y (y.length - 1)).toNat
noncomputable def okN (y : List (BitVec 8)) : Bool := decide (1 ≤ lastN y) && (decide (lastN y ≤ 16) && allN (y.drop (y.length - lastN y)) ((lastN y : Nat) : Int))
noncomputable def okC (c : List (BitVec 8)) : Bool := decide (c.length % 16 = 0) && decide (0 < c.length)
noncomputable def opnO (w : WW) (R : Int) (iv c : List (BitVec 8)) : List (BitVec 8) := bif okC c && okN (opnY w R iv c) then (opnY w R iv c).take (c.length - lastN (opnY w R iv c)) else []
noncomputable def opnE (w : WW) (R : Int) (iv c : List (BitVec 8)) : Int := bif okC c then (bif okN (opnY w R iv c) then 0 else 4) else 1
noncomputable def opnF : HA [.v keyS, .v b16S, .v (.sl u8S)] → RT := fun xs => .dem (decide (1 ≤ xs.1.2.1) && decide (xs.1.2.1 < 15)) (.dem (Nat.ble (List.length xs.2.2.1) 140737488355328) (.ret (.tup [.val (.sl u8S) (opnO xs.1.1 xs.1.2.1 xs.2.1 xs.2.2.1), .val i64S (opnE xs.1.1 xs.1.2.1 xs.2.1 xs.2.2.1)])))
theorem okC_iff {c : List (BitVec 8)} : okC c = true ↔ c.length % 16 = 0 ∧ 0 < c.length := by unfold okC; rw [Bool.and_eq_true, decide_eq_true_eq, decide_eq_true_eq]
theorem okN_iff {y : List (BitVec 8)} : okN y = true ↔ 1 ≤ lastN y ∧ lastN y ≤ 16 ∧ allN (y.drop (y.length - lastN y)) ((lastN y : Nat) : Int) = true := by unfold okN; rw [Bool.and_eq_true, Bool.and_eq_true, decide_eq_true_eq, decide_eq_true_eq]
noncomputable def endF (y : HI [.r 8 2002 u8S]) (P : SV → Prop) : Prop :=
  dmd
                (decide (0 ≤ IntKind.i64.wrap ((((List.length y.1) : Nat) : Int) - 1)) &&
                  decide (IntKind.i64.wrap ((((List.length y.1) : Nat) : Int) - 1) < (((List.length y.1) : Nat) : Int)))
                (ifB
                  (decide
                    ((((BitVec.toNat
                          (rd (Sh.int IntKind.u8) y.1 (0 + (IntKind.i64.wrap ((((List.length y.1) : Nat) : Int) - 1)).toNat))) : Nat) : Int) <
                      1))
                  (P (SV.tup [AV.cell Cel.nilS, AV.val (Sh.int IntKind.i64) 4]))
                  (ifB
                    (decide
                      (16 <
                        (((BitVec.toNat
                            (rd (Sh.int IntKind.u8) y.1 (0 + (IntKind.i64.wrap ((((List.length y.1) : Nat) : Int) - 1)).toNat))) : Nat) : Int)))
                    (P (SV.tup [AV.cell Cel.nilS, AV.val (Sh.int IntKind.i64) 4]))
                    (dmd
                      (decide
                        (0 ≤
                          IntKind.i64.wrap
                            ((((List.length y.1) : Nat) : Int) -
                              (((BitVec.toNat
                                  (rd (Sh.int IntKind.u8) y.1 (0 + (IntKind.i64.wrap ((((List.length y.1) : Nat) : Int) - 1)).toNat))) : Nat) : Int))))
                      (dmd
                        ((IntKind.i64.wrap
                                  ((((List.length y.1) : Nat) : Int) -
                                    (((BitVec.toNat
                                        (rd (Sh.int IntKind.u8) y.1
                                          (0 + (IntKind.i64.wrap ((((List.length y.1) : Nat) : Int) - 1)).toNat))) : Nat) : Int))).toNat.ble
                            (List.length y.1) &&
                          (List.length y.1).ble (List.length y.1))
                        (Qo20
                          (List.take (List.length y.1) (List.drop 0 y.1),
                            List.take
                              (List.length y.1 -
                                (IntKind.i64.wrap
                                    ((((List.length y.1) : Nat) : Int) -
                                      (((BitVec.toNat
                                          (rd (Sh.int IntKind.u8) y.1
                                            (0 + (IntKind.i64.wrap ((((List.length y.1) : Nat) : Int) - 1)).toNat))) : Nat) : Int))).toNat)
                              (List.drop
                                (0 +
                                  (IntKind.i64.wrap
                                      ((((List.length y.1) : Nat) : Int) -
                                        (((BitVec.toNat
                                            (rd (Sh.int IntKind.u8) y.1
                                              (0 + (IntKind.i64.wrap ((((List.length y.1) : Nat) : Int) - 1)).toNat))) : Nat) : Int))).toNat)
                                y.1),
                            (((BitVec.toNat
                                (rd (Sh.int IntKind.u8) y.1 (0 + (IntKind.i64.wrap ((((List.length y.1) : Nat) : Int) - 1)).toNat))) : Nat) : Int),
                            (((List.length y.1 -
                                (IntKind.i64.wrap
                                    ((((List.length y.1) : Nat) : Int) -
                                      (((BitVec.toNat
                                          (rd (Sh.int IntKind.u8) y.1
                                            (0 + (IntKind.i64.wrap ((((List.length y.1) : Nat) : Int) - 1)).toNat))) : Nat) : Int))).toNat) : Nat) : Int),
                            0, PUnit.unit)
                          (fun y => P (SV.tup [AV.val (Sh.int IntKind.u8).sl y.1, AV.val (Sh.int IntKind.i64) y.2.1]))
                          (fun y =>
                            dmd (decide (0 ≤ IntKind.i64.wrap ((((List.length y.1) : Nat) : Int) - y.2.1)))
                              (dmd (decide (0 ≤ IntKind.i64.wrap ((((List.length y.1) : Nat) : Int) - y.2.1)))
                                (dmd
                                  (Nat.ble 0 (IntKind.i64.wrap ((((List.length y.1) : Nat) : Int) - y.2.1)).toNat &&
                                    ((IntKind.i64.wrap ((((List.length y.1) : Nat) : Int) - y.2.1)).toNat.ble
                                        (IntKind.i64.wrap ((((List.length y.1) : Nat) : Int) - y.2.1)).toNat &&
                                      ((IntKind.i64.wrap ((((List.length y.1) : Nat) : Int) - y.2.1)).toNat.ble (List.length y.1) &&
                                        (Nat.blt 0 (List.length y.1) &&
                                          (IntKind.i64.wrap ((((List.length y.1) : Nat) : Int) - y.2.1)).toNat.blt
                                            (2 ^ 64)))))
                                  (P
                                    (SV.tup
                                      [AV.val (Sh.int IntKind.u8).sl
                                          (List.drop 0
                                            (List.take (IntKind.i64.wrap ((((List.length y.1) : Nat) : Int) - y.2.1)).toNat y.1)),
                                        AV.val (Sh.int IntKind.i64) 0])))),
                            PUnit.unit))))))
/-- the check at the end of Open, as the code does it -/
theorem openEnd {y : List (BitVec 8)} (h0 : 16 ≤ y.length) (h2 : y.length ≤ 140737488355328) (P : SV → Prop)
    (hno : (lastN y < 1 ∨ 16 < lastN y) → P (.tup [.cell .nilS, .val i64S 4])) (hbad : okN y = false → 1 ≤ lastN y → lastN y ≤ 16 → P (.tup [.val (.sl u8S) [], .val i64S 4])) (hok : okN y = true → P (.tup [.val (.sl u8S) (y.take (y.length - lastN y)), .val i64S 0])) :
    endF (y, ()) P := by
  unfold endF
  dsimp only
  have q1 : IntKind.i64.wrap (((List.length y : Nat) : Int) - 1) = ((List.length y - 1 : Nat) : Int) := by rw [IntWalk.i64_in _ (by omega)]; omega
  have e : rd (Sh.int IntKind.u8) y (0 + (((List.length y - 1 : Nat) : Int)).toNat) = rd u8S y (y.length - 1) := by rw [Int.toNat_natCast, Nat.zero_add]
  rw [q1, e]
  have en : (rd u8S y (y.length - 1)).toNat = lastN y := rfl
  rw [en]
  generalize hn : lastN y = n at *
  refine dmd_of (inB (by omega)) (ifB_of (fun h => hno (.inl (by have := of_decide_eq_true h; omega))) (fun h1 => ifB_of (fun h => hno (.inr (by have := of_decide_eq_true h; omega))) (fun h2' => ?_)))
  have h1 : 1 ≤ n := by have := of_decide_eq_false h1; omega
  have h2' : n ≤ 16 := by have := of_decide_eq_false h2'; omega
  have q2 : IntKind.i64.wrap (((List.length y : Nat) : Int) - ((n : Nat) : Int)) = ((List.length y - n : Nat) : Int) := by rw [IntWalk.i64_in _ (by omega)]; omega
  rw [q2, Int.toNat_natCast, Nat.zero_add]
  have ed : List.take (List.length y - (List.length y - n)) (List.drop (List.length y - n) y) = List.drop (List.length y - n) y := List.take_of_length_le (by rw [List.length_drop]; exact Nat.le_refl _)
  rw [ed, List.drop_zero, List.take_length]
  refine dmd_of (decide_eq_true (by omega)) (dmd_of (leB (by omega)) ⟨⟨?_, ?_, rfl⟩, ?_⟩)
  · show List.length (List.drop (List.length y - n) y) ≤ _
    rw [List.length_drop]; omega
  · show _ = ((List.length (List.drop (List.length y - n) y) : Nat) : Int)
    rw [List.length_drop]
  · show ifB (allN (List.drop (List.length y - n) y) ((n : Nat) : Int)) _ _
    refine ifB_of (fun h => ?_) (fun h => ?_)
    · have ok : okN y = true := okN_iff.2 (by rw [hn]; exact ⟨h1, h2', h⟩)
      show dmd (decide (0 ≤ IntKind.i64.wrap (((List.length y : Nat) : Int) - ((n : Nat) : Int)))) _
      dsimp only
      rw [q2, Int.toNat_natCast, List.drop_zero]
      refine dmd_of (decide_eq_true (by omega)) (dmd_of (decide_eq_true (by omega)) (dmd_of ?_ (hok ok)))
      rw [Nat.ble_eq_true_of_le (Nat.zero_le _), Nat.ble_eq_true_of_le (Nat.le_refl _), Nat.ble_eq_true_of_le (show List.length y - n ≤ List.length y by omega), show Nat.blt 0 (List.length y) = true from Nat.ble_eq_true_of_le (show 1 ≤ List.length y by omega), show Nat.blt (List.length y - n) (2 ^ 64) = true from Nat.ble_eq_true_of_le (show List.length y - n + 1 ≤ 2 ^ 64 by omega)]; rfl
    · have ok : okN y = false := by
        cases e : okN y with
        | false => rfl
        | true => have := (okN_iff.1 e).2.2; rw [hn, h] at this; cases this
      exact hbad ok h1 h2'
theorem opn_ok : COK Try.prog GL 29 (conA [.v keyS, .v b16S, .v (.sl u8S)] opnF) := by
  refine conA_ok (fun xs hw hc => ?_) (fun xs => rfl)
  obtain ⟨⟨w, R0, ⟨⟩⟩, iv, c, ⟨⟩⟩ := xs
  obtain ⟨hc1, hc2, _⟩ := hc
  obtain ⟨R, eR⟩ : ∃ R : Int, R = R0 := ⟨R0, rfl⟩
  subst eR
  have hc1 : (decide ((1 : Int) ≤ R) && decide (R < (15 : Int))) = true := hc1
  have hiv : List.length iv = 16 := hw.2.1.1
  have hc2 : Nat.ble (List.length c) 140737488355328 = true := hc2
  have hp : List.length c ≤ 140737488355328 := Nat.le_of_ble_eq_true hc2
  rw [Bool.and_eq_true, decide_eq_true_eq, decide_eq_true_eq] at hc1
  have inner := fun {k} (h : hasLoop (bodyAt bop k) 5 = false) (h' : hasLoop (bodyAt bop k) 20 = false) (hk : keysOnce (bodyAt bop k) = true) => loopsOK (X := mkX Try.prog GL shA a13) (N := Try.f29.ntmps) hk (LTCons (p := ptL Io5 [] oo5 Qo5) (noLoop h) (LTCons (p := ptZ [8, 77] (ptL Io20 lo20 oo20 Qo20)) (noLoop h') LTNil))
  have loops : LoopsOK (mkX Try.prog GL shA a13) Try.f29.ntmps (LTab.look Lop) bop := loopsOK (by kernel_rfl) (LTCons (loop_of shA_ok a13_ok mixed (inner (by kernel_rfl) (by kernel_rfl) (by kernel_rfl)) (by kernel_rfl) loopso5) (LTCons (fun h => ptZ_sound (loop_of shA_ok a13_ok mixed (inner (by kernel_rfl) (by kernel_rfl) (by kernel_rfl)) (by kernel_rfl) loopso20 (by kernel_rfl) h)) LTNil))
  show PC (bx Try.prog GL) 29 (argsA [.v keyS, .v b16S, .v (.sl u8S)] ((w, R, ()), iv, c, ())) (.tup [.val (.sl u8S) (opnO w R iv c), .val i64S (opnE w R iv c)])
  cases hC : okC c with
  | false =>
    have e1 : opnO w R iv c = [] := by unfold opnO; rw [hC]; rfl
    have e2 : opnE w R iv c = 1 := by unfold opnE; rw [hC]; rfl
    rw [e1, e2]
    refine PC.nil ?_ rfl
    refine PC_of_fw (t := Lop) shA_ok a13_ok mixed Try.func29 (c := bop) rfl (by kernel_rfl) (by kernel_rfl) loops rfl ?_
    refine (fwOpen (w, R, ()) iv c _).mpr ?_
    rw [tmod16]
    refine ifB_of (fun _ => rfl) (fun h1 => ifB_of (fun _ => rfl) (fun h2 => ?_))
    rw [decide_eq_false_iff_not] at h1
    rw [Bool.not_eq_false', decide_eq_true_eq] at h2
    have : okC c = true := okC_iff.2 ⟨by omega, by omega⟩
    rw [hC] at this
    cases this
  | true =>
    obtain ⟨h1, h2⟩ := okC_iff.1 hC
    have ly : (opnY w R iv c).length = c.length := by unfold opnY; rw [opnC_len]; omega
    have toEnd : ∀ P : SV → Prop, endF (opnY w R iv c, ()) P → FW A13 Try.f29.ntmps (LTab.look Lop) Try.f29 (argsA [.v keyS, .v b16S, .v (.sl u8S)] ((w, R, ()), iv, c, ())) P := by
      intro P hE
      refine (fwOpen (w, R, ()) iv c _).mpr ?_
      rw [tmod16, Int.toNat_natCast]
      refine ifB_of (fun h => ?_) (fun _ => ifB_of (fun h => ?_) (fun _ => dmd_of (makeB hp) ⟨⟨rfl, by rw [List.length_replicate]⟩, ⟨hc1, hiv, hp, ⟨List.length c / 16, show List.length c = 16 * (List.length c / 16) by omega⟩, rfl, rfl⟩, hE⟩))
      · rw [decide_eq_true_eq] at h; omega
      · rw [Bool.not_eq_true', decide_eq_false_iff_not] at h; omega
    by_cases hr : 1 ≤ lastN (opnY w R iv c) ∧ lastN (opnY w R iv c) ≤ 16
    · cases hN : okN (opnY w R iv c) with
      | false =>
        have e1 : opnO w R iv c = [] := by unfold opnO; rw [hC, hN]; rfl
        have e2 : opnE w R iv c = 4 := by unfold opnE; rw [hC, hN]; rfl
        rw [e1, e2]
        refine PC_of_fw (t := Lop) shA_ok a13_ok mixed Try.func29 (c := bop) rfl (by kernel_rfl) (by kernel_rfl) loops rfl ?_
        exact toEnd _ (openEnd (by omega) (by omega) _ (fun h => absurd h (by omega)) (fun _ _ _ => rfl) (fun h => by rw [hN] at h; cases h))
      | true =>
        have e1 : opnO w R iv c = (opnY w R iv c).take ((opnY w R iv c).length - lastN (opnY w R iv c)) := by unfold opnO; rw [hC, hN, ly]; rfl
        have e2 : opnE w R iv c = 0 := by unfold opnE; rw [hC, hN]; rfl
        rw [e1, e2]
        refine PC_of_fw (t := Lop) shA_ok a13_ok mixed Try.func29 (c := bop) rfl (by kernel_rfl) (by kernel_rfl) loops rfl ?_
        exact toEnd _ (openEnd (by omega) (by omega) _ (fun h => absurd h (by omega)) (fun h => by rw [hN] at h; cases h) (fun _ => rfl))
    · have hN : okN (opnY w R iv c) = false := by
        cases hN : okN (opnY w R iv c) with
        | false => rfl
        | true => exact absurd (okN_iff.1 hN) (fun h => hr ⟨h.1, h.2.1⟩)
      have e1 : opnO w R iv c = [] := by unfold opnO; rw [hC, hN]; rfl
      have e2 : opnE w R iv c = 4 := by unfold opnE; rw [hC, hN]; rfl
      rw [e1, e2]
      refine PC.nil ?_ rfl
      refine PC_of_fw (t := Lop) shA_ok a13_ok mixed Try.func29 (c := bop) rfl (by kernel_rfl) (by kernel_rfl) loops rfl ?_
      exact toEnd _ (openEnd (by omega) (by omega) _ (fun _ => rfl) (fun _ h h' => absurd ⟨h, h'⟩ hr) (fun h => by rw [hN] at h; cases h))
noncomputable def a15 : CTab := (29, conA [.v keyS, .v b16S, .v (.sl u8S)] opnF) :: (28, conA [.v keyS, .v b16S, .v (.sl u8S)] sealF) :: a13
theorem a15_ok : ∀ p ∈ a15, COK Try.prog GL p.1 p.2 := CCons opn_ok (CCons seal_ok a13_ok)
noncomputable abbrev A15 : Go.Ty.Cx := mkX Try.prog GL shA a15
/-! ## There and back -/
theorem sealW_len (w : WW) (R : Int) {iv : List (BitVec 8)} (h : iv.length = 16) (p : List (BitVec 8)) : (sealW w R iv p).length = 16 * (p.length / 16 + 1) := sealC_len w R h _
theorem pad_last (p : List (BitVec 8)) : lastN (padW p) = padN p.length := by
  have hl := pad_len p
  have hn : padN p.length = 16 - p.length % 16 := rfl
  unfold lastN
  rw [hl]
  have e : rd u8S (padW p) (16 * (p.length / 16 + 1) - 1) = BitVec.ofNat 8 (padN p.length) := by
    rw [rd_at (by rw [hl]; omega)]
    unfold padW
    rw [List.getElem_append_right (by omega), List.getElem_replicate]
  rw [e, BitVec.toNat_ofNat]
  omega
theorem allN_rep (n : Nat) (h : n < 256) : allN (List.replicate n (BitVec.ofNat 8 n)) ((n : Nat) : Int) = true := by
  unfold allN
  rw [List.all_eq_true]
  intro x hx
  rw [(List.mem_replicate.1 hx).2, BitVec.toNat_ofNat]
  exact decide_eq_true (by omega)
theorem okN_pad (p : List (BitVec 8)) : okN (padW p) = true := by
  have hn : padN p.length = 16 - p.length % 16 := rfl
  have hl : (padW p).length = p.length + padN p.length := by unfold padW; rw [List.length_append, List.length_replicate]
  refine okN_iff.2 ?_
  rw [pad_last]
  refine ⟨by omega, by omega, ?_⟩
  rw [show (padW p).length - padN p.length = p.length by omega]
  unfold padW
  rw [List.drop_left]
  exact allN_rep _ (by omega)
theorem opn_seal (w : WW) (R : Int) {iv : List (BitVec 8)} (h : iv.length = 16) (p : List (BitVec 8)) : opnE w R iv (sealW w R iv p) = 0 ∧ opnO w R iv (sealW w R iv p) = p := by
  have hl := sealW_len w R h p
  have hC : okC (sealW w R iv p) = true := okC_iff.2 (by rw [hl]; omega)
  have hY : opnY w R iv (sealW w R iv p) = padW p := by
    unfold opnY
    rw [hl, Nat.mul_div_cancel_left _ (by decide)]
    exact open_seal w R h (pad_len p)
  refine ⟨by unfold opnE; rw [hC, hY, okN_pad]; rfl, ?_⟩
  unfold opnO
  rw [hC, hY, okN_pad, pad_last, hl, ← pad_len]
  show (padW p).take _ = p
  unfold padW
  rw [List.length_append, List.length_replicate, Nat.add_sub_cancel, List.take_left]
theorem allN_eq {l : List (BitVec 8)} {n : Nat} (h : allN l ((n : Nat) : Int) = true) : l = List.replicate l.length (BitVec.ofNat 8 n) := by
  unfold allN at h
  rw [List.all_eq_true] at h
  refine List.eq_replicate_iff.2 ⟨rfl, fun x hx => ?_⟩
  have := of_decide_eq_true (h x hx)
  refine BitVec.eq_of_toNat_eq ?_
  rw [BitVec.toNat_ofNat]
  have := x.isLt
  omega
theorem seal_opn (w : WW) (R : Int) {iv c : List (BitVec 8)} (hE : opnE w R iv c = 0) : sealW w R iv (opnO w R iv c) = c := by
  have hC : okC c = true := by
    cases hC : okC c with
    | true => rfl
    | false => unfold opnE at hE; rw [hC] at hE; exact absurd hE (show ¬ (1 : Int) = 0 by decide)
  have hN : okN (opnY w R iv c) = true := by
    cases hN : okN (opnY w R iv c) with
    | true => rfl
    | false => unfold opnE at hE; rw [hC, hN] at hE; exact absurd hE (show ¬ (4 : Int) = 0 by decide)
  obtain ⟨c1, c2⟩ := okC_iff.1 hC
  obtain ⟨n1, n2, n3⟩ := okN_iff.1 hN
  have ly : (opnY w R iv c).length = c.length := by unfold opnY; rw [opnC_len]; omega
  have eo : opnO w R iv c = (opnY w R iv c).take ((opnY w R iv c).length - lastN (opnY w R iv c)) := by unfold opnO; rw [hC, hN, ly]; rfl
  have hd := allN_eq n3
  rw [List.length_drop, Nat.sub_sub_self (by omega)] at hd
  have lo : (opnO w R iv c).length = c.length - lastN (opnY w R iv c) := by rw [eo, List.length_take, ly]; omega
  have hp : padN (opnO w R iv c).length = lastN (opnY w R iv c) := by unfold padN; rw [lo]; omega
  have hY : padW (opnO w R iv c) = opnY w R iv c := by
    unfold padW
    rw [hp, ← hd, eo, List.take_append_drop]
  unfold sealW
  rw [hY, lo, show (c.length - lastN (opnY w R iv c)) / 16 + 1 = c.length / 16 by omega]
  exact seal_open w R (by omega)
theorem opnO_len (w : WW) (R : Int) (iv c : List (BitVec 8)) : (opnO w R iv c).length ≤ c.length - 1 ∨ opnO w R iv c = [] := by
  unfold opnO
  cases h : (okC c && okN (opnY w R iv c)) with
  | false => exact .inr rfl
  | true =>
    rw [Bool.and_eq_true] at h
    have := (okN_iff.1 h.2).1
    refine .inl ?_
    show (List.take _ _).length ≤ _
    rw [List.length_take]; omega
theorem fwMBack (key : Sh.T (.sl u8S)) (iv : Sh.T (b16S)) (p : Sh.T (.sl u8S)) (P : SV → Prop) : FW A15 Try.f12.ntmps (LTab.look []) Try.f12 (argsOf [.sl u8S, b16S, .sl u8S] (key, iv, p, ())) P =
 (  ifB (!decide (keyE key = 0)) (P (SV.av (AV.val Sh.bool true)))
    (dmd (decide (1 ≤ keyR key) && decide (keyR key < 15))
      (dmd ((List.length p).ble 140737488355300)
        (dmd (decide (1 ≤ keyR key) && decide (keyR key < 15))
          (dmd ((sealW (keyW key) (keyR key) iv p).length.ble 140737488355328)
            (ifB (decide (opnE (keyW key) (keyR key) iv (sealW (keyW key) (keyR key) iv p) = 0))
              (ifB (teq (Sh.int IntKind.u8).sl p (opnO (keyW key) (keyR key) iv (sealW (keyW key) (keyR key) iv p)))
                (ifB (decide (((((sealW (keyW key) (keyR key) iv p).length : Nat) : Int)).tmod 16 = 0))
                  (ifB (decide ((((List.length p) : Nat) : Int) < (((sealW (keyW key) (keyR key) iv p).length : Nat) : Int)))
                    (P
                      (SV.av
                        (AV.val Sh.bool
                          (decide
                            ((((sealW (keyW key) (keyR key) iv p).length : Nat) : Int) ≤ IntKind.i64.wrap ((((List.length p) : Nat) : Int) + 16))))))
                    (P (SV.av (AV.val Sh.bool false))))
                  (P (SV.av (AV.val Sh.bool false))))
                (P (SV.av (AV.val Sh.bool false))))
              (P (SV.av (AV.val Sh.bool false))))))))) := by kernel_rfl
theorem fwMOne (key : Sh.T (.sl u8S)) (iv : Sh.T (b16S)) (c : Sh.T (.sl u8S)) (P : SV → Prop) : FW A15 Try.f13.ntmps (LTab.look []) Try.f13 (argsOf [.sl u8S, b16S, .sl u8S] (key, iv, c, ())) P =
 (  ifB (!decide (keyE key = 0)) (P (SV.av (AV.val Sh.bool true)))
    (dmd (decide (1 ≤ keyR key) && decide (keyR key < 15))
      (dmd ((List.length c).ble 140737488355328)
        (ifB (!decide (opnE (keyW key) (keyR key) iv c = 0))
          (ifB (decide ((((opnO (keyW key) (keyR key) iv c).length : Nat) : Int) = 0)) (P (SV.av (AV.val Sh.bool true)))
            (ifB (decide (opnE (keyW key) (keyR key) iv c = 0))
              (dmd (decide (1 ≤ keyR key) && decide (keyR key < 15))
                (dmd ((opnO (keyW key) (keyR key) iv c).length.ble 140737488355300)
                  (P
                    (SV.av
                      (AV.val Sh.bool
                        (teq (Sh.int IntKind.u8).sl (sealW (keyW key) (keyR key) iv (opnO (keyW key) (keyR key) iv c))
                          c))))))
              (P (SV.av (AV.val Sh.bool false)))))
          (ifB (decide (opnE (keyW key) (keyR key) iv c = 0))
            (dmd (decide (1 ≤ keyR key) && decide (keyR key < 15))
              (dmd ((opnO (keyW key) (keyR key) iv c).length.ble 140737488355300)
                (P
                  (SV.av
                    (AV.val Sh.bool
                      (teq (Sh.int IntKind.u8).sl (sealW (keyW key) (keyR key) iv (opnO (keyW key) (keyR key) iv c))
                        c))))))
            (P (SV.av (AV.val Sh.bool false)))))))) := by kernel_rfl
theorem walkMBack (xs : HL [.sl u8S, b16S, .sl u8S]) (h : okHL [.sl u8S, b16S, .sl u8S] xs) : PC (bx Try.prog GL) 12 (argsOf [.sl u8S, b16S, .sl u8S] xs) (.av (.val .bool true)) := by
  obtain ⟨key, iv, p, ⟨⟩⟩ := xs
  have hb : List.length iv = 16 := h.2.1.1
  have hp : List.length p * 1 ≤ 140737488351232 := h.2.2.1.1
  refine PC_of_fw (t := []) shA_ok a15_ok mixed Try.func12 (c := Try.f12.body.getD .skip) rfl (by kernel_rfl) (by kernel_rfl) loopsNil rfl ?_
  rw [show (PUnit.unit : HL []) = () from rfl, fwMBack]
  cases hk : okL (List.length key) with
  | false => rw [keyE_no hk]; exact ifB_of (fun _ => rfl) (fun h => absurd h (by decide))
  | true =>
    obtain ⟨k1, k2, k3⟩ := keyE_ok hk
    obtain ⟨e1, e2⟩ := opn_seal (keyW key) (keyR key) hb p
    have e3 := sealW_len (keyW key) (keyR key) hb p
    rw [k1, e1, e2, e3, tmod16, IntWalk.i64_in _ (by omega)]
    refine ifB_of (fun h => absurd h (by decide)) (fun _ => dmd_of k3 (dmd_of (Nat.ble_eq_true_of_le (by omega)) (dmd_of k3 (dmd_of (Nat.ble_eq_true_of_le (by omega)) (ifB_of (fun _ => step_t (s := .sl u8S) rfl (ifB_of (fun _ => ifB_of (fun _ => pbool (decide_eq_true ?_)) (fun h => ?_)) (fun h => ?_))) (fun h => absurd h (by decide)))))))
    · omega
    · rw [decide_eq_false_iff_not] at h; omega
    · rw [decide_eq_false_iff_not] at h; omega
theorem walkMOne (xs : HL [.sl u8S, b16S, .sl u8S]) (h : okHL [.sl u8S, b16S, .sl u8S] xs) : PC (bx Try.prog GL) 13 (argsOf [.sl u8S, b16S, .sl u8S] xs) (.av (.val .bool true)) := by
  obtain ⟨key, iv, c, ⟨⟩⟩ := xs
  have hp : List.length c * 1 ≤ 140737488351232 := h.2.2.1.1
  refine PC_of_fw (t := []) shA_ok a15_ok mixed Try.func13 (c := Try.f13.body.getD .skip) rfl (by kernel_rfl) (by kernel_rfl) loopsNil rfl ?_
  rw [show (PUnit.unit : HL []) = () from rfl, fwMOne]
  cases hk : okL (List.length key) with
  | false => rw [keyE_no hk]; exact ifB_of (fun _ => rfl) (fun h => absurd h (by decide))
  | true =>
    obtain ⟨k1, k2, k3⟩ := keyE_ok hk
    rw [k1]
    refine ifB_of (fun h => absurd h (by decide)) (fun _ => dmd_of k3 (dmd_of (Nat.ble_eq_true_of_le (by omega)) ?_))
    have hlen : (opnO (keyW key) (keyR key) iv c).length ≤ 140737488355300 := by
      rcases opnO_len (keyW key) (keyR key) iv c with e | e
      · omega
      · rw [e]; exact Nat.zero_le _
    by_cases hE : opnE (keyW key) (keyR key) iv c = 0
    · have e := seal_opn (keyW key) (keyR key) hE
      rw [hE, e]
      refine ifB_of (fun h => absurd h (by decide)) (fun _ => ifB_of (fun _ => dmd_of k3 (dmd_of (Nat.ble_eq_true_of_le hlen) (pbool (teq_of (s := .sl u8S) rfl)))) (fun h => absurd h (by decide)))
    · have eo : opnO (keyW key) (keyR key) iv c = [] := by
        unfold opnE at hE
        unfold opnO
        cases hC : okC c with
        | false => rfl
        | true =>
          cases hN : okN (opnY (keyW key) (keyR key) iv c) with
          | false => rfl
          | true => rw [hC, hN] at hE; exact absurd rfl hE
      rw [eo, decide_eq_false hE]
      exact ifB_of (fun _ => ifB_of (fun _ => rfl) (fun h => absurd h (by decide))) (fun h => absurd h (by decide))
end Go.Proofs.Ytehgaljcpbaplaa
