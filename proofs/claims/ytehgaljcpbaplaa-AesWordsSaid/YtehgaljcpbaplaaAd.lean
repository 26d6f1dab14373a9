import Derived.Test.YtehgaljcpbaplaaAa
namespace Go.Proofs.Ytehgaljcpbaplaa
open Go.Ty

/-! ## The words of a key -/
theorem rdW_set_ne {w : WW} {i q : Nat} {v : List (BitVec 8)} (h : i ≠ q) : rd a4S (w.set i v) q = rd a4S w q := by
  unfold rd
  rw [List.getD_eq_getElem?_getD, List.getD_eq_getElem?_getD, List.getElem?_set_ne h]
theorem rdW_set {w : WW} {i : Nat} {v : List (BitVec 8)} (h : i < w.length) : rd a4S (w.set i v) i = v := by
  unfold rd
  rw [List.getD_eq_getElem?_getD, List.getElem?_set_self h]; rfl
theorem xorW_len (w : WW) (i p : Nat) (t : List (BitVec 8)) : (xorW w i p t).length = w.length := by
  unfold xorW st4
  simp only [List.length_set]
theorem xorW_ne {w : WW} {i p q : Nat} {t : List (BitVec 8)} (h : i ≠ q) : rd a4S (xorW w i p t) q = rd a4S w q := by
  unfold xorW st4
  rw [rdW_set_ne h, rdW_set_ne h, rdW_set_ne h, rdW_set_ne h]
theorem expI_len (key : List (BitVec 8)) (n : Nat) : ∀ i, (expI key n i).length = 60
  | 0 => by show zeroW.length = 60; unfold zeroW; rw [List.length_replicate]
  | i + 1 => by
    show (expStep key n i (expI key n i)).length = 60
    unfold expStep
    cases decide (i < n) with
    | true => show (cpW key _ i (4 * i)).length = 60; unfold cpW; rw [List.length_set]; exact expI_len key n i
    | false => show (xorW _ i (i - n) _).length = 60; rw [xorW_len]; exact expI_len key n i
theorem zeroW_rd {q : Nat} (h : q < 60) : rd a4S zeroW q = List.replicate 4 0#8 := by
  unfold rd zeroW
  rw [List.getD_eq_getElem?_getD, List.getElem?_replicate, if_pos h]; rfl
theorem expI_low (key : List (BitVec 8)) (n : Nat) (hn : n ≤ 60) (hk : key.length = 4 * n) : ∀ i, i ≤ n → ∀ q, q < 60 → rd a4S (expI key n i) q = bif decide (q < i) then (key.drop (4 * q)).take 4 else List.replicate 4 0#8
  | 0, _, q, hq => by
    show rd a4S zeroW q = _
    rw [zeroW_rd hq]; rfl
  | i + 1, hi, q, hq => by
    have ih := expI_low key n hn hk i (by omega)
    show rd a4S (expStep key n i (expI key n i)) q = _
    unfold expStep
    rw [decide_eq_true (show i < n by omega), cond_true]
    unfold cpW
    by_cases e : i = q
    · subst e
      rw [rdW_set (by rw [expI_len]; omega), ih i hq, decide_eq_false (Nat.lt_irrefl _), cond_false, decide_eq_true (Nat.lt_succ_self _), cond_true, List.take_length]
      have hl : ((key.drop (4 * i)).take 4).length = 4 := by rw [List.length_take, List.length_drop]; omega
      unfold over
      rw [hl]
      show [] ++ _ ++ [] = _
      rw [List.nil_append, List.append_nil]
    · rw [rdW_set_ne e, ih q hq]
      by_cases c : q < i
      · rw [decide_eq_true c, decide_eq_true (show q < i + 1 by omega)]
      · rw [decide_eq_false c, decide_eq_false (show ¬ q < i + 1 by omega)]
theorem expI_high (key : List (BitVec 8)) (n : Nat) (hn : n ≤ 60) (hk : key.length = 4 * n) : ∀ j q, q < n → rd a4S (expI key n (n + j)) q = (key.drop (4 * q)).take 4
  | 0, q, hq => by
    have := expI_low key n hn hk n (Nat.le_refl _) q (by omega)
    rw [decide_eq_true hq] at this
    exact this
  | j + 1, q, hq => by
    show rd a4S (expStep key n (n + j) (expI key n (n + j))) q = _
    unfold expStep
    rw [decide_eq_false (show ¬ n + j < n by omega), cond_false, xorW_ne (by omega)]
    exact expI_high key n hn hk j q hq
/-- the words told of -/
noncomputable def wordsK (key : List (BitVec 8)) : WW := List.take (4 * ((keyR key).toNat + 1)) (keyW key)
theorem okL_len {l : Nat} (h : okL l = true) : l = 4 * (l / 4) ∧ (l / 4 = 4 ∨ l / 4 = 6 ∨ l / 4 = 8) := by
  unfold okL at h
  rw [Bool.or_eq_true, Bool.or_eq_true, decide_eq_true_eq, decide_eq_true_eq, decide_eq_true_eq] at h
  omega
theorem keyR_eq {key : List (BitVec 8)} (h : okL key.length = true) : keyR key = ((key.length / 4 + 6 : Nat) : Int) := (keyE_ok h).2.1
theorem wordsK_len {key : List (BitVec 8)} (h : okL key.length = true) : (wordsK key).length = key.length + 28 := by
  obtain ⟨h1, h2⟩ := okL_len h
  have e : keyW key = expW key := by unfold keyW; rw [h]; rfl
  unfold wordsK
  rw [keyR_eq h, Int.toNat_natCast, e, expW_def, List.length_take, expI_len]
  omega
theorem wordsK_rd {key : List (BitVec 8)} (h : okL key.length = true) {j : Nat} (hj : j < key.length) : rd u8S (rd a4S (wordsK key) (j / 4)) (j % 4) = rd u8S key j := by
  obtain ⟨h1, h2⟩ := okL_len h
  have e : keyW key = expW key := by unfold keyW; rw [h]; rfl
  have e2 : rd a4S (wordsK key) (j / 4) = (key.drop (4 * (j / 4))).take 4 := by
    have := expI_high key (key.length / 4) (by omega) h1 (3 * (key.length / 4) + 28) (j / 4) (by omega)
    rw [← this]
    unfold wordsK
    rw [keyR_eq h, Int.toNat_natCast, e, expW_def, show key.length / 4 + (3 * (key.length / 4) + 28) = 4 * (key.length / 4 + 7) by omega]
    unfold rd
    rw [List.getD_eq_getElem?_getD, List.getD_eq_getElem?_getD, List.getElem?_take_of_lt (by omega)]
  rw [e2]
  unfold rd
  rw [List.getD_eq_getElem?_getD, List.getD_eq_getElem?_getD, List.getElem?_take_of_lt (Nat.mod_lt _ (by decide)), List.getElem?_drop, show 4 * (j / 4) + j % 4 = j from Nat.div_add_mod j 4]
theorem wordsK_inj {a b : List (BitVec 8)} (ha : okL a.length = true) (hb : okL b.length = true) (h : wordsK a = wordsK b) : a = b := by
  have hl : a.length = b.length := by
    have := congrArg List.length h
    rw [wordsK_len ha, wordsK_len hb] at this
    omega
  exact rd8_ext hl fun i hi => by rw [← wordsK_rd ha (by omega), h, wordsK_rd hb hi]
/-! ## Words, slices.Equal -/
noncomputable def wordF : HA [.v keyS] → RT := fun xs => .dem (decide (1 ≤ xs.1.2.1) && decide (xs.1.2.1 < 15)) (.ret (.av (.val (.sl a4S) (List.take (4 * (xs.1.2.1.toNat + 1)) xs.1.1))))
noncomputable abbrev Ie20 : List It := [.v 0 (.sl a4S), .v 1 (.sl a4S), .v 12 i64S, .v 13 i64S]
noncomputable abbrev oe20 : List (Nat × List It) := [(0, [])]
noncomputable abbrev le20 : List It := [.v 4 .bool]
noncomputable def be20 : Code := Try.f20.body.getD .skip
noncomputable def Qe20 : LQ Ie20 le20 oe20 := fun x Kr Kx => (List.length x.1 ≤ 1000 ∧ List.length x.1 = List.length x.2.1 ∧ x.2.2.1 = ((List.length x.1 : Nat) : Int) ∧ x.2.2.2.1 = 0) ∧ ifB (teq (.sl a4S) x.1 x.2.1) (Kx.1 ()) (Kr (false, ()))
noncomputable abbrev Le20 : LTab := [(4, ptL Ie20 le20 oe20 Qe20)]
noncomputable def eqWF : HA [.v (.sl a4S), .v (.sl a4S)] → RT := fun xs => .dem (Nat.ble (List.length xs.1) 1000) (.ret (.av (.val .bool (teq (.sl a4S) xs.1 xs.2.1))))
noncomputable def a17 : CTab := (20, conA [.v (.sl a4S), .v (.sl a4S)] eqWF) :: (19, conA [.v keyS] wordF) :: a13
noncomputable abbrev A17 : Go.Ty.Cx := mkX Try.prog noGl shA a17
noncomputable abbrev Iaw : List It := [.v 0 (.sl u8S), .v 1 (.sl u8S), .v 9 (.sl a4S), .v 10 (.sl a4S), .v 39 (.sl u8S), .v 40 i64S, .v 41 i64S]
noncomputable abbrev oaw : List (Nat × List It) := [(0, [.v 0 (.sl u8S), .v 1 (.sl u8S), .v 9 (.sl a4S), .v 10 (.sl a4S)])]
noncomputable abbrev law : List It := [.v 4 .bool]
noncomputable def baw : Code := Try.f4.body.getD .skip
noncomputable def Qaw : LQ Iaw law oaw := fun x _ Kx => (okL (List.length x.1) = true ∧ x.2.2.1 = wordsK x.1 ∧ x.2.2.2.2.1 = x.1 ∧ x.2.2.2.2.2.1 = ((List.length x.1 : Nat) : Int) ∧ x.2.2.2.2.2.2.1 = 0) ∧ Kx.1 (x.1, x.2.1, x.2.2.1, x.2.2.2.1, ())
noncomputable abbrev Law : LTab := [(9, ptL Iaw law oaw Qaw)]
theorem fwWords (k : Sh.T (keyS)) (P : SV → Prop) : FW A13 Try.f19.ntmps (LTab.look []) Try.f19 (argsOf [keyS] (k, ())) P =
 (  dmd (decide (0 ≤ IntKind.i64.wrap (4 * IntKind.i64.wrap (k.2.1 + 1))))
    (dmd
      (Nat.ble 0 (IntKind.i64.wrap (4 * IntKind.i64.wrap (k.2.1 + 1))).toNat &&
        (IntKind.i64.wrap (4 * IntKind.i64.wrap (k.2.1 + 1))).toNat.ble 60)
      (dmd
        (((List.take ((IntKind.i64.wrap (4 * IntKind.i64.wrap (k.2.1 + 1))).toNat - 0) (List.drop 0 k.1)).length * 4).ble
            140737488355328 &&
          !(List.take ((IntKind.i64.wrap (4 * IntKind.i64.wrap (k.2.1 + 1))).toNat - 0) (List.drop 0 k.1)).length.beq 0)
        (P
          (SV.av
            (AV.val (Sh.arr 4 (Sh.int IntKind.u8)).sl
              (List.take
                (List.take ((IntKind.i64.wrap (4 * IntKind.i64.wrap (k.2.1 + 1))).toNat - 0) (List.drop 0 k.1)).length
                (List.drop 0
                  (List.take ((IntKind.i64.wrap (4 * IntKind.i64.wrap (k.2.1 + 1))).toNat - 0) (List.drop 0 k.1)))))))))) := by kernel_rfl
theorem rounde20 (x y : List (List (BitVec 8))) (m i : Int) (Kn : HI Ie20 → Prop) (Kr : HI le20 → Prop) (Kx : HP oe20) : roundT (W A13 Try.f20.ntmps (LTab.look Le20) (bodyAt be20 4)) Ie20 le20 oe20 (x, y, m, i, ()) Kn Kr Kx =
 (  ifB (decide (i < m))
    (dmd (decide (0 ≤ i) && decide (i < ((x.length : Nat) : Int)))
      (dmd (decide (0 ≤ i) && decide (i < ((y.length : Nat) : Int)))
        (ifB
          (!teq (Sh.arr 4 (Sh.int IntKind.u8)) (rd (Sh.arr 4 (Sh.int IntKind.u8)) x i.toNat)
              (rd (Sh.arr 4 (Sh.int IntKind.u8)) y i.toNat))
          (Kr (false, PUnit.unit)) (Kn (x, y, m, IntKind.i64.wrap (i + 1), PUnit.unit)))))
    (Kx.1 PUnit.unit)) := by kernel_rfl
theorem fwEqW (x : Sh.T (.sl a4S)) (y : Sh.T (.sl a4S)) (P : SV → Prop) : FW A13 Try.f20.ntmps (LTab.look Le20) Try.f20 (argsOf [.sl a4S, .sl a4S] (x, y, ())) P =
 (  ifB (!decide ((((List.length x) : Nat) : Int) = (((List.length y) : Nat) : Int))) (P (SV.av (AV.val Sh.bool false)))
    (Qe20 (x, y, (((List.length x) : Nat) : Int), 0, PUnit.unit) (fun y => P (SV.av (AV.val Sh.bool y.1)))
      (fun _ => P (SV.av (AV.val Sh.bool true)), PUnit.unit))) := by kernel_rfl
theorem roundaw (a b : List (BitVec 8)) (u v : List (List (BitVec 8))) (c : List (BitVec 8)) (m i : Int) (Kn : HI Iaw → Prop) (Kr : HI law → Prop) (Kx : HP oaw) : roundT (W A17 Try.f4.ntmps (LTab.look Law) (bodyAt baw 9)) Iaw law oaw (a, b, u, v, c, m, i, ()) Kn Kr Kx =
 (  ifB (decide (i < m))
    (dmd (decide (0 ≤ i) && decide (i < ((c.length : Nat) : Int)))
      (dmd (decide (0 ≤ IntKind.i64.wrap (i.tdiv 4)) && decide (IntKind.i64.wrap (i.tdiv 4) < ((u.length : Nat) : Int)))
        (dmd (decide (0 ≤ i.tmod 4) && decide (i.tmod 4 < 4))
          (ifB
            (!decide
                (rd (Sh.int IntKind.u8) (rd (Sh.arr 4 (Sh.int IntKind.u8)) u (IntKind.i64.wrap (i.tdiv 4)).toNat)
                    (i.tmod 4).toNat =
                  rd (Sh.int IntKind.u8) c i.toNat))
            (Kr (false, PUnit.unit)) (Kn (a, b, u, v, c, m, IntKind.i64.wrap (i + 1), PUnit.unit))))))
    (Kx.1 (a, b, u, v, PUnit.unit))) := by kernel_rfl
theorem fwAesWords (a : Sh.T (.sl u8S)) (b : Sh.T (.sl u8S)) (P : SV → Prop) : FW A17 Try.f4.ntmps (LTab.look Law) Try.f4 (argsOf [.sl u8S, .sl u8S] (a, b, ())) P =
 (  ifB (!decide (keyE a = 0)) (P (SV.av (AV.val Sh.bool true)))
    (ifB (!decide (keyE b = 0)) (P (SV.av (AV.val Sh.bool true)))
      (dmd (decide (1 ≤ keyR a) && decide (keyR a < 15))
        (dmd (decide (1 ≤ keyR b) && decide (keyR b < 15))
          (ifB
            (!decide ((((List.take (4 * ((keyR a).toNat + 1)) (keyW a)).length : Nat) : Int) = IntKind.i64.wrap ((((List.length a) : Nat) : Int) + 28)))
            (P (SV.av (AV.val Sh.bool false)))
            (Qaw
              (a, b, List.take (4 * ((keyR a).toNat + 1)) (keyW a), List.take (4 * ((keyR b).toNat + 1)) (keyW b), a,
                (((List.length a) : Nat) : Int), 0, PUnit.unit)
              (fun y => P (SV.av (AV.val Sh.bool y.1)))
              (fun y =>
                dmd ((List.length y.2.2.1).ble 1000)
                  (P
                    (SV.av
                      (AV.val Sh.bool
                        (teq Sh.bool (teq (Sh.arr 4 (Sh.int IntKind.u8)).sl y.2.2.1 y.2.2.2.1)
                          (teq (Sh.int IntKind.u8).sl y.1 y.2.1))))),
                PUnit.unit))))))) := by kernel_rfl
theorem word_ok : COK Try.prog noGl 19 (conA [.v keyS] wordF) := by
  refine conA_ok (fun xs hw hc => ?_) (fun xs => rfl)
  obtain ⟨⟨w, R0, ⟨⟩⟩, ⟨⟩⟩ := xs
  obtain ⟨hc1, _⟩ := hc
  obtain ⟨R, eR⟩ : ∃ R : Int, R = R0 := ⟨R0, rfl⟩
  subst eR
  have hc1 : (decide ((1 : Int) ≤ R) && decide (R < (15 : Int))) = true := hc1
  rw [Bool.and_eq_true, decide_eq_true_eq, decide_eq_true_eq] at hc1
  have hl : List.length w = 60 := hw.1.1.1
  refine PC_of_fw (t := []) shA_ok a13_ok mixed Try.func19 (c := Try.f19.body.getD .skip) rfl (by kernel_rfl) (by kernel_rfl) loopsNil rfl ?_
  refine (fwWords (w, R, ()) _).mpr ?_
  have q1 : IntKind.i64.wrap (4 * IntKind.i64.wrap (R + 1)) = ((4 * (R.toNat + 1) : Nat) : Int) := by rw [IntWalk.i64_in (R + 1) (by omega), IntWalk.i64_in _ (by omega)]; omega
  show dmd (decide (0 ≤ IntKind.i64.wrap (4 * IntKind.i64.wrap (R + 1)))) _
  dsimp only
  rw [q1, Int.toNat_natCast, Nat.sub_zero, List.drop_zero]
  have hlt : List.length (List.take (4 * (R.toNat + 1)) w) = 4 * (R.toNat + 1) := by rw [List.length_take, hl]; omega
  rw [List.drop_zero, List.take_length]
  refine dmd_of (decide_eq_true (by omega)) (dmd_of ?_ (dmd_of ?_ rfl))
  · rw [Nat.ble_eq_true_of_le (Nat.zero_le _), Nat.ble_eq_true_of_le (by omega)]; rfl
  · rw [hlt, Nat.ble_eq_true_of_le (by omega), beq0 (by omega)]; rfl
theorem loope20 : ∀ x Kr Kx, Qe20 x Kr Kx → ∃ n, untl (W A13 Try.f20.ntmps (LTab.look Le20) (bodyAt be20 4)) Ie20 le20 oe20 n x Kr Kx := by
  rintro ⟨x, y, m0, i0, v⟩ Kr Kx ⟨⟨h0, h1, h2, h3⟩, hK⟩
  have h0 : List.length x ≤ 1000 := h0
  have h1 : List.length x = List.length y := h1
  have h2 : m0 = ((List.length x : Nat) : Int) := h2
  have h3 : i0 = ((0 : Nat) : Int) := h3
  have hK : ifB (teq (.sl a4S) x y) (Kx.1 ()) (Kr (false, ())) := hK
  have key : ∀ (j i : Nat), i + j = List.length x → (∀ q, q < i → rd a4S x q = rd a4S y q) →
      untl (W A13 Try.f20.ntmps (LTab.look Le20) (bodyAt be20 4)) Ie20 le20 oe20 (j + 1) (x, y, ((List.length x : Nat) : Int), (i : Int), ()) Kr Kx := by
    intro j
    induction j with
    | zero =>
      intro i hi hq
      rw [untl_succ, rounde20]
      refine ifB_of (fun h => absurd (of_decide_eq_true h) (by omega)) (fun _ => ?_)
      have e : x = y := (rd_inj (s := a4S) h1 rfl).1 fun q hq' => hq q (by omega)
      rw [show teq (.sl a4S) x y = true from teq_of e] at hK
      exact hK
    | succ j ih =>
      intro i hi hq
      have e1 : IntKind.i64.wrap ((i : Int) + 1) = ((i + 1 : Nat) : Int) := by rw [IntWalk.i64_in _ (by omega)]; omega
      rw [untl_succ, rounde20, e1, Int.toNat_natCast]
      refine ifB_of (fun _ => dmd_of (inB (by omega)) (dmd_of (inB (by omega)) (ifB_of (fun h => ?_) (fun h => ?_)))) (fun h => absurd (of_decide_eq_false h) (by omega))
      · have e : teq (.sl a4S) x y = false := Bool.eq_false_iff.2 fun c => by
          have c : x = y := teq_iff.1 c
          rw [c, show teq (Sh.arr 4 (Sh.int IntKind.u8)) (rd (Sh.arr 4 (Sh.int IntKind.u8)) y i) (rd (Sh.arr 4 (Sh.int IntKind.u8)) y i) = true from teq_of rfl] at h
          cases h
        rw [e] at hK
        exact hK
      · rw [Bool.not_eq_false'] at h
        have h : rd a4S x i = rd a4S y i := teq_iff.1 h
        refine ih (i + 1) (by omega) fun q hq' => ?_
        by_cases e : q = i
        · rw [e]; exact h
        · exact hq q (by omega)
  have := key (List.length x) 0 (by omega) fun q hq => absurd hq (Nat.not_lt_zero _)
  rw [h2, h3]
  exact ⟨_, this⟩
theorem eqW_ok : COK Try.prog noGl 20 (conA [.v (.sl a4S), .v (.sl a4S)] eqWF) := by
  refine conA_ok (fun xs hw hc => ?_) (fun xs => rfl)
  obtain ⟨x, y, ⟨⟩⟩ := xs
  obtain ⟨hc1, _⟩ := hc
  have hc1 : Nat.ble (List.length x) 1000 = true := hc1
  have hc1 := Nat.le_of_ble_eq_true hc1
  refine PC_of_fw (t := Le20) shA_ok a13_ok mixed Try.func20 (c := be20) rfl (by kernel_rfl) (by kernel_rfl) (loopsOK (by kernel_rfl) (LTCons (loop_of shA_ok a13_ok mixed (loopsOK (by kernel_rfl) (LTCons (noLoop (by kernel_rfl)) LTNil)) (by kernel_rfl) loope20) LTNil)) rfl ?_
  refine (fwEqW x y _).mpr ?_
  show ifB _ (SV.av (AV.val Sh.bool false) = SV.av (AV.val Sh.bool (teq (.sl a4S) x y))) _
  refine ifB_of (fun h => ?_) (fun h => ⟨⟨hc1, ?_, rfl, rfl⟩, ?_⟩)
  · rw [Bool.not_eq_true', decide_eq_false_iff_not] at h
    have e : teq (.sl a4S) x y = false := Bool.eq_false_iff.2 fun c => h (by
      have c : x = y := teq_iff.1 c
      rw [c])
    rw [e]
  · rw [Bool.not_eq_false', decide_eq_true_eq] at h
    show List.length x = List.length y
    omega
  · show ifB (teq (.sl a4S) x y) (SV.av (AV.val Sh.bool true) = SV.av (AV.val Sh.bool (teq (.sl a4S) x y))) (SV.av (AV.val Sh.bool false) = SV.av (AV.val Sh.bool (teq (.sl a4S) x y)))
    exact ifB_of (fun h => by rw [h]) (fun h => by rw [h])
theorem a17_ok : ∀ p ∈ a17, COK Try.prog noGl p.1 p.2 := CCons eqW_ok (CCons word_ok a13_ok)
theorem loopaw : ∀ x Kr Kx, Qaw x Kr Kx → ∃ n, untl (W A17 Try.f4.ntmps (LTab.look Law) (bodyAt baw 9)) Iaw law oaw n x Kr Kx := by
  rintro ⟨a, b, u, v, c, m0, i0, v'⟩ Kr Kx ⟨⟨h0, h1, h2, h3, h4⟩, hK⟩
  have h0 : okL (List.length a) = true := h0
  have h1 : u = wordsK a := h1
  have h2 : c = a := h2
  have g3 : m0 = ((List.length a : Nat) : Int) := h3
  have g4 : i0 = ((0 : Nat) : Int) := h4
  have hK : Kx.1 (a, b, u, v, ()) := hK
  subst h2
  obtain ⟨l1, l2⟩ := okL_len h0
  have hl := wordsK_len h0
  have key : ∀ (j i : Nat), i + j = List.length c →
      untl (W A17 Try.f4.ntmps (LTab.look Law) (bodyAt baw 9)) Iaw law oaw (j + 1) (c, b, u, v, c, ((List.length c : Nat) : Int), (i : Int), ()) Kr Kx := by
    intro j
    induction j with
    | zero =>
      intro i hi
      rw [untl_succ, roundaw]
      exact ifB_of (fun h => absurd (of_decide_eq_true h) (by omega)) (fun _ => hK)
    | succ j ih =>
      intro i hi
      have e1 : IntKind.i64.wrap ((i : Int) + 1) = ((i + 1 : Nat) : Int) := by rw [IntWalk.i64_in _ (by omega)]; omega
      have e2 : IntKind.i64.wrap ((i : Int).tdiv 4) = ((i / 4 : Nat) : Int) := by rw [show (i : Int).tdiv 4 = ((i / 4 : Nat) : Int) from (Int.ofNat_tdiv i 4).symm, IntWalk.i64_in _ (by omega)]
      have e3 : (i : Int).tmod 4 = ((i % 4 : Nat) : Int) := (Int.ofNat_tmod i 4).symm
      rw [untl_succ, roundaw, e1, e2, e3, Int.toNat_natCast, Int.toNat_natCast, Int.toNat_natCast]
      refine ifB_of (fun _ => dmd_of (inB (by omega)) (dmd_of (inB (by rw [h1, hl]; omega)) (dmd_of (inB (Nat.mod_lt _ (by decide))) (ifB_of (fun h => ?_) (fun _ => ih (i + 1) (by omega)))))) (fun h => absurd (of_decide_eq_false h) (by omega))
      rw [h1, show rd (Sh.int IntKind.u8) (rd (Sh.arr 4 (Sh.int IntKind.u8)) (wordsK c) (i / 4)) (i % 4) = rd (Sh.int IntKind.u8) c i from wordsK_rd h0 (by omega), decide_eq_true rfl] at h
      cases h
  have := key (List.length c) 0 (by omega)
  rw [g3, g4]
  exact ⟨_, this⟩
theorem walkWords (xs : HL [.sl u8S, .sl u8S]) (h : okHL [.sl u8S, .sl u8S] xs) : PC (bx Try.prog noGl) 4 (argsOf [.sl u8S, .sl u8S] xs) (.av (.val .bool true)) := by
  obtain ⟨a, b, ⟨⟩⟩ := xs
  refine PC_of_fw (t := Law) shA_ok a17_ok mixed Try.func4 (c := baw) rfl (by kernel_rfl) (by kernel_rfl) (loopsOK (by kernel_rfl) (LTCons (loop_of shA_ok a17_ok mixed (loopsOK (by kernel_rfl) (LTCons (noLoop (by kernel_rfl)) LTNil)) (by kernel_rfl) loopaw) LTNil)) rfl ?_
  rw [show (PUnit.unit : HL []) = () from rfl, fwAesWords]
  cases ha : okL (List.length a) with
  | false => rw [keyE_no ha]; exact ifB_of (fun _ => rfl) (fun h => absurd h (by decide))
  | true =>
    obtain ⟨a1, a2, a3⟩ := keyE_ok ha
    rw [a1]
    refine ifB_of (fun h => absurd h (by decide)) (fun _ => ?_)
    cases hb : okL (List.length b) with
    | false => rw [keyE_no hb]; exact ifB_of (fun _ => rfl) (fun h => absurd h (by decide))
    | true =>
      obtain ⟨b1, b2, b3⟩ := keyE_ok hb
      obtain ⟨l1, l2⟩ := okL_len ha
      obtain ⟨m1, m2⟩ := okL_len hb
      have la : List.length (List.take (4 * ((keyR a).toNat + 1)) (keyW a)) = List.length a + 28 := wordsK_len ha
      rw [b1, la, IntWalk.i64_in _ (by omega)]
      refine ifB_of (fun h => absurd h (by decide)) (fun _ => dmd_of a3 (dmd_of b3 (ifB_of (fun h => ?_) (fun _ => ⟨⟨ha, rfl, rfl, rfl, rfl⟩, ?_⟩))))
      · rw [decide_eq_true (show ((List.length a + 28 : Nat) : Int) = ((List.length a : Nat) : Int) + 28 by omega)] at h; cases h
      · show dmd (Nat.ble (List.length (wordsK a)) 1000) _
        refine dmd_of (Nat.ble_eq_true_of_le (by rw [wordsK_len ha]; omega)) (pbool (teq_of (s := .bool) ?_))
        show teq (.sl a4S) (wordsK a) (wordsK b) = teq (.sl u8S) a b
        by_cases e : (a : List (BitVec 8)) = b
        · have e1 : teq (.sl u8S) a b = true := teq_of e
          have e2 : teq (.sl a4S) (wordsK a) (wordsK b) = true := teq_of (by rw [e])
          exact e2.trans e1.symm
        · have e1 : teq (.sl u8S) a b = false := Bool.eq_false_iff.2 fun c => e (teq_iff.1 c)
          have e2 : teq (.sl a4S) (wordsK a) (wordsK b) = false := Bool.eq_false_iff.2 fun c => e (wordsK_inj ha hb (teq_iff.1 c))
          exact e2.trans e1.symm
end Go.Proofs.Ytehgaljcpbaplaa
