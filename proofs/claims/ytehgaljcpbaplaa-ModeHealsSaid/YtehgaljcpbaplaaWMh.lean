import Derived.Test.YtehgaljcpbaplaaWMp
namespace Go.Proofs.Ytehgaljcpbaplaa
open Go.Ty

/-! ## What was sealed, as a list of the caller's own -/
noncomputable def sealWF : HA [.v keyS, .v b16S, .v (.sl u8S)] → WT := fun xs => .dem (decide (1 ≤ xs.1.2.1) && decide (xs.1.2.1 < 15)) (.dem (Nat.ble (List.length xs.2.2.1) 140737488355300) (.ret [] (some ⟨u8S, sealW xs.1.1 xs.1.2.1 xs.2.1 xs.2.2.1⟩)))
theorem fwSealO (k : Sh.T (keyS)) (iv : Sh.T (b16S)) (p : Sh.T (.sl u8S)) (K : List AV → OwnV → Prop) : FWO A13 Try.f28.ntmps (LTab.look Lsl) 0 Try.f28 (argsOf [keyS, b16S, .sl u8S] (k, iv, p, ())) K =
 (  dmd
    (decide (0 ≤ IntKind.i64.wrap ((((List.length p) : Nat) : Int) + IntKind.i64.wrap (16 - ((((List.length p) : Nat) : Int)).tmod 16))) &&
      (decide
          (IntKind.i64.wrap ((((List.length p) : Nat) : Int) + IntKind.i64.wrap (16 - ((((List.length p) : Nat) : Int)).tmod 16)) * 1 ≤
            140737488355328) &&
        decide
          (IntKind.i64.wrap ((((List.length p) : Nat) : Int) + IntKind.i64.wrap (16 - ((((List.length p) : Nat) : Int)).tmod 16)) <
            9223372036854775808)))
    (dmd
      ((0 + List.length p).ble
        (IntKind.i64.wrap ((((List.length p) : Nat) : Int) + IntKind.i64.wrap (16 - ((((List.length p) : Nat) : Int)).tmod 16))).toNat)
      ((0 = 0 ∧
          (IntKind.i64.wrap ((((List.length p) : Nat) : Int) + IntKind.i64.wrap (16 - ((((List.length p) : Nat) : Int)).tmod 16))).toNat =
            (over
                (List.replicate
                  (IntKind.i64.wrap ((((List.length p) : Nat) : Int) + IntKind.i64.wrap (16 - ((((List.length p) : Nat) : Int)).tmod 16))).toNat 0#8)
                0 p).length) ∧
        Qs5
          (k, iv, IntKind.i64.wrap (16 - ((((List.length p) : Nat) : Int)).tmod 16),
            (over
                (List.replicate
                  (IntKind.i64.wrap ((((List.length p) : Nat) : Int) + IntKind.i64.wrap (16 - ((((List.length p) : Nat) : Int)).tmod 16))).toNat 0#8)
                0 p,
              0 + List.length p),
            IntKind.i64.wrap (16 - ((((List.length p) : Nat) : Int)).tmod 16), 0, PUnit.unit)
          (fun _ => False)
          (fun x =>
            (0 = 0 ∧ x.2.2.1.2 = x.2.2.1.1.length) ∧
              Qs9 (x.1, x.2.1, x.2.2.1.1, 0, PUnit.unit) (fun _ => False)
                (fun x => (0 = 0 ∧ List.length x.1 = List.length x.1) ∧ K [] (some ⟨Sh.int IntKind.u8, x.1⟩), PUnit.unit),
            PUnit.unit)))) := by kernel_rfl
theorem seal_okW : COK Try.prog GL 28 (conW [.v keyS, .v b16S, .v (.sl u8S)] 0 sealWF) := by
  refine conW_ok fun xs hw hc => ?_
  obtain ⟨⟨w, R0, ⟨⟩⟩, iv, p, ⟨⟩⟩ := xs
  obtain ⟨hc1, hc2, _⟩ := hc
  obtain ⟨R, eR⟩ : ∃ R : Int, R = R0 := ⟨R0, rfl⟩
  subst eR
  have hc1 : (decide ((1 : Int) ≤ R) && decide (R < (15 : Int))) = true := hc1
  have hiv : List.length iv = 16 := hw.2.1.1
  have hc2 : Nat.ble (List.length p) 140737488355300 = true := hc2
  have hp : List.length p ≤ 140737488355300 := Nat.le_of_ble_eq_true hc2
  rw [Bool.and_eq_true, decide_eq_true_eq, decide_eq_true_eq] at hc1
  have inner := fun {k} (h : hasLoop (bodyAt bsl k) 5 = false) (h' : hasLoop (bodyAt bsl k) 9 = false) (hk : keysOnce (bodyAt bsl k) = true) => loopsOK (X := mkX Try.prog GL shA a13) (N := Try.f28.ntmps) hk (LTCons (p := ptL Is5 [] os5 Qs5) (noLoop h) (LTCons (p := ptL Is9 [] os9 Qs9) (noLoop h') LTNil))
  refine PCW_of_fw (np := 0) (l := []) (o := some ⟨u8S, sealW w R iv p⟩) (t := Lsl) shA_ok a13_ok mixed Try.func28 (c := bsl) rfl (by kernel_rfl) (by kernel_rfl) (loopsOK (by kernel_rfl) (LTCons (loop_of shA_ok a13_ok mixed (inner (by kernel_rfl) (by kernel_rfl) (by kernel_rfl)) (by kernel_rfl) loopss5) (LTCons (loop_of shA_ok a13_ok mixed (inner (by kernel_rfl) (by kernel_rfl) (by kernel_rfl)) (by kernel_rfl) loopss9) LTNil))) (fun v hv => by cases hv) ?_
  refine (fwSealO (w, R, ()) iv p _).mpr ?_
  have hn : padN (List.length p) = 16 - List.length p % 16 := rfl
  have q1 : IntKind.i64.wrap (16 - (((List.length p : Nat) : Int)).tmod 16) = ((padN (List.length p) : Nat) : Int) := by rw [tmod16, IntWalk.i64_in _ (by omega)]; omega
  have q2 : IntKind.i64.wrap (((List.length p : Nat) : Int) + ((padN (List.length p) : Nat) : Int)) = ((List.length p + padN (List.length p) : Nat) : Int) := by rw [IntWalk.i64_in _ (by omega)]; omega
  have q3 : over (List.replicate (List.length p + padN (List.length p)) 0#8) 0 p = p ++ List.replicate (padN (List.length p)) 0#8 := by
    unfold over
    rw [List.take_zero, List.nil_append, Nat.zero_add, List.drop_replicate, Nat.add_sub_cancel_left]
  have q4 : List.length (p ++ List.replicate (padN (List.length p)) (BitVec.ofNat 8 (padN (List.length p)))) = 16 * (List.length p / 16 + 1) := pad_len p
  rw [q1, q2, Int.toNat_natCast, q3, Nat.zero_add]
  refine dmd_of ?_ (dmd_of (Nat.ble_eq_true_of_le (by omega)) ⟨⟨rfl, ?_⟩, p, padN (List.length p), by omega, by omega, rfl, rfl, rfl, rfl, ⟨rfl, ?_⟩, ⟨hc1, hiv, ?_, ⟨List.length p / 16 + 1, q4⟩, rfl⟩, ?_⟩)
  · rw [decide_eq_true (show (0 : Int) ≤ ((List.length p + padN (List.length p) : Nat) : Int) by omega), decide_eq_true (show ((List.length p + padN (List.length p) : Nat) : Int) * 1 ≤ 140737488355328 by omega), decide_eq_true (show ((List.length p + padN (List.length p) : Nat) : Int) < 9223372036854775808 by omega)]; rfl
  · rw [List.length_append, List.length_replicate]
  · show List.length p + padN (List.length p) = List.length (p ++ List.replicate (padN (List.length p)) (BitVec.ofNat 8 (padN (List.length p))))
    rw [List.length_append, List.length_replicate]
  · show List.length (p ++ List.replicate (padN (List.length p)) (BitVec.ofNat 8 (padN (List.length p)))) ≤ _
    rw [List.length_append, List.length_replicate]; omega
  · refine ⟨⟨rfl, rfl⟩, rfl, ?_⟩
    show some (⟨u8S, sealC w R iv (padW p) (List.length (padW p) / 16)⟩ : (e : Sh) × List e.T) = some ⟨u8S, sealW w R iv p⟩
    rw [pad_len, Nat.mul_div_cancel_left _ (by decide)]; rfl

/-! ## What is spoiled -/
theorem rd_set8 {c : List (BitVec 8)} {i j : Nat} {b : BitVec 8} (h : j < c.length) : rd u8S (c.set i b) j = bif decide (i = j) then b else rd u8S c j := by
  rw [rd_at (s := u8S) (by rw [List.length_set]; exact h), rd_at (s := u8S) h, List.getElem_set]
  by_cases e : i = j
  · rw [if_pos e, decTr e]; rfl
  · rw [if_neg e, decFa e]; rfl
theorem blk_set {c : List (BitVec 8)} {i q : Nat} {b : BitVec 8} (h : 16 * q + 16 ≤ c.length) (hq : q ≠ i / 16) : blkA (c.set i b) (16 * q) = blkA c (16 * q) := by
  refine l16_ext (blk_len (by rw [List.length_set]; exact h)) (blk_len h) fun j hj => ?_
  rw [rd_blk _ _ hj, rd_blk _ _ hj, rd_set8 (by omega), decFa (by omega)]; rfl
theorem heal_at (w : WW) (R : Int) (iv : List (BitVec 8)) {c : List (BitVec 8)} {m i : Nat} {b : BitVec 8} (hc : c.length = 16 * m) (_ : i + 32 < 16 * m) {j : Nat} (hj : j < 16 * m) (hq : j / 16 ≠ i / 16) :
    rd u8S (opnC w R iv (c.set i b) m) j = bif decide (j = i + 16) then rd u8S (opnC w R iv c m) j ^^^ (rd u8S c i ^^^ b) else rd u8S (opnC w R iv c m) j := by
  have hr : j % 16 < 16 := Nat.mod_lt _ (by decide)
  have hm : j / 16 < m := by omega
  have ej : j = 16 * (j / 16) + j % 16 := (Nat.div_add_mod j 16).symm
  have key : ∀ d : List (BitVec 8), rd u8S (opnC w R iv d m) j = rd u8S (decW w R (blkA d (16 * (j / 16)))) (j % 16) ^^^ rd u8S (prv iv d (j / 16)) (j % 16) := fun d => by
    conv => lhs; rw [ej]
    rw [← rd_blk (16 * (j / 16)) (opnC w R iv d m) hr, blk_open w R iv d hm, rd_xr _ _ hr]
  rw [key, key, blk_set (by omega) hq]
  cases e : j / 16 with
  | zero =>
    show _ ^^^ rd u8S iv (j % 16) = _
    rw [decFa (show ¬ j = i + 16 by omega)]; rfl
  | succ k =>
    show _ ^^^ rd u8S (blkA (c.set i b) (16 * k)) (j % 16) = bif decide (j = i + 16) then (_ ^^^ rd u8S (blkA c (16 * k)) (j % 16)) ^^^ (rd u8S c i ^^^ b) else _ ^^^ rd u8S (blkA c (16 * k)) (j % 16)
    rw [rd_blk _ _ hr, rd_blk _ _ hr, rd_set8 (by omega)]
    by_cases h : j = i + 16
    · have h2 : 16 * k + j % 16 = i := by omega
      rw [decTr h, h2, decTr rfl]
      show _ ^^^ b = (_ ^^^ rd u8S c i) ^^^ (rd u8S c i ^^^ b)
      rw [BitVec.xor_assoc, ← BitVec.xor_assoc (rd u8S c i), BitVec.xor_self, BitVec.zero_xor]
    · rw [decFa h, decFa (show ¬ i = 16 * k + j % 16 by omega)]; rfl
theorem heals (w : WW) (R : Int) {iv : List (BitVec 8)} (h : iv.length = 16) (p : List (BitVec 8)) (by_ : BitVec 8) {i : Nat} (hi : i + 32 < (sealW w R iv p).length) :
    opnE w R iv ((sealW w R iv p).set i (rd u8S (sealW w R iv p) i ^^^ by_)) = 0 ∧ (opnO w R iv ((sealW w R iv p).set i (rd u8S (sealW w R iv p) i ^^^ by_))).length = p.length ∧
    ∀ j, j < p.length → j / 16 ≠ i / 16 → rd u8S (opnO w R iv ((sealW w R iv p).set i (rd u8S (sealW w R iv p) i ^^^ by_))) j = bif decide (j = i + 16) then rd u8S p j ^^^ by_ else rd u8S p j := by
  have hl := sealW_len w R h p
  have hc : (sealW w R iv p).length = 16 * (p.length / 16 + 1) := hl
  have hY : opnC w R iv (sealW w R iv p) (p.length / 16 + 1) = padW p := open_seal w R h (pad_len p)
  generalize hb : rd u8S (sealW w R iv p) i ^^^ by_ = b
  have hby : rd u8S (sealW w R iv p) i ^^^ b = by_ := by rw [← hb, ← BitVec.xor_assoc, BitVec.xor_self, BitVec.zero_xor]
  have hat := fun {j : Nat} (hj : j < 16 * (p.length / 16 + 1)) (hq : j / 16 ≠ i / 16) => heal_at w R iv (b := b) hc (by omega) hj hq
  rw [hY, hby] at hat
  generalize hC : (sealW w R iv p).set i b = c' at hat
  have hl' : c'.length = 16 * (p.length / 16 + 1) := by rw [← hC, List.length_set]; exact hc
  have hYl : (opnC w R iv c' (p.length / 16 + 1)).length = 16 * (p.length / 16 + 1) := opnC_len w R iv c' _
  have hyy : opnY w R iv c' = opnC w R iv c' (p.length / 16 + 1) := by unfold opnY; rw [hl', Nat.mul_div_cancel_left _ (by decide)]
  have hpl := pad_len p
  have hn : (padW p).length = p.length + padN p.length := by unfold padW; rw [List.length_append, List.length_replicate]
  have hn16 : 1 ≤ padN p.length ∧ padN p.length ≤ 16 := by unfold padN; omega
  have tail : (opnC w R iv c' (p.length / 16 + 1)).drop (16 * (p.length / 16)) = (padW p).drop (16 * (p.length / 16)) := by
    refine rd8_ext (by rw [List.length_drop, List.length_drop, hYl, hpl]) fun j hj => ?_
    rw [List.length_drop, hpl] at hj
    rw [rd_drop, rd_drop, hat (by omega) (by omega), decFa (by omega)]; rfl
  have hlast : lastN (opnC w R iv c' (p.length / 16 + 1)) = padN p.length := by
    have h1 : lastN (padW p) = padN p.length := pad_last p
    unfold lastN at h1 ⊢
    rw [hpl] at h1
    rw [hYl, hat (by omega) (by omega), decFa (by omega)]
    exact h1
  have hok : okN (opnC w R iv c' (p.length / 16 + 1)) = true := by
    have h1 := okN_iff.1 (okN_pad p)
    rw [pad_last] at h1
    refine okN_iff.2 ?_
    rw [hlast]
    refine ⟨h1.1, h1.2.1, ?_⟩
    have e : ∀ y : List (BitVec 8), y.length = 16 * (p.length / 16 + 1) → y.drop (y.length - padN p.length) = (y.drop (16 * (p.length / 16))).drop (16 - padN p.length) := fun y hy => by
      rw [List.drop_drop]; congr 1; omega
    rw [e _ hYl, tail, ← e _ hpl]
    exact h1.2.2
  have hC' : okC c' = true := okC_iff.2 (by rw [hl']; omega)
  refine ⟨by unfold opnE; rw [hC', hyy, hok]; rfl, ?_, fun j hj hq => ?_⟩
  · unfold opnO
    rw [hC', hyy, hok, hlast, hl']
    show (List.take _ _).length = _
    rw [List.length_take, hYl]; omega
  · unfold opnO
    rw [hC', hyy, hok, hlast, hl']
    show rd u8S (List.take _ _) j = _
    rw [rd_take _ (by omega), hat (by omega) hq]
    have hp : rd u8S (padW p) j = rd u8S p j := by unfold padW; exact rd_appL hj
    rw [hp]
noncomputable def a19 : CTab := (28, conW [.v keyS, .v b16S, .v (.sl u8S)] 0 sealWF) :: (26, conT [] fun _ => .av (.val .bool true)) :: (29, conA [.v keyS, .v b16S, .v (.sl u8S)] opnF) :: a13
noncomputable abbrev B19 : Go.Ty.Cx := mkX Try.prog GL shA a19
theorem a19_ok : ∀ p ∈ a19, COK Try.prog GL p.1 p.2 := CCons seal_okW (CCons modes_ok (CCons opn_ok a13_ok))
abbrev Ih14 : List It := [.v 2 (.sl u8S), .v 3 i64S, .v 4 u8S, .v 14 (.sl u8S), .v 64 i64S, .v 65 i64S]
abbrev oh14 : List (Nat × List It) := [(0, [])]
abbrev lh14 : List It := [.v 10 .bool]
noncomputable def Qh14 : LQ Ih14 lh14 oh14 := fun x _ Kx => ∃ (p : List (BitVec 8)) (i : Nat) (b : BitVec 8) (q : List (BitVec 8)), x = (p, (i : Int), b, q, ((p.length : Nat) : Int), (0 : Int), ()) ∧
  (p.length ≤ 140737488355328 ∧ i ≤ 140737488355328 ∧ q.length = p.length ∧ ∀ j, j < p.length → j / 16 ≠ i / 16 → rd u8S q j = bif decide (j = i + 16) then rd u8S p j ^^^ b else rd u8S p j) ∧ Kx.1 ()
noncomputable def bmh : Code := Try.f11.body.getD .skip
noncomputable abbrev Lmh : LTab := [(14, ptL Ih14 lh14 oh14 Qh14)]
theorem roundh14 (p : List (BitVec 8)) (at_ : Int) (b : BitVec 8) (q : List (BitVec 8)) (m i : Int) (Kn : HI Ih14 → Prop) (Kr : HI lh14 → Prop) (Kx : HP oh14) : roundT (W B19 Try.f11.ntmps (LTab.look Lmh) (bodyAt bmh 14)) Ih14 lh14 oh14 (p, at_, b, q, m, i, ()) Kn Kr Kx =
 (  ifB (decide (i < m))
    (dmd (decide (0 ≤ i) && decide (i < ((p.length : Nat) : Int)))
      (ifB (decide (i = IntKind.i64.wrap (at_ + 16)))
        (ifB (!decide (IntKind.i64.wrap (i.tdiv 16) = IntKind.i64.wrap (at_.tdiv 16)))
          (dmd (decide (0 ≤ i) && decide (i < ((q.length : Nat) : Int)))
            (ifB (!decide (rd (Sh.int IntKind.u8) q i.toNat = rd (Sh.int IntKind.u8) p i.toNat ^^^ b))
              (Kr (false, PUnit.unit)) (Kn (p, at_, b, q, m, IntKind.i64.wrap (i + 1), PUnit.unit))))
          (Kn (p, at_, b, q, m, IntKind.i64.wrap (i + 1), PUnit.unit)))
        (ifB (!decide (IntKind.i64.wrap (i.tdiv 16) = IntKind.i64.wrap (at_.tdiv 16)))
          (dmd (decide (0 ≤ i) && decide (i < ((q.length : Nat) : Int)))
            (ifB (!decide (rd (Sh.int IntKind.u8) q i.toNat = rd (Sh.int IntKind.u8) p i.toNat)) (Kr (false, PUnit.unit))
              (Kn (p, at_, b, q, m, IntKind.i64.wrap (i + 1), PUnit.unit))))
          (Kn (p, at_, b, q, m, IntKind.i64.wrap (i + 1), PUnit.unit)))))
    (Kx.1 PUnit.unit)) := by kernel_rfl
theorem fwHeals (key : Sh.T (.sl u8S)) (iv : Sh.T (b16S)) (p : Sh.T (.sl u8S)) (at_ : Sh.T (i64S)) (b : Sh.T (u8S)) (P : SV → Prop) : FW B19 Try.f11.ntmps (LTab.look Lmh) Try.f11 (argsOf [.sl u8S, b16S, .sl u8S, i64S, u8S] (key, iv, p, at_, b, ())) P =
 (  ifB (!decide (keyE key = 0)) (P (SV.av (AV.val Sh.bool true)))
    (dmd (decide (1 ≤ keyR key) && decide (keyR key < 15))
      (dmd ((List.length p).ble 140737488355300)
        (ifB (decide (at_ < 0)) (P (SV.av (AV.val Sh.bool true)))
          (ifB (decide (IntKind.i64.wrap ((((sealW (keyW key) (keyR key) iv p).length : Nat) : Int) - 32) ≤ at_))
            (P (SV.av (AV.val Sh.bool true)))
            (dmd (decide (0 ≤ at_) && decide (at_ < (((sealW (keyW key) (keyR key) iv p).length : Nat) : Int)))
              (dmd (decide (0 ≤ at_) && decide (at_ < (((sealW (keyW key) (keyR key) iv p).length : Nat) : Int)))
                (dmd (decide (1 ≤ keyR key) && decide (keyR key < 15))
                  (dmd
                    ((List.take (sealW (keyW key) (keyR key) iv p).length
                            (List.drop 0
                              ((sealW (keyW key) (keyR key) iv p).set (0 + Int.toNat at_)
                                (rd (Sh.int IntKind.u8) (sealW (keyW key) (keyR key) iv p) (0 + Int.toNat at_) ^^^
                                  b)))).length.ble
                      140737488355328)
                    (ifB
                      (!decide
                          (opnE (keyW key) (keyR key) iv
                              (List.take (sealW (keyW key) (keyR key) iv p).length
                                (List.drop 0
                                  ((sealW (keyW key) (keyR key) iv p).set (0 + Int.toNat at_)
                                    (rd (Sh.int IntKind.u8) (sealW (keyW key) (keyR key) iv p) (0 + Int.toNat at_) ^^^
                                      b)))) =
                            0))
                      (P (SV.av (AV.val Sh.bool false)))
                      (ifB
                        (!decide
                            ((((opnO (keyW key) (keyR key) iv
                                    (List.take (sealW (keyW key) (keyR key) iv p).length
                                      (List.drop 0
                                        ((sealW (keyW key) (keyR key) iv p).set (0 + Int.toNat at_)
                                          (rd (Sh.int IntKind.u8) (sealW (keyW key) (keyR key) iv p)
                                              (0 + Int.toNat at_) ^^^
                                            b))))).length : Nat) : Int) =
                              (((List.length p) : Nat) : Int)))
                        (P (SV.av (AV.val Sh.bool false)))
                        (Qh14
                          (p, at_, b,
                            opnO (keyW key) (keyR key) iv
                              (List.take (sealW (keyW key) (keyR key) iv p).length
                                (List.drop 0
                                  ((sealW (keyW key) (keyR key) iv p).set (0 + Int.toNat at_)
                                    (rd (Sh.int IntKind.u8) (sealW (keyW key) (keyR key) iv p) (0 + Int.toNat at_) ^^^
                                      b)))),
                            (((List.length p) : Nat) : Int), 0, PUnit.unit)
                          (fun x => P (SV.av (AV.val Sh.bool x.1)))
                          (fun _ => P (SV.av (AV.val Sh.bool true)), PUnit.unit))))))))))))) := by kernel_rfl
theorem div16 (a : Nat) (h : a < 9223372036854775808) : IntKind.i64.wrap (((a : Nat) : Int).tdiv 16) = ((a / 16 : Nat) : Int) := by
  have e : ((a : Nat) : Int).tdiv 16 = ((a / 16 : Nat) : Int) := (Int.ofNat_tdiv a 16).symm
  rw [e]; exact i64v rfl (by omega)
theorem looph14 : ∀ x Kr Kx, Qh14 x Kr Kx → ∃ n, untl (W B19 Try.f11.ntmps (LTab.look Lmh) (bodyAt bmh 14)) Ih14 lh14 oh14 n x Kr Kx := by
  rintro x Kr Kx ⟨p, i, b, q, ex, ⟨hp, hi, hq, hat⟩, hK⟩
  have key := untl_up (F := W B19 Try.f11.ntmps (LTab.look Lmh) (bodyAt bmh 14)) (l := Ih14) (lr := lh14) (lx := oh14) (Kr := Kr) (Kx := Kx) (st := fun j => (p, (i : Int), b, q, ((p.length : Nat) : Int), (j : Int), ())) p.length (fun j hj Kn hn => ?_) (fun Kn => ?_)
  · rw [ex]; exact key
  · have hat := hat j hj
    rw [roundh14, div16 j (by omega), div16 i (by omega), i64v (a := (j : Int) + 1) (n := j + 1) (by omega) (by omega), i64v (a := (i : Int) + 16) (n := i + 16) (by omega) (by omega), Int.toNat_natCast]
    refine ifB_of (fun _ => dmd_of (inB hj) (ifB_of (fun c => ?_) (fun c => ?_))) (fun c => absurd (of_decide_eq_false c) (by omega))
    · have c := of_decide_eq_true c
      refine ifB_of (fun d => dmd_of (inB (by omega)) ?_) (fun _ => hn)
      have d' : j / 16 ≠ i / 16 := fun e => by rw [decTr (show ((j / 16 : Nat) : Int) = ((i / 16 : Nat) : Int) by omega)] at d; cases d
      have h := hat d'
      rw [decTr (show j = i + 16 by omega)] at h
      exact ifB_of (fun e => by rw [decTr (show rd (Sh.int IntKind.u8) q j = rd (Sh.int IntKind.u8) p j ^^^ b from h)] at e; cases e) (fun _ => hn)
    · have c := of_decide_eq_false c
      refine ifB_of (fun d => dmd_of (inB (by omega)) ?_) (fun _ => hn)
      have d' : j / 16 ≠ i / 16 := fun e => by rw [decTr (show ((j / 16 : Nat) : Int) = ((i / 16 : Nat) : Int) by omega)] at d; cases d
      have h := hat d'
      rw [decFa (show ¬ j = i + 16 by omega)] at h
      exact ifB_of (fun e => by rw [decTr (show rd (Sh.int IntKind.u8) q j = rd (Sh.int IntKind.u8) p j from h)] at e; cases e) (fun _ => hn)
  · rw [roundh14]
    exact ifB_of (fun c => absurd (of_decide_eq_true c) (by omega)) (fun _ => hK)
theorem heals_fw (key iv p : List (BitVec 8)) (at_ : Int) (b : BitVec 8) (hiv : iv.length = 16) (hp : p.length ≤ 140737488351232) : FW B19 Try.f11.ntmps (LTab.look Lmh) Try.f11 (argsOf [.sl u8S, b16S, .sl u8S, i64S, u8S] (key, iv, p, at_, b, ())) (fun r => r = .av (.val .bool true)) := by
  rw [fwHeals]
  cases hk : okL (List.length key) with
  | false => rw [keyE_no hk]; exact ifB_of (fun _ => rfl) (fun h => absurd h (by decide))
  | true =>
    obtain ⟨k1, k2, k3⟩ := keyE_ok hk
    rw [k1]
    have hl := sealW_len (keyW key) (keyR key) hiv p
    refine ifB_of (fun h => absurd h (by decide)) (fun _ => dmd_of k3 (dmd_of (bleT (by omega)) (ifB_of (fun _ => rfl) (fun c => ifB_of (fun _ => rfl) (fun d => ?_)))))
    have c : ¬ @LT.lt Int _ at_ 0 := of_decide_eq_false c
    have d : ¬ @LE.le Int _ (IntKind.i64.wrap ((((sealW (keyW key) (keyR key) iv p).length : Nat) : Int) - 32)) at_ := of_decide_eq_false d
    rw [IntWalk.i64_in _ (by omega)] at d
    obtain ⟨i, ei⟩ : ∃ i : Nat, at_ = (i : Int) := ⟨at_.toNat, by omega⟩
    subst ei
    have hi : i + 32 < (sealW (keyW key) (keyR key) iv p).length := by omega
    have hh := heals (keyW key) (keyR key) hiv p b hi
    have hlen : ((sealW (keyW key) (keyR key) iv p).set i (rd u8S (sealW (keyW key) (keyR key) iv p) i ^^^ b)).length = (sealW (keyW key) (keyR key) iv p).length := List.length_set
    rw [Int.toNat_natCast, Nat.zero_add]
    have ht : List.take (sealW (keyW key) (keyR key) iv p).length (List.drop 0 ((sealW (keyW key) (keyR key) iv p).set i (rd (Sh.int IntKind.u8) (sealW (keyW key) (keyR key) iv p) i ^^^ b))) = (sealW (keyW key) (keyR key) iv p).set i (rd u8S (sealW (keyW key) (keyR key) iv p) i ^^^ b) := drop0_take _ _ hlen.symm
    rw [ht]
    obtain ⟨h1, h2, h3⟩ := hh
    rw [h1, hlen, h2]
    refine dmd_of (inB (by omega)) (dmd_of (inB (by omega)) (dmd_of k3 (dmd_of (bleT (by omega)) (ifB_of (fun e => absurd e (by decide)) (fun _ => ifB_of (fun e => ?_) (fun _ => ?_))))))
    · rw [decTr rfl] at e; cases e
    · exact ⟨p, i, b, _, rfl, ⟨by omega, by omega, h2, h3⟩, rfl⟩
theorem walkHeals (xs : HL [.sl u8S, b16S, .sl u8S, i64S, u8S]) (h : okHL [.sl u8S, b16S, .sl u8S, i64S, u8S] xs) : PC (bx Try.prog GL) 11 (argsOf [.sl u8S, b16S, .sl u8S, i64S, u8S] xs) (.av (.val .bool true)) := by
  obtain ⟨key, iv, p, at_, b, ⟨⟩⟩ := xs
  have h1 : List.length p * 1 ≤ 140737488351232 := h.2.2.1.1
  have h2 : List.length iv = 16 := h.2.1.1
  exact PC_of_fw (t := Lmh) shA_ok a19_ok mixed Try.func11 (c := bmh) rfl (by kernel_rfl) (by kernel_rfl) (loopsOK (by kernel_rfl) (LTCons (loop_of shA_ok a19_ok mixed (loopsOK (by kernel_rfl) (LTCons (noLoop (by kernel_rfl)) LTNil)) (by kernel_rfl) looph14) LTNil)) rfl (heals_fw key iv p at_ b h2 (by omega))
end Go.Proofs.Ytehgaljcpbaplaa
