import Derived.Test.YtlopooohfkgncaaOt
import Derived.Test.YtlopooohfkgncaaTt
namespace Go.Proofs.Ytlopooohfkgncaa
open Go.Ty
noncomputable def ofE (b : List (BitVec 8)) : Int := bif decide ((64 : Int) < ((b.length : Nat) : Int)) then 2 else 0
noncomputable def ofX (b : List (BitVec 8)) : List (BitVec 64) := bif decide ((64 : Int) < ((b.length : Nat) : Int)) then List.replicate 4 0#64 else wordsN 4 (Lb.valB b % Lb.LL)
noncomputable def O0c : CTab := (15, conT [wideS] Lb.redF) :: []
noncomputable abbrev O0 : Go.Ty.Cx := mkX Try.prog GL shA O0c
theorem O0_ok : ∀ p ∈ O0c, COK Try.prog GL p.1 p.2 := CCons Lb.red_ok CNil
abbrev Iof : List It := [.p 2 2000 numS, .p 4 2001 wideS, .v 11 (.sl u8S), .v 12 i64S, .v 13 i64S]
abbrev oof : List (Nat × List It) := [(0, [.p 2 2000 numS, .p 4 2001 wideS])]
noncomputable def Qof : LQ Iof [] oof := fun z _ Kx => ∃ (r : List (BitVec 64)) (b : List (BitVec 8)), z = (r, List.replicate 8 0#64, b, ((b.length : Nat) : Int), (0 : Int), ()) ∧ b.length ≤ 64 ∧ ∀ w, w = oL b b.length → Kx.1 (r, w, ())
noncomputable def bof : Code := Try.f13.body.getD .skip
noncomputable abbrev Lof : LTab := [(5, ptL Iof [] oof Qof)]
theorem roundof (r w : List (BitVec 64)) (b : List (BitVec 8)) (m i : Int) (Kn : HI Iof → Prop) (Kr : HI [] → Prop) (Kx : HP oof) : roundT (W O0 Try.f13.ntmps (LTab.look Lof) (bodyAt bof 5)) Iof [] oof (r, w, b, m, i, ()) Kn Kr Kx =
 (  ifB (decide (i < m))
 (dmd (decide (0 ≤ i) && decide (i < ((b.length : Nat) : Int)))
 (dmd (decide (0 ≤ IntKind.i64.wrap (i.tdiv 8)) && decide (IntKind.i64.wrap (i.tdiv 8) < 8))
 (dmd (decide (0 ≤ IntKind.i64.wrap (i.tdiv 8)) && decide (IntKind.i64.wrap (i.tdiv 8) < 8))
 (Kn
 (r,
 w.set (IntKind.i64.wrap (i.tdiv 8)).toNat
 (rd (Sh.int IntKind.u64) w (IntKind.i64.wrap (i.tdiv 8)).toNat |||
 BitVec.setWidth 64 (rd (Sh.int IntKind.u8) b i.toNat) <<<
 (BitVec.ofInt 64 (IntKind.i64.wrap (i.tmod 8 * 8))).toNat),
 b, m, IntKind.i64.wrap (i + 1), PUnit.unit)))))
 (Kx.1 (r, w, PUnit.unit))) := by kernel_rfl
theorem fwOf (b : Sh.T (.sl u8S)) (P : SV → Prop) : FW O0 Try.f13.ntmps (LTab.look Lof) Try.f13 (argsOf [.sl u8S] (b, ())) P =
 (  ifB (decide (64 < (((List.length b) : Nat) : Int)))
 (P (SV.tup [AV.val (Sh.arr 4 (Sh.int IntKind.u64)) (List.replicate 4 0#64), AV.val (Sh.int IntKind.i64) 2]))
 (Qof (List.replicate 4 0#64, List.replicate 8 0#64, b, (((List.length b) : Nat) : Int), 0, PUnit.unit) (fun _ => False)
 (fun x =>
 P
 (SV.tup
 [AV.val (Sh.arr 4 (Sh.int IntKind.u64)) (wordsN 4 (valN x.2.1 % Lb.LL)), AV.val (Sh.int IntKind.i64) 0]),
 PUnit.unit))) := by kernel_rfl
theorem loopof : ∀ z Kr Kx, Qof z Kr Kx → ∃ n, untl (W O0 Try.f13.ntmps (LTab.look Lof) (bodyAt bof 5)) Iof [] oof n z Kr Kx := by
  rintro z Kr Kx ⟨r, b, ez, hb, hK⟩
  rw [ez]
  refine untl_up (F := W O0 Try.f13.ntmps (LTab.look Lof) (bodyAt bof 5)) (l := Iof) (lr := []) (lx := oof) (Kr := Kr) (Kx := Kx) (st := fun i => (r, oL b i, b, ((b.length : Nat) : Int), (i : Int), ())) b.length (fun i hi Kn h => ?_) (fun Kn => ?_)
  · have q1 : IntKind.i64.wrap ((i : Int).tdiv 8) = ((i / 8 : Nat) : Int) := i64w rfl (by omega)
    have q2 : (BitVec.ofInt 64 (IntKind.i64.wrap ((i : Int).tmod 8 * 8))).toNat = 8 * (i % 8) := by
      rw [i64w (a := (i : Int).tmod 8 * 8) (n := 8 * (i % 8)) (by show ((i % 8 : Nat) : Int) * 8 = _; omega) (by omega), BitVec.ofInt_natCast, BitVec.toNat_ofNat, Nat.mod_eq_of_lt (by omega)]
    have ew : IntKind.i64.wrap ((i : Int) + 1) = ((i + 1 : Nat) : Int) := i64w (by omega) (by omega)
    have eo : oL b (i + 1) = (oL b i).set (i / 8) (putB (rd u64S (oL b i) (i / 8)) (rd u8S b i) (i % 8)) := rfl
    rw [eo] at h
    generalize oL b i = w at *
    refine (roundof r w b _ _ Kn Kr Kx).mpr ?_
    rw [q1, q2, ew, Int.toNat_natCast, Int.toNat_natCast]
    exact ifB_dec (fun _ => dmd_of (inB hi) (dmd_of (andT (decTr (by omega)) (decTr (by omega))) (dmd_of (andT (decTr (by omega)) (decTr (by omega))) h))) (fun c => absurd (show (i : Int) < ((b.length : Nat) : Int) by omega) c)
  · have hK := hK _ rfl
    generalize oL b b.length = w at *
    refine (roundof r w b _ _ Kn Kr Kx).mpr ?_
    exact ifB_dec (fun c => absurd c (by omega)) (fun _ => hK)
theorem of_fw (b : List (BitVec 8)) : FW O0 Try.f13.ntmps (LTab.look Lof) Try.f13 (argsOf [.sl u8S] (b, ())) (fun r => r = .tup [.val numS (ofX b), .val i64S (ofE b)]) := by
  rw [fwOf]
  refine ifB_dec (fun c => ?_) (fun c => ?_)
  · have c : (64 : Int) < ((b.length : Nat) : Int) := c
    unfold ofX ofE; rw [decTr c]; rfl
  · have c : ¬ (64 : Int) < ((b.length : Nat) : Int) := c
    refine ⟨_, b, rfl, by omega, fun w hw => ?_⟩
    have hv := oL_val b (by omega) b.length (Nat.le_refl _)
    rw [List.take_length, ← hw] at hv
    show SV.tup [.val numS (wordsN 4 (valN w % Lb.LL)), .val i64S 0] = _
    unfold ofX ofE; rw [decFa c, hv]; rfl
theorem of_ok : COK Try.prog GL 13 (conS [.v (.sl u8S)] fun xs => .ret (.tup [.val numS (ofX xs.1), .val i64S (ofE xs.1)])) :=
  conS_okT (fun xs _ _ => PC_of_fw (t := Lof) shA_ok O0_ok mixed Try.func13 (c := bof) rfl (by kernel_rfl) (by kernel_rfl)
    (loopsOK (by kernel_rfl) (LTCons (loop_of shA_ok O0_ok mixed (loopsOK (by kernel_rfl) (LTCons (noLoop (by kernel_rfl)) LTNil)) (by kernel_rfl) loopof) LTNil)) rfl (of_fw xs.1)) (fun _ => rfl)
noncomputable def O1c : CTab := (12, conT [numS] Lb.bytesF) :: (13, conS [.v (.sl u8S)] fun xs => .ret (.tup [.val numS (ofX xs.1), .val i64S (ofE xs.1)])) :: (15, conT [wideS] Lb.redF) :: (14, conT [numS] Lb.lowLF) :: (16, conT [numS, numS] Lb.wideF) :: []
noncomputable abbrev O1 : Go.Ty.Cx := mkXg Try.prog GL shA O1c
theorem O1_ok : ∀ p ∈ O1c, COK Try.prog GL p.1 p.2 := CCons Lb.bytes_ok (CCons of_ok (CCons Lb.red_ok (CCons Lb.lowL_ok (CCons Lb.wide_ok CNil))))
theorem fwScB (a : Sh.T (numS)) (b : Sh.T (numS)) (n : Sh.T (i64S)) (P : SV → Prop) : FW O1 Try.f4.ntmps (LTab.look []) Try.f4 (argsOf [numS, numS, i64S] (a, b, n, ())) P =
 (  ifB ((32 + (List.take 32 (List.drop 0 (Lb.bytesB 32 (valN b)))).length).ble 32)
 (dmd ((32 + (List.take 32 (List.drop 0 (Lb.bytesB 32 (valN b)))).length).ble 32)
 (dmd
 ((((List.take 32
 (List.drop 0
 (over (Lb.bytesB 32 (valN a)) 32 (List.take 32 (List.drop 0 (Lb.bytesB 32 (valN b))))))).length +
 (List.replicate 33 0#8).length) *
 1).ble
 140737488355328)
 (ifB (!decide (ofE (List.take 32 (List.drop 0 (Lb.bytesB 32 (valN a)))) = 0)) (P (SV.av (AV.val Sh.bool false)))
 (ifB
 (!decide
 (ofE
 (List.take (32 + (List.take 32 (List.drop 0 (Lb.bytesB 32 (valN b)))).length)
 (List.drop 0
 (over (Lb.bytesB 32 (valN a)) 32 (List.take 32 (List.drop 0 (Lb.bytesB 32 (valN b))))))) =
 0))
 (P (SV.av (AV.val Sh.bool false)))
 (ifB
 (!teq (Sh.arr 4 (Sh.int IntKind.u64)) (ofX (List.take 32 (List.drop 0 (Lb.bytesB 32 (valN a)))))
 (wordsN 4 (valN a % Lb.LL)))
 (P (SV.av (AV.val Sh.bool false)))
 (ifB
 (!teq (Sh.arr 4 (Sh.int IntKind.u64))
 (ofX
 (List.take (32 + (List.take 32 (List.drop 0 (Lb.bytesB 32 (valN b)))).length)
 (List.drop 0
 (over (Lb.bytesB 32 (valN a)) 32 (List.take 32 (List.drop 0 (Lb.bytesB 32 (valN b))))))))
 (wordsN 4
 (valN
 (wordsN 8
 (valN a +
 (2 ^ 256) * valN b)) %
 Lb.LL)))
 (P (SV.av (AV.val Sh.bool false)))
 (ifB
 (!decide
 (ofE
 (List.take
 ((List.take 32
 (List.drop 0
 (over (Lb.bytesB 32 (valN a)) 32
 (List.take 32 (List.drop 0 (Lb.bytesB 32 (valN b))))))).length +
 (List.replicate 33 0#8).length)
 (List.drop 0
 ((List.take 32
 (List.drop 0
 (over (Lb.bytesB 32 (valN a)) 32
 (List.take 32 (List.drop 0 (Lb.bytesB 32 (valN b))))))).append
 (List.replicate 33 0#8)))) =
 2))
 (P (SV.av (AV.val Sh.bool false)))
 (ifB
 (!teq (Sh.arr 4 (Sh.int IntKind.u64))
 (ofX
 (List.take
 ((List.take 32
 (List.drop 0
 (over (Lb.bytesB 32 (valN a)) 32
 (List.take 32 (List.drop 0 (Lb.bytesB 32 (valN b))))))).length +
 (List.replicate 33 0#8).length)
 (List.drop 0
 ((List.take 32
 (List.drop 0
 (over (Lb.bytesB 32 (valN a)) 32
 (List.take 32 (List.drop 0 (Lb.bytesB 32 (valN b))))))).append
 (List.replicate 33 0#8)))))
 (List.replicate 4 0#64))
 (P (SV.av (AV.val Sh.bool false)))
 (ifB (decide (n < 0)) (P (SV.av (AV.val Sh.bool true)))
 (ifB (decide (32 < n)) (P (SV.av (AV.val Sh.bool true)))
 (dmd (decide (0 ≤ n) && (decide (n * 1 ≤ 140737488355328) && decide (n < 9223372036854775808)))
 (ifB ((32 + (List.replicate (Int.toNat n) 0#8).length).ble 32)
 (dmd ((32 + (List.replicate (Int.toNat n) 0#8).length).ble 32)
 (ifB
 (decide
 (ofE
 (List.take (32 + (List.replicate (Int.toNat n) 0#8).length)
 (List.drop 0
 (over
 (over (Lb.bytesB 32 (valN a)) 32
 (List.take 32 (List.drop 0 (Lb.bytesB 32 (valN b)))))
 32 (List.replicate (Int.toNat n) 0#8)))) =
 0))
 (P
 (SV.av
 (AV.val Sh.bool
 (teq (Sh.arr 4 (Sh.int IntKind.u64))
 (ofX
 (List.take (32 + (List.replicate (Int.toNat n) 0#8).length)
 (List.drop 0
 (over
 (over (Lb.bytesB 32 (valN a)) 32
 (List.take 32 (List.drop 0 (Lb.bytesB 32 (valN b)))))
 32 (List.replicate (Int.toNat n) 0#8)))))
 (ofX (List.take 32 (List.drop 0 (Lb.bytesB 32 (valN a)))))))))
 (P (SV.av (AV.val Sh.bool false)))))
 (dmd
 ((((List.take 32
 (List.drop 0
 (over (Lb.bytesB 32 (valN a)) 32
 (List.take 32 (List.drop 0 (Lb.bytesB 32 (valN b))))))).length +
 (List.replicate (Int.toNat n) 0#8).length) *
 1).ble
 140737488355328)
 (ifB
 (decide
 (ofE
 (List.take
 ((List.take 32
 (List.drop 0
 (over (Lb.bytesB 32 (valN a)) 32
 (List.take 32 (List.drop 0 (Lb.bytesB 32 (valN b))))))).length +
 (List.replicate (Int.toNat n) 0#8).length)
 (List.drop 0
 ((List.take 32
 (List.drop 0
 (over (Lb.bytesB 32 (valN a)) 32
 (List.take 32 (List.drop 0 (Lb.bytesB 32 (valN b))))))).append
 (List.replicate (Int.toNat n) 0#8)))) =
 0))
 (P
 (SV.av
 (AV.val Sh.bool
 (teq (Sh.arr 4 (Sh.int IntKind.u64))
 (ofX
 (List.take
 ((List.take 32
 (List.drop 0
 (over (Lb.bytesB 32 (valN a)) 32
 (List.take 32 (List.drop 0 (Lb.bytesB 32 (valN b))))))).length +
 (List.replicate (Int.toNat n) 0#8).length)
 (List.drop 0
 ((List.take 32
 (List.drop 0
 (over (Lb.bytesB 32 (valN a)) 32
 (List.take 32 (List.drop 0 (Lb.bytesB 32 (valN b))))))).append
 (List.replicate (Int.toNat n) 0#8)))))
 (ofX (List.take 32 (List.drop 0 (Lb.bytesB 32 (valN a)))))))))
 (P (SV.av (AV.val Sh.bool false)))))))))))))))))
 (dmd
 ((((List.take 32 (List.drop 0 (Lb.bytesB 32 (valN a)))).length +
 (List.take 32 (List.drop 0 (Lb.bytesB 32 (valN b)))).length) *
 1).ble
 140737488355328)
 (dmd
 ((((List.take 32 (List.drop 0 (Lb.bytesB 32 (valN a)))).length + (List.replicate 33 0#8).length) * 1).ble
 140737488355328)
 (ifB (!decide (ofE (List.take 32 (List.drop 0 (Lb.bytesB 32 (valN a)))) = 0)) (P (SV.av (AV.val Sh.bool false)))
 (ifB
 (!decide
 (ofE
 (List.take
 ((List.take 32 (List.drop 0 (Lb.bytesB 32 (valN a)))).length +
 (List.take 32 (List.drop 0 (Lb.bytesB 32 (valN b)))).length)
 (List.drop 0
 ((List.take 32 (List.drop 0 (Lb.bytesB 32 (valN a)))).append
 (List.take 32 (List.drop 0 (Lb.bytesB 32 (valN b))))))) =
 0))
 (P (SV.av (AV.val Sh.bool false)))
 (ifB
 (!teq (Sh.arr 4 (Sh.int IntKind.u64)) (ofX (List.take 32 (List.drop 0 (Lb.bytesB 32 (valN a)))))
 (wordsN 4 (valN a % Lb.LL)))
 (P (SV.av (AV.val Sh.bool false)))
 (ifB
 (!teq (Sh.arr 4 (Sh.int IntKind.u64))
 (ofX
 (List.take
 ((List.take 32 (List.drop 0 (Lb.bytesB 32 (valN a)))).length +
 (List.take 32 (List.drop 0 (Lb.bytesB 32 (valN b)))).length)
 (List.drop 0
 ((List.take 32 (List.drop 0 (Lb.bytesB 32 (valN a)))).append
 (List.take 32 (List.drop 0 (Lb.bytesB 32 (valN b))))))))
 (wordsN 4
 (valN
 (wordsN 8
 (valN a +
 (2 ^ 256) * valN b)) %
 Lb.LL)))
 (P (SV.av (AV.val Sh.bool false)))
 (ifB
 (!decide
 (ofE
 (List.take
 ((List.take 32 (List.drop 0 (Lb.bytesB 32 (valN a)))).length + (List.replicate 33 0#8).length)
 (List.drop 0
 ((List.take 32 (List.drop 0 (Lb.bytesB 32 (valN a)))).append (List.replicate 33 0#8)))) =
 2))
 (P (SV.av (AV.val Sh.bool false)))
 (ifB
 (!teq (Sh.arr 4 (Sh.int IntKind.u64))
 (ofX
 (List.take
 ((List.take 32 (List.drop 0 (Lb.bytesB 32 (valN a)))).length + (List.replicate 33 0#8).length)
 (List.drop 0
 ((List.take 32 (List.drop 0 (Lb.bytesB 32 (valN a)))).append (List.replicate 33 0#8)))))
 (List.replicate 4 0#64))
 (P (SV.av (AV.val Sh.bool false)))
 (ifB (decide (n < 0)) (P (SV.av (AV.val Sh.bool true)))
 (ifB (decide (32 < n)) (P (SV.av (AV.val Sh.bool true)))
 (dmd (decide (0 ≤ n) && (decide (n * 1 ≤ 140737488355328) && decide (n < 9223372036854775808)))
 (ifB ((32 + (List.replicate (Int.toNat n) 0#8).length).ble 32)
 (dmd ((32 + (List.replicate (Int.toNat n) 0#8).length).ble 32)
 (ifB
 (decide
 (ofE
 (List.take (32 + (List.replicate (Int.toNat n) 0#8).length)
 (List.drop 0
 (over (Lb.bytesB 32 (valN a)) 32 (List.replicate (Int.toNat n) 0#8)))) =
 0))
 (P
 (SV.av
 (AV.val Sh.bool
 (teq (Sh.arr 4 (Sh.int IntKind.u64))
 (ofX
 (List.take (32 + (List.replicate (Int.toNat n) 0#8).length)
 (List.drop 0
 (over (Lb.bytesB 32 (valN a)) 32 (List.replicate (Int.toNat n) 0#8)))))
 (ofX (List.take 32 (List.drop 0 (Lb.bytesB 32 (valN a)))))))))
 (P (SV.av (AV.val Sh.bool false)))))
 (dmd
 ((((List.take 32 (List.drop 0 (Lb.bytesB 32 (valN a)))).length +
 (List.replicate (Int.toNat n) 0#8).length) *
 1).ble
 140737488355328)
 (ifB
 (decide
 (ofE
 (List.take
 ((List.take 32 (List.drop 0 (Lb.bytesB 32 (valN a)))).length +
 (List.replicate (Int.toNat n) 0#8).length)
 (List.drop 0
 ((List.take 32 (List.drop 0 (Lb.bytesB 32 (valN a)))).append
 (List.replicate (Int.toNat n) 0#8)))) =
 0))
 (P
 (SV.av
 (AV.val Sh.bool
 (teq (Sh.arr 4 (Sh.int IntKind.u64))
 (ofX
 (List.take
 ((List.take 32 (List.drop 0 (Lb.bytesB 32 (valN a)))).length +
 (List.replicate (Int.toNat n) 0#8).length)
 (List.drop 0
 ((List.take 32 (List.drop 0 (Lb.bytesB 32 (valN a)))).append
 (List.replicate (Int.toNat n) 0#8)))))
 (ofX (List.take 32 (List.drop 0 (Lb.bytesB 32 (valN a)))))))))
 (P (SV.av (AV.val Sh.bool false)))))))))))))))))) := by kernel_rfl
theorem ifB_nteq {s : Sh} {x y : s.T} {p q : Prop} (h : x = y) (hq : q) : ifB (!teq s x y) p q := by rw [teq_of h]; exact hq
theorem ofE_0 {b : List (BitVec 8)} (h : b.length ≤ 64) : ofE b = 0 := by unfold ofE; rw [decFa (by omega)]; rfl
theorem ofX_0 {b : List (BitVec 8)} (h : b.length ≤ 64) : ofX b = wordsN 4 (Lb.valB b % Lb.LL) := by unfold ofX; rw [decFa (by omega)]; rfl
theorem over_0 (s : List (BitVec 8)) : over s 32 [] = s := by unfold over; rw [List.append_nil, List.length_nil, Nat.add_zero, List.take_append_drop]
theorem scB_fw (a b : List (BitVec 64)) (n : Int) (ha : valN a < 2 ^ 256) (hb : valN b < 2 ^ 256) : FW O1 Try.f4.ntmps (LTab.look []) Try.f4 (argsOf [numS, numS, i64S] (a, b, n, ())) (fun r => r = .av (.val .bool true)) := by
  rw [fwScB]
  have hs : (Lb.bytesB 32 (valN a)).length = 32 := Lb.bytesB_len _ _
  have ht : (Lb.bytesB 32 (valN b)).length = 32 := Lb.bytesB_len _ _
  have e256 : (256 : Nat) ^ 32 = 2 ^ 256 := by decide
  have hsv : Lb.valB (Lb.bytesB 32 (valN a)) = valN a := Lb.valB_bytes 32 _ (by rw [e256]; exact ha)
  have htv : Lb.valB (Lb.bytesB 32 (valN b)) = valN b := Lb.valB_bytes 32 _ (by rw [e256]; exact hb)
  generalize Lb.bytesB 32 (valN a) = s at *
  generalize Lb.bytesB 32 (valN b) = t at *
  rw [drop0_take s 32 hs.symm, drop0_take t 32 ht.symm]
  have hX1 : ofX s = wordsN 4 (valN a % Lb.LL) := by rw [ofX_0 (by omega), hsv]
  have k8 : valN a + 2 ^ 256 * valN b < 2 ^ 256 * 2 ^ 256 := by
    have k : 2 ^ 256 * valN b + 2 ^ 256 ≤ 2 ^ 256 * 2 ^ 256 := by rw [← Nat.mul_succ]; exact Nat.mul_le_mul_left _ hb
    exact Nat.lt_of_lt_of_le (by rw [Nat.add_comm]; exact Nat.add_lt_add_left ha _) k
  have hX2 : ofX (s ++ t) = wordsN 4 (valN (wordsN 8 (valN a + 2 ^ 256 * valN b)) % Lb.LL) := by
    rw [ofX_0 (by rw [List.length_append]; omega), valB_app, hs, hsv, htv, Lb.v8 k8]
  have l33 : (s ++ List.replicate 33 0#8).length = 65 := by rw [List.length_append, hs, List.length_replicate]
  have hE3 : ofE (s ++ List.replicate 33 0#8) = 2 := by unfold ofE; rw [decTr (by omega)]; rfl
  have hX3 : ofX (s ++ List.replicate 33 0#8) = List.replicate 4 0#64 := by unfold ofX; rw [decTr (by omega)]; rfl
  have hn : ∀ m : Nat, m ≤ 32 → ofE (s ++ List.replicate m 0#8) = 0 ∧ ofX (s ++ List.replicate m 0#8) = ofX s := fun m hm => by
    have hl : (s ++ List.replicate m 0#8).length ≤ 64 := by rw [List.length_append, hs, List.length_replicate]; omega
    exact ⟨ofE_0 hl, by rw [ofX_0 hl, ofX_0 (by omega), valB_app, valB_noughts, Nat.mul_zero, Nat.add_zero]⟩
  have e2 : List.take (s.length + t.length) (List.drop 0 (s.append t)) = s ++ t := drop0_take (s ++ t) _ List.length_append.symm
  have e3 : List.take (s.length + (List.replicate 33 0#8).length) (List.drop 0 (s.append (List.replicate 33 0#8))) = s ++ List.replicate 33 0#8 := drop0_take (s ++ List.replicate 33 0#8) _ List.length_append.symm
  refine ifB_of (fun c => absurd (Nat.le_of_ble_eq_true c) (by omega)) (fun _ => ?_)
  rw [e2, e3]
  refine dmd_of (bleT (by omega)) (dmd_of (bleT (by rw [hs, List.length_replicate]; decide)) ?_)
  refine ifB_neg (fun c => absurd (ofE_0 (by omega)) c) (fun _ => ifB_neg (fun c => absurd (ofE_0 (by rw [List.length_append]; omega)) c) (fun _ => ifB_nteq hX1 (ifB_nteq hX2 ?_)))
  refine ifB_neg (fun c => absurd hE3 c) (fun _ => ifB_nteq hX3 ?_)
  refine ifB_dec (fun _ => rfl) (fun c1 => ifB_dec (fun _ => rfl) (fun c2 => ?_))
  have c1 : ¬ n < (0 : Int) := c1
  have c2 : ¬ (32 : Int) < n := c2
  obtain ⟨m, rfl⟩ := Int.eq_ofNat_of_zero_le (show 0 ≤ n by omega)
  refine dmd_of (andT (decTr (show (0 : Int) ≤ ((m : Nat) : Int) by omega)) (andT (decTr (show ((m : Nat) : Int) * 1 ≤ 140737488355328 by omega)) (decTr (show ((m : Nat) : Int) < 9223372036854775808 by omega)))) ?_
  rw [Int.toNat_natCast]
  obtain ⟨hm1, hm2⟩ := hn m (by omega)
  refine ifB_of (fun c => ?_) (fun _ => ?_)
  · have c := Nat.le_of_ble_eq_true c
    rw [List.length_replicate] at c
    have h0 : m = 0 := by omega
    subst h0
    show dmd _ (ifB (decide (ofE (List.take 32 (List.drop 0 (over s 32 []))) = 0)) (SV.av (.val .bool (teq numS (ofX (List.take 32 (List.drop 0 (over s 32 [])))) (ofX s))) = SV.av (.val .bool true)) (SV.av (.val .bool false) = SV.av (.val .bool true)))
    rw [over_0, drop0_take s 32 hs.symm]
    exact dmd_of rfl (ifB_dec (fun _ => pbool (teq_of rfl)) (fun d => absurd (ofE_0 (by omega)) d))
  · have e4 : List.take (s.length + (List.replicate m 0#8).length) (List.drop 0 (s.append (List.replicate m 0#8))) = s ++ List.replicate m 0#8 := drop0_take (s ++ List.replicate m 0#8) _ List.length_append.symm
    rw [e4]
    exact dmd_of (bleT (by rw [hs, List.length_replicate]; omega)) (ifB_dec (fun _ => pbool (teq_of hm2)) (fun d => absurd hm1 d))
theorem walkScalarBytes (xs : HL [numS, numS, i64S]) (h : okHL [numS, numS, i64S] xs) : PC (bx Try.prog GL) 4 (argsOf [numS, numS, i64S] xs) (.av (.val .bool true)) := by
  obtain ⟨a, b, n, ⟨⟩⟩ := xs
  exact PC_of_fwG shA_ok O1_ok mixed Try.func4 (c := Try.f4.body.getD .skip) rfl (by kernel_rfl) (by kernel_rfl) rfl (scB_fw a b n (Lb.lt4 ⟨h.1.1, fun _ _ => trivial⟩) (Lb.lt4 ⟨h.2.1.1, fun _ _ => trivial⟩))
end Go.Proofs.Ytlopooohfkgncaa
