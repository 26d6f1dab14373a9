import Derived.Test.YtghmfiandllpfaaDoorBe
namespace Go.Proofs.YtghmfiandllpfaaDoor
open Go.Ty

/-! ## The law of what is drawn below -/
noncomputable def R7c : CTab := (28, conG srcS [.v numS] (fun x xs => belG x xs.1) fun x xs => .ret (.tup [.val numS (belX x xs.1), .val i64S (belE x xs.1)])) :: (27, conM srcS [.v i64S] (fun x xs => skpG x xs.1) fun _ xs => .ret (.av (.val i64S (fitsE xs.1)))) :: (26, conNew [.v (.sl u8S)] srcS (fun xs => Nat.ble (List.length xs.1) 140737488355328) fun xs => srcN xs.1 0#64) :: (32, conMW srcS [.v i64S] (fun x xs => bytG x xs.1) bytF) :: N0c
noncomputable abbrev R7 : Go.Ty.Cx := mkX Tryd.prog GL shA R7c
theorem R7_ok : ∀ p ∈ R7c, COK Tryd.prog GL p.1 p.2 := CCons below_ok (CCons skip_ok (CCons dnew_ok (CCons dbytes_ok N0_ok)))
theorem run_place (x : Src) : ∀ i, (runG x i).2.1 = x.2.1 + BitVec.ofNat 64 i
  | 0 => (BitVec.add_zero _).symm
  | i + 1 => by
    show (runG x i).2.1 + 1#64 = _
    rw [run_place x i, BitVec.add_assoc, BitVec.ofNat_add]
theorem runT_place (x : Src) : ∀ i, (runT x i).2.1 = x.2.1 + BitVec.ofNat 64 (32 * i)
  | 0 => (BitVec.add_zero _).symm
  | i + 1 => by
    show (runG (runT x i) 32).2.1 = _
    rw [run_place, runT_place x i, BitVec.add_assoc, ← BitVec.ofNat_add]; rfl
theorem byt32 (x : Src) : bytG x 32 = runG x 32 := by
  unfold bytG
  exact cond_pos (decTr (by decide))
theorem skp_place (sd : List (BitVec 8)) {N : Nat} (h : N ≤ 4096) : (skpG (srcN sd 0#64) ((N : Nat) : Int)).2.1 = BitVec.ofNat 64 N := by
  have hf : fitsE ((N : Nat) : Int) = 0 := by
    unfold fitsE
    rw [cond_neg (decFa (by omega)), cond_neg (decFa (by omega))]
  unfold skpG
  rw [cond_pos (decTr hf)]
  show 0#64 + BitVec.ofInt 64 ((N : Nat) : Int) = _
  rw [BitVec.ofInt_natCast, BitVec.zero_add]
theorem words_0 : wordsN 4 0 = List.replicate 4 0#64 := by rw [wordsN_eq]; decide
theorem canW_0 (b : List (BitVec 8)) : canW b (-256) = List.replicate 4 0#64 := by
  have e1 : ∀ V : Nat, Lb.shiftN V (IntKind.i64.wrap (0 - -256)) = 0 := fun V => by
    rw [show IntKind.i64.wrap (0 - -256) = 256 by decide]
    unfold Lb.shiftN; rw [if_pos (by decide)]
  have e2 : ∀ V : Nat, Lb.shiftN V (-256) = 0 := fun V => by unfold Lb.shiftN; rw [if_neg (by decide), if_pos (by decide)]
  unfold canW
  rw [e1, e2, words_0]
theorem canW_k (b : List (BitVec 8)) {k : Nat} (hk : k ≤ 256) : canW b (IntKind.i64.wrap (((k : Nat) : Int) - 256)) = wordsN 4 (Lb.shiftN (valN (wordsN 4 (Lb.shiftN (valN (wordsN 4 (Lb.valB b))) (IntKind.i64.wrap (256 - ((k : Nat) : Int)))))) (IntKind.i64.wrap (((k : Nat) : Int) - 256))) := by
  have e1 : IntKind.i64.wrap (((k : Nat) : Int) - 256) = ((k : Nat) : Int) - 256 := IntWalk.i64_in _ (by omega)
  have e2 : IntKind.i64.wrap (256 - ((k : Nat) : Int)) = 256 - ((k : Nat) : Int) := IntWalk.i64_in _ (by omega)
  have e3 : IntKind.i64.wrap (0 - (((k : Nat) : Int) - 256)) = 256 - ((k : Nat) : Int) := by rw [IntWalk.i64_in _ (by omega)]; omega
  unfold canW
  rw [e1, e2, e3]
abbrev Idl : List It := [.v 2 i64S, .p 4 2000 numS, .p 7 2001 srcS, .p 8 2002 srcS, .p 9 2003 numS, .v 10 i64S, .v 13 i64S]
abbrev odl : List (Nat × List It) := [(0, [.v 2 i64S, .p 7 2001 srcS, .p 9 2003 numS, .v 10 i64S])]
noncomputable def lenI (m : Num) : Int := ((Lb.blen (valN (topW m)) : Nat) : Int)
noncomputable def stDl (n : Int) (m : Num) (s t : Src) (x : Num) (e k : Int) : HI Idl := (n, m, s, t, x, e, k, ())
noncomputable def Qdl : LQ Idl [.v 6 .bool] odl := fun z Kr Kx => ∃ (N : Nat) (m : Num) (x0 : Src), z = stDl ((N : Nat) : Int) m (belG x0 m) x0 (belX x0 m) (belE x0 m) (lenI m) ∧ (N ≤ 4096 ∧ x0.2.1 = BitVec.ofNat 64 N ∧ zN m = false) ∧
  (Kr (true, ()) ∧ (belH x0 m = none → Kx.1 (((N : Nat) : Int), runT x0 N100, List.replicate 4 0#64, (6 : Int), ())))
noncomputable def bdl : Code := Tryd.f7.body.getD .skip
noncomputable abbrev Ldl : LTab := [(11, ptL Idl [.v 6 .bool] odl Qdl)]
theorem rounddl (n : Int) (m : Num) (s t : Src) (x : Num) (e k : Int) (Kn : HI Idl → Prop) (Kr : HI [.v 6 .bool] → Prop) (Kx : HP odl) : roundT (W R7 Tryd.f7.ntmps (LTab.look Ldl) (bodyAt bdl 11)) Idl [.v 6 .bool] odl (n, m, s, t, x, e, k, ()) Kn Kr Kx =
 (  ifB (!decide (t.2.1 = s.2.1))
    (ifB (decide (s.2.1 < (bytG t 32).2.1)) (Kr (false, PUnit.unit))
      (ifB (decide (k = 0))
        (ifB (decide (Lb.cmpI (valN (List.replicate 4 0#64)) (valN m) < 0))
          (ifB (decide (e = 0))
            (ifB (teq (Sh.arr 4 (Sh.int IntKind.u64)) x (List.replicate 4 0#64))
              (Kr (decide ((bytG t 32).2.1 = s.2.1), PUnit.unit)) (Kr (false, PUnit.unit)))
            (Kr (false, PUnit.unit)))
          (Kn (n, m, s, bytG t 32, x, e, k, PUnit.unit)))
        (ifB
          (decide
            (Lb.cmpI
                (valN
                  (wordsN 4
                    (Lb.shiftN
                      (valN
                        (wordsN 4
                          (Lb.shiftN
                            (valN
                              (wordsN 4
                                (Lb.valB
                                  (over (List.replicate 32 0#8) 0
                                    (List.take 32 (List.take (outB t 32 32).length (List.drop 0 (outB t 32 32))))))))
                            (IntKind.i64.wrap (256 - k)))))
                      (IntKind.i64.wrap (k - 256)))))
                (valN m) <
              0))
          (ifB (decide (e = 0))
            (ifB
              (teq (Sh.arr 4 (Sh.int IntKind.u64)) x
                (wordsN 4
                  (Lb.shiftN
                    (valN
                      (wordsN 4
                        (Lb.shiftN
                          (valN
                            (wordsN 4
                              (Lb.valB
                                (over (List.replicate 32 0#8) 0
                                  (List.take 32 (List.take (outB t 32 32).length (List.drop 0 (outB t 32 32))))))))
                          (IntKind.i64.wrap (256 - k)))))
                    (IntKind.i64.wrap (k - 256)))))
              (Kr (decide ((bytG t 32).2.1 = s.2.1), PUnit.unit)) (Kr (false, PUnit.unit)))
            (Kr (false, PUnit.unit)))
          (Kn (n, m, s, bytG t 32, x, e, k, PUnit.unit)))))
    (Kx.1 (n, s, x, e, PUnit.unit))) := by kernel_rfl
theorem fwDBelow (sd : Sh.T (.sl u8S)) (m : Sh.T (numS)) (n : Sh.T (i64S)) (P : SV → Prop) : FW R7 Tryd.f7.ntmps (LTab.look Ldl) Tryd.f7 (argsOf [.sl u8S, numS, i64S] (sd, m, n, ())) P =
 (  ifB (decide (n < 0)) (P (SV.av (AV.val Sh.bool true)))
    (ifB (decide (4096 < n)) (P (SV.av (AV.val Sh.bool true)))
      (dmd ((List.length sd).ble 140737488355328)
        (dmd ((List.length sd).ble 140737488355328)
          (ifB (!decide (fitsE n = 0)) (P (SV.av (AV.val Sh.bool false)))
            (ifB (!decide (fitsE n = 0)) (P (SV.av (AV.val Sh.bool false)))
              (ifB (teq (Sh.arr 4 (Sh.int IntKind.u64)) m (List.replicate 4 0#64))
                (ifB (decide (belE (skpG (srcN sd 0#64) n) m = 1))
                  (P
                    (SV.av
                      (AV.val Sh.bool (decide ((belG (skpG (srcN sd 0#64) n) m).2.1 = (skpG (srcN sd 0#64) n).2.1)))))
                  (P (SV.av (AV.val Sh.bool false))))
                (Qdl
                  (n, m, belG (skpG (srcN sd 0#64) n) m, skpG (srcN sd 0#64) n, belX (skpG (srcN sd 0#64) n) m,
                    belE (skpG (srcN sd 0#64) n) m,
                    (((Lb.blen (valN (wordsN 4 (valN m + Lb.B256 - valN ((List.replicate 4 0#64).set 0 1#64))))) : Nat) : Int),
                    PUnit.unit)
                  (fun x => P (SV.av (AV.val Sh.bool x.1)))
                  (fun x =>
                    ifB (decide (x.2.2.2.1 = 6))
                      (ifB (teq (Sh.arr 4 (Sh.int IntKind.u64)) x.2.2.1 (List.replicate 4 0#64))
                        (P
                          (SV.av (AV.val Sh.bool (decide (x.2.1.2.1 = BitVec.ofInt 64 (IntKind.i64.wrap (x.1 + 3200)))))))
                        (P (SV.av (AV.val Sh.bool false))))
                      (P (SV.av (AV.val Sh.bool false))),
                    PUnit.unit))))))))) := by kernel_rfl
set_option maxRecDepth 20000 in
theorem roundL (n : Int) (m : Num) (s t u : Src) (b : List (BitVec 8)) (x : Num) (e k : Int) (Kn : HI Idl → Prop) (Kr : HI [.v 6 .bool] → Prop) (Kx : HP odl) (hu : bytG t 32 = u) (hb : outB t 32 32 = b) (h0 : t.2.1 ≠ s.2.1) (h1 : ¬ s.2.1 < u.2.1) (C : Num)
    (hC0 : k = 0 → List.replicate 4 0#64 = C) (hC1 : k ≠ 0 → wordsN 4 (Lb.shiftN (valN (wordsN 4 (Lb.shiftN (valN (wordsN 4 (Lb.valB (over (List.replicate 32 0#8) 0 (List.take 32 (List.take b.length (List.drop 0 b))))))) (IntKind.i64.wrap (256 - k))))) (IntKind.i64.wrap (k - 256))) = C)
    (hp : decide (Lb.cmpI (valN C) (valN m) < 0) = true → e = 0 ∧ x = C ∧ u.2.1 = s.2.1 ∧ Kr (true, ())) (hq : decide (Lb.cmpI (valN C) (valN m) < 0) = false → Kn (stDl n m s u x e k)) :
    roundT (W R7 Tryd.f7.ntmps (LTab.look Ldl) (bodyAt bdl 11)) Idl [.v 6 .bool] odl (stDl n m s t x e k) Kn Kr Kx := by
  refine (rounddl n m s t x e k Kn Kr Kx).mpr ?_
  rw [hu, hb]
  clear hu hb
  refine ifB_neg (fun _ => ifB_dec (fun c => (h1 c).elim) (fun _ => ifB_dec (fun c => ?_) (fun c => ?_))) (fun c => (h0 c).elim)
  · rw [hC0 c]
    refine ifB_of (fun d => ?_) hq
    obtain ⟨q1, q2, q3, q4⟩ := hp d
    refine ifB_dec (fun _ => ifB_of (fun _ => ?_) (fun c => teq_no q2 c)) (fun c => absurd q1 c)
    rw [decTr q3]; exact q4
  · rw [hC1 c]
    refine ifB_of (fun d => ?_) hq
    obtain ⟨q1, q2, q3, q4⟩ := hp d
    refine ifB_dec (fun _ => ifB_of (fun _ => ?_) (fun c => teq_no q2 c)) (fun c => absurd q1 c)
    rw [decTr q3]; exact q4
set_option maxRecDepth 20000 in
theorem endL (n : Int) (m : Num) (s t u : Src) (b : List (BitVec 8)) (x : Num) (e k : Int) (Kn : HI Idl → Prop) (Kr : HI [.v 6 .bool] → Prop) (Kx : HP odl) (hu : bytG t 32 = u) (hb : outB t 32 32 = b) (h0 : t.2.1 = s.2.1) (h : Kx.1 (n, s, x, e, ())) :
    roundT (W R7 Tryd.f7.ntmps (LTab.look Ldl) (bodyAt bdl 11)) Idl [.v 6 .bool] odl (stDl n m s t x e k) Kn Kr Kx := by
  refine (rounddl n m s t x e k Kn Kr Kx).mpr ?_
  rw [hu, hb]
  clear hu hb
  refine ifB_neg (fun c => ?_) (fun _ => h)
  exact (c h0).elim
theorem over_all {l : List (BitVec 8)} (h : l.length = 32) : over (List.replicate 32 0#8) 0 (List.take 32 (List.take l.length (List.drop 0 l))) = l := by
  rw [drop0_take _ _ rfl, List.take_of_length_le (by omega)]
  unfold over
  rw [List.take_zero, List.nil_append, List.drop_eq_nil_iff.2 (by rw [List.length_replicate]; omega), List.append_nil]
theorem len_le (m : Num) : Lb.blen (valN (topW m)) ≤ 256 := by
  refine Lb.blen_le.2 ?_
  unfold topW
  rw [valN_words]
  have h := Nat.mod_lt (valN m + Lb.B256 - valN ((List.replicate 4 0#64).set 0 1#64)) (Nat.two_pow_pos (64 * 4))
  rw [show 64 * 4 = 256 from rfl] at h ⊢
  exact h
theorem belG_some {x : Src} {m : Num} {k : Nat} (hz : zN m = false) (h : belH x m = some k) : belG x m = runT x (k + 1) ∧ belE x m = 0 ∧ belX x m = canW (outB (runT x k) 32 32) (offO m) := by
  unfold belG belE belX
  rw [cond_neg hz, cond_neg hz, cond_neg hz, h]
  exact ⟨rfl, rfl, rfl⟩
theorem belG_none {x : Src} {m : Num} (hz : zN m = false) (h : belH x m = none) : belG x m = runT x N100 ∧ belE x m = 6 ∧ belX x m = List.replicate 4 0#64 := by
  unfold belG belE belX
  rw [cond_neg hz, cond_neg hz, cond_neg hz, h]
  exact ⟨rfl, rfl, rfl⟩
theorem place_ne {N i j : Nat} (_ : N ≤ 4096) (hi : i < 200) (hj : j < 200) (h : i ≠ j) {p : BitVec 64} (hp : p = BitVec.ofNat 64 N) : p + BitVec.ofNat 64 (32 * i) ≠ p + BitVec.ofNat 64 (32 * j) := by
  subst hp
  intro e
  have e := congrArg BitVec.toNat e
  rw [BitVec.toNat_add, BitVec.toNat_add, BitVec.toNat_ofNat, BitVec.toNat_ofNat, BitVec.toNat_ofNat] at e
  omega
theorem place_nl {N i j : Nat} (hN : N ≤ 4096) (hi : i < 200) (hj : j < 200) (h : j ≤ i) {p : BitVec 64} (hp : p = BitVec.ofNat 64 N) : ¬ p + BitVec.ofNat 64 (32 * i) < p + BitVec.ofNat 64 (32 * j) := by
  subst hp
  intro e
  have e := BitVec.lt_def.1 e
  rw [BitVec.toNat_add, BitVec.toNat_add, BitVec.toNat_ofNat, BitVec.toNat_ofNat, BitVec.toNat_ofNat] at e
  omega
set_option maxRecDepth 20000 in
theorem loopdl : ∀ z Kr Kx, Qdl z Kr Kx → ∃ n, untl (W R7 Tryd.f7.ntmps (LTab.look Ldl) (bodyAt bdl 11)) Idl [.v 6 .bool] odl n z Kr Kx := by
  rintro z Kr Kx ⟨N, m, x0, ez, ⟨hN, hp, hz⟩, hr, hn⟩
  rw [ez]
  have e100 := N100_eq
  have hl := len_le m
  have ho : offO m = IntKind.i64.wrap (((Lb.blen (valN (topW m)) : Nat) : Int) - 256) := rfl
  have hC0 : ∀ i, lenI m = 0 → List.replicate 4 0#64 = canW (outB (runT x0 i) 32 32) (offO m) := fun i h => by
    have h : ((Lb.blen (valN (topW m)) : Nat) : Int) = 0 := h
    rw [ho, h, show IntKind.i64.wrap (0 - 256) = -256 by decide, canW_0]
  have hC1 : ∀ i, lenI m ≠ 0 → wordsN 4 (Lb.shiftN (valN (wordsN 4 (Lb.shiftN (valN (wordsN 4 (Lb.valB (over (List.replicate 32 0#8) 0 (List.take 32 (List.take (outB (runT x0 i) 32 32).length (List.drop 0 (outB (runT x0 i) 32 32)))))))) (IntKind.i64.wrap (256 - lenI m))))) (IntKind.i64.wrap (lenI m - 256))) = canW (outB (runT x0 i) 32 32) (offO m) := fun i _ => by
    rw [over_all (outB_len _ _ _), ho, canW_k _ hl]; rfl
  have hs : ∀ i, bytG (runT x0 i) 32 = runT x0 (i + 1) := fun i => byt32 _
  cases hf : belH x0 m with
  | some j =>
    obtain ⟨h1, h2, h3⟩ := first_some hf
    obtain ⟨g1, g2, g3⟩ := belG_some hz hf
    rw [g1, g2, g3]
    refine untl_up (F := W R7 Tryd.f7.ntmps (LTab.look Ldl) (bodyAt bdl 11)) (l := Idl) (lr := [.v 6 .bool]) (lx := odl) (Kr := Kr) (Kx := Kx) (st := fun i => stDl ((N : Nat) : Int) m (runT x0 (j + 1)) (runT x0 i) (canW (outB (runT x0 j) 32 32) (offO m)) 0 (lenI m)) j (fun i hi Kn hK => ?_) (fun Kn => ?_)
    · refine roundL _ m _ _ (runT x0 (i + 1)) _ _ _ _ Kn Kr Kx (hs i) rfl ?_ ?_ (canW (outB (runT x0 i) 32 32) (offO m)) (hC0 i) (hC1 i) (fun c => ?_) (fun _ => hK)
      · rw [runT_place, runT_place]; exact place_ne hN (by omega) (by omega) (by omega) hp
      · rw [runT_place, runT_place]; exact place_nl hN (by omega) (by omega) (by omega) hp
      · have := h3 i hi
        unfold hitB at this
        rw [this] at c; cases c
    · refine roundL _ m _ _ (runT x0 (j + 1)) _ _ _ _ Kn Kr Kx (hs j) rfl ?_ ?_ (canW (outB (runT x0 j) 32 32) (offO m)) (hC0 j) (hC1 j) (fun _ => ⟨rfl, rfl, rfl, hr⟩) (fun c => ?_)
      · rw [runT_place, runT_place]; exact place_ne hN (by omega) (by omega) (by omega) hp
      · rw [runT_place]; exact place_nl hN (by omega) (by omega) (by omega) hp
      · have := h2
        unfold hitB at this
        rw [this] at c; cases c
  | none =>
    have h3 := first_none hf
    obtain ⟨g1, g2, g3⟩ := belG_none hz hf
    rw [g1, g2, g3]
    refine untl_up (F := W R7 Tryd.f7.ntmps (LTab.look Ldl) (bodyAt bdl 11)) (l := Idl) (lr := [.v 6 .bool]) (lx := odl) (Kr := Kr) (Kx := Kx) (st := fun i => stDl ((N : Nat) : Int) m (runT x0 N100) (runT x0 i) (List.replicate 4 0#64) 6 (lenI m)) N100 (fun i hi Kn hK => ?_) (fun Kn => ?_)
    · refine roundL _ m _ _ (runT x0 (i + 1)) _ _ _ _ Kn Kr Kx (hs i) rfl ?_ ?_ (canW (outB (runT x0 i) 32 32) (offO m)) (hC0 i) (hC1 i) (fun c => ?_) (fun _ => hK)
      · rw [runT_place, runT_place]; exact place_ne hN (by omega) (by omega) (by omega) hp
      · rw [runT_place, runT_place]; exact place_nl hN (by omega) (by omega) (by omega) hp
      · have := h3 i hi
        unfold hitB at this
        rw [this] at c; cases c
    · exact endL _ m _ _ _ _ _ _ _ Kn Kr Kx rfl rfl rfl (hn hf)
set_option maxRecDepth 20000 in
theorem dbelow_fw (sd : List (BitVec 8)) (m : Num) (n : Int) (hk : sd.length ≤ 140737488355328) : FW R7 Tryd.f7.ntmps (LTab.look Ldl) Tryd.f7 (argsOf [.sl u8S, numS, i64S] (sd, m, n, ())) (fun r => r = .av (.val .bool true)) := by
  rw [fwDBelow]
  have hk := bleT hk
  refine ifB_dec (fun _ => rfl) (fun a => ifB_dec (fun _ => rfl) (fun b => dmd_of hk (dmd_of hk ?_)))
  have a : ¬ n < (0 : Int) := a
  have b : ¬ (4096 : Int) < n := b
  obtain ⟨N, rfl⟩ := Int.eq_ofNat_of_zero_le (show 0 ≤ n by omega)
  have hN : N ≤ 4096 := by omega
  have hf : fitsE ((N : Nat) : Int) = 0 := by
    unfold fitsE
    rw [cond_neg (decFa (by omega)), cond_neg (decFa (by omega))]
  have hp := skp_place sd hN
  generalize skpG (srcN sd 0#64) ((N : Nat) : Int) = x0 at *
  refine ifB_neg (fun c => absurd hf c) (fun _ => ifB_neg (fun c => absurd hf c) (fun _ => ifB_of (fun c => ?_) (fun c => ?_)))
  · have c : zN m = true := c
    have e1 : belE x0 m = 1 := by unfold belE; exact cond_pos c
    have e2 : belG x0 m = x0 := by unfold belG; exact cond_pos c
    rw [e1, e2]
    exact ifB_dec (fun _ => pbool (decide_eq_true (p := x0.2.1 = x0.2.1) rfl)) (fun c => absurd rfl c)
  · have c : zN m = false := c
    refine ⟨N, m, x0, rfl, ⟨hN, hp, c⟩, rfl, fun _ => ?_⟩
    show ifB (decide ((6 : Int) = 6)) (ifB (teq numS (List.replicate 4 0#64) (List.replicate 4 0#64)) (SV.av (AV.val Sh.bool (decide ((runT x0 N100).2.1 = BitVec.ofInt 64 (IntKind.i64.wrap (((N : Nat) : Int) + 3200))))) = SV.av (.val .bool true)) (SV.av (AV.val Sh.bool false) = SV.av (.val .bool true))) (SV.av (AV.val Sh.bool false) = SV.av (.val .bool true))
    refine ifB_dec (fun _ => ifB_of (fun _ => pbool (decide_eq_true (p := (runT x0 N100).2.1 = BitVec.ofInt 64 (IntKind.i64.wrap (((N : Nat) : Int) + 3200))) ?_)) (fun c => teq_no rfl c)) (fun c => absurd rfl c)
    rw [runT_place, hp, N100_eq, IntWalk.i64_in _ (by omega), show ((N : Nat) : Int) + 3200 = ((N + 3200 : Nat) : Int) by omega, BitVec.ofInt_natCast, ← BitVec.ofNat_add]
theorem walkDrawBelow (xs : HL [.sl u8S, numS, i64S]) (h : okHL [.sl u8S, numS, i64S] xs) : PC (bx Tryd.prog GL) 7 (argsOf [.sl u8S, numS, i64S] xs) (.av (.val .bool true)) := by
  obtain ⟨sd, m, n, ⟨⟩⟩ := xs
  have h1 : List.length sd * 1 ≤ 140737488351232 := h.1.1
  exact PC_of_fw (t := Ldl) shA_ok R7_ok mixed Tryd.func7 (c := bdl) rfl (by kernel_rfl) (by kernel_rfl) (loopsOK (by kernel_rfl) (LTCons (loop_of shA_ok R7_ok mixed (loopsOK (by kernel_rfl) (LTCons (noLoop (by kernel_rfl)) LTNil)) (by kernel_rfl) loopdl) LTNil)) rfl (dbelow_fw sd m n (by omega))
end Go.Proofs.YtghmfiandllpfaaDoor
