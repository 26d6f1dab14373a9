import Derived.Test.YtghmfiandllpfaaDoorSf
namespace Go.Proofs.YtghmfiandllpfaaDoor
open Go.Ty
open Go.Lag (addP)

theorem rd_app1 {l : List Shr} {s : Shr} {i : Nat} (h : i < l.length) : rd shS (l ++ [s]) i = rd shS l i := by
  rw [rd_at (by rw [List.length_append]; show i < l.length + 1; omega), rd_at h, List.getElem_append_left h]
theorem rd_app2 {l : List Shr} {s : Shr} : rd shS (l ++ [s]) l.length = s := by
  rw [rd_at (by rw [List.length_append]; show l.length < l.length + 1; omega), List.getElem_append_right (Nat.le_refl _)]
  simp
noncomputable def smS (l m : List Shr) (i : Nat) : Shr := ((rd shS l i).1, wordsN 4 ((valN (rd shS l i).2.1 + valN (rd shS m i).2.1) % Lb.LL), ())
noncomputable def smL (l m : List Shr) : Nat → List Shr
  | 0 => []
  | i + 1 => smL l m i ++ [smS l m i]
theorem sm_len (l m : List Shr) : ∀ i, (smL l m i).length = i
  | 0 => rfl
  | i + 1 => by
    show (smL l m i ++ [smS l m i]).length = _
    rw [List.length_append, sm_len l m i]; rfl
theorem sm_rd (l m : List Shr) {j : Nat} : ∀ i, j < i → rd shS (smL l m i) j = smS l m j
  | i + 1, h => by
    show rd shS (smL l m i ++ [smS l m i]) j = _
    by_cases e : j < i
    · rw [rd_app1 (by rw [sm_len]; exact e)]; exact sm_rd l m i e
    · have e : j = (smL l m i).length := by rw [sm_len]; omega
      rw [e, rd_app2, sm_len]
noncomputable def U0c : CTab := (14, conA [.v numS, .v i64S, .v i64S, .v (.sl u8S)] fun xs => .dem (Nat.ble (List.length xs.2.2.2.1) 140737488355328) (.ret (.tup [.val (.sl shS) (splO xs.1 xs.2.1 xs.2.2.1 xs.2.2.2.1), .val i64S (splE xs.1 xs.2.1 xs.2.2.1 xs.2.2.2.1)]))) :: (16, conA [.v (.sl shS), .v i64S] fun xs => .ret (.tup [.val numS (atX xs.1 xs.2.1), .val i64S (chkE xs.1 xs.2.1)])) :: (22, conT [numS, numS] Lb.addLF) :: []
noncomputable abbrev U0 : Go.Ty.Cx := mkX Tryd.prog GL shA U0c
theorem U0_ok : ∀ p ∈ U0c, COK Tryd.prog GL p.1 p.2 := CCons split_ok (CCons atS_ok (CCons Lb.addL_ok CNil))
abbrev Iss : List It := [.v 2 i64S, .p 6 2000 numS, .p 7 2001 numS, .v 13 (.sl shS), .v 15 (.sl shS), .g 17 2002 shS, .v 18 i64S]
abbrev oss : List (Nat × List It) := [(0, [.p 6 2000 numS, .p 7 2001 numS, .g 17 2002 shS])]
noncomputable def Qss : LQ Iss [] oss := fun z _ Kx => ∃ (k : Nat) (a b : Num) (l m : List Shr), z = ((k : Int), a, b, l, m, none, (0 : Int), ()) ∧ (1 ≤ k ∧ k ≤ 6 ∧ k ≤ l.length ∧ k ≤ m.length) ∧ ∀ o, o = smL l m k → Kx.1 (a, b, some o, ())
noncomputable def bss : Code := Tryd.f5.body.getD .skip
noncomputable abbrev Lss : LTab := [(7, ptL Iss [] oss Qss)]
theorem roundssn (k : Int) (a b : List (BitVec 64)) (l m : List Shr) (i : Int) (Kn : HI Iss → Prop) (Kr : HI [] → Prop) (Kx : HP oss) : roundT (W U0 Tryd.f5.ntmps (LTab.look Lss) (bodyAt bss 7)) Iss [] oss (k, a, b, l, m, none, i, ()) Kn Kr Kx =
 (  ifB (decide (i < k))
 (dmd (decide (0 ≤ i) && decide (i < ((l.length : Nat) : Int)))
 (dmd (decide (0 ≤ i) && decide (i < ((l.length : Nat) : Int)))
 (dmd (decide (0 ≤ i) && decide (i < ((m.length : Nat) : Int)))
 (ifB
 ((List.take 1
 (List.drop 0
 ((List.replicate 1 (Sh.dft shS)).set 0
 ((rd shS l i.toNat).1,
 wordsN 4
 ((valN
 (rd shS l
 i.toNat).2.1 +
 valN
 (rd shS m
 i.toNat).2.1) %
 Lb.LL),
 PUnit.unit)))).length.beq
 0)
 (Kn (k, a, b, l, m, none, IntKind.i64.wrap (i + 1), PUnit.unit))
 (dmd
 (((List.take 1
 (List.drop 0
 ((List.replicate 1 (Sh.dft shS)).set 0
 ((rd shS l i.toNat).1,
 wordsN 4
 ((valN
 (rd shS l
 i.toNat).2.1 +
 valN
 (rd shS m
 i.toNat).2.1) %
 Lb.LL),
 PUnit.unit)))).length *
 40).ble
 140737488355328)
 ((0 = 0 ∧
 (List.take 1
 (List.drop 0
 ((List.replicate 1 (Sh.dft shS)).set 0
 ((rd shS l i.toNat).1,
 wordsN 4
 ((valN
 (rd shS l
 i.toNat).2.1 +
 valN
 (rd shS m
 i.toNat).2.1) %
 Lb.LL),
 PUnit.unit)))).length =
 (List.take 1
 (List.drop 0
 ((List.replicate 1 (Sh.dft shS)).set 0
 ((rd shS l i.toNat).1,
 wordsN 4
 ((valN
 (rd shS l
 i.toNat).2.1 +
 valN
 (rd shS m
 i.toNat).2.1) %
 Lb.LL),
 PUnit.unit)))).length) ∧
 Kn
 (k, a, b, l, m,
 some
 (List.take 1
 (List.drop 0
 ((List.replicate 1 (Sh.dft shS)).set 0
 ((rd shS l i.toNat).1,
 wordsN 4
 ((valN
 (rd shS l
 i.toNat).2.1 +
 valN
 (rd shS m
 i.toNat).2.1) %
 Lb.LL),
 PUnit.unit)))),
 IntKind.i64.wrap (i + 1), PUnit.unit)))))))
 (Kx.1 (a, b, none, PUnit.unit))) := by kernel_rfl
theorem roundsss (k : Int) (a b : List (BitVec 64)) (l m o : List Shr) (i : Int) (Kn : HI Iss → Prop) (Kr : HI [] → Prop) (Kx : HP oss) : roundT (W U0 Tryd.f5.ntmps (LTab.look Lss) (bodyAt bss 7)) Iss [] oss (k, a, b, l, m, some o, i, ()) Kn Kr Kx =
 (  ifB (decide (i < k))
 (dmd (decide (0 ≤ i) && decide (i < ((l.length : Nat) : Int)))
 (dmd (decide (0 ≤ i) && decide (i < ((l.length : Nat) : Int)))
 (dmd (decide (0 ≤ i) && decide (i < ((m.length : Nat) : Int)))
 (dmd
 (o.length.beq o.length &&
 ((o.length +
 (List.take 1
 (List.drop 0
 ((List.replicate 1 (Sh.dft shS)).set 0
 ((rd shS l
 i.toNat).1,
 wordsN 4
 ((valN
 (rd shS l
 i.toNat).2.1 +
 valN
 (rd shS m
 i.toNat).2.1) %
 Lb.LL),
 PUnit.unit)))).length) *
 40).ble
 140737488355328)
 ((0 = 0 ∧
 o.length +
 (List.take 1
 (List.drop 0
 ((List.replicate 1 (Sh.dft shS)).set 0
 ((rd shS l i.toNat).1,
 wordsN 4
 ((valN
 (rd shS l
 i.toNat).2.1 +
 valN
 (rd shS m
 i.toNat).2.1) %
 Lb.LL),
 PUnit.unit)))).length =
 (o.append
 (List.take 1
 (List.drop 0
 ((List.replicate 1 (Sh.dft shS)).set 0
 ((rd shS l i.toNat).1,
 wordsN 4
 ((valN
 (rd shS l
 i.toNat).2.1 +
 valN
 (rd shS m
 i.toNat).2.1) %
 Lb.LL),
 PUnit.unit))))).length) ∧
 Kn
 (k, a, b, l, m,
 some
 (o.append
 (List.take 1
 (List.drop 0
 ((List.replicate 1 (Sh.dft shS)).set 0
 ((rd shS l i.toNat).1,
 wordsN 4
 ((valN
 (rd shS l
 i.toNat).2.1 +
 valN
 (rd shS m
 i.toNat).2.1) %
 Lb.LL),
 PUnit.unit))))),
 IntKind.i64.wrap (i + 1), PUnit.unit))))))
 ((0 = 0 ∧ o.length = o.length) ∧ Kx.1 (a, b, some o, PUnit.unit))) := by kernel_rfl
theorem fwShareS (a : Sh.T (numS)) (b : Sh.T (numS)) (k : Sh.T (i64S)) (n : Sh.T (i64S)) (s : Sh.T (.sl u8S)) (t : Sh.T (.sl u8S)) (P : SV → Prop) : FW U0 Tryd.f5.ntmps (LTab.look Lss) Tryd.f5 (argsOf [numS, numS, i64S, i64S, .sl u8S, .sl u8S] (a, b, k, n, s, t, ())) P =
 (  dmd ((List.length s).ble 140737488355328)
 (dmd ((List.length t).ble 140737488355328)
 (ifB (!decide (splE a k n s = 0))
 (ifB (!decide (splE a k n s = 0)) (P (SV.av (AV.val Sh.bool true)))
 (ifB (!decide (splE b k n t = 0)) (P (SV.av (AV.val Sh.bool true)))
 (P (SV.av (AV.val Sh.bool (decide (6 < k)))))))
 (ifB (!decide (splE b k n t = 0))
 (ifB (!decide (splE a k n s = 0)) (P (SV.av (AV.val Sh.bool true)))
 (ifB (!decide (splE b k n t = 0)) (P (SV.av (AV.val Sh.bool true)))
 (P (SV.av (AV.val Sh.bool (decide (6 < k)))))))
 (ifB (decide (6 < k))
 (ifB (!decide (splE a k n s = 0)) (P (SV.av (AV.val Sh.bool true)))
 (ifB (!decide (splE b k n t = 0)) (P (SV.av (AV.val Sh.bool true)))
 (P (SV.av (AV.val Sh.bool (decide (6 < k)))))))
 (ifB (!decide ((((splO a k n s).length : Nat) : Int) = n))
 (ifB (!decide (splE a k n s = 0)) (P (SV.av (AV.val Sh.bool true)))
 (ifB (!decide (splE b k n t = 0)) (P (SV.av (AV.val Sh.bool true)))
 (P (SV.av (AV.val Sh.bool (decide (6 < k)))))))
 (ifB (!decide ((((splO b k n t).length : Nat) : Int) = n))
 (ifB (!decide (splE a k n s = 0)) (P (SV.av (AV.val Sh.bool true)))
 (ifB (!decide (splE b k n t = 0)) (P (SV.av (AV.val Sh.bool true)))
 (P (SV.av (AV.val Sh.bool (decide (6 < k)))))))
 (Qss (k, a, b, splO a k n s, splO b k n t, none, 0, PUnit.unit) (fun _ => False)
 (fun x =>
 optB x.2.2.1 (P (SV.av (AV.val Sh.bool false))) fun xs =>
 ifB (decide (chkE (List.take xs.length (List.drop 0 xs)) 0 = 0))
 (P
 (SV.av
 (AV.val Sh.bool
 (teq (Sh.arr 4 (Sh.int IntKind.u64)) (atX (List.take xs.length (List.drop 0 xs)) 0)
 (wordsN 4 ((valN x.1 + valN x.2.1) % Lb.LL))))))
 (P (SV.av (AV.val Sh.bool false))),
 PUnit.unit))))))))) := by kernel_rfl
noncomputable def stSs (k : Int) (a b : Num) (l m : List Shr) (o : Option (List Shr)) (i : Int) : HI Iss := (k, a, b, l, m, o, i, ())
theorem roundS (k i : Nat) (a b : Num) (l m : List Shr) (hk : k ≤ 6) (hl : k ≤ l.length) (hm : k ≤ m.length) (hi : i < k) (Kn : HI Iss → Prop) (Kr : HI [] → Prop) (Kx : HP oss) (h : Kn (stSs (k : Int) a b l m (optL (smL l m (i + 1))) ((i + 1 : Nat) : Int))) :
    roundT (W U0 Tryd.f5.ntmps (LTab.look Lss) (bodyAt bss 7)) Iss [] oss (stSs (k : Int) a b l m (optL (smL l m i)) (i : Int)) Kn Kr Kx := by
  have ew : IntKind.i64.wrap ((i : Int) + 1) = ((i + 1 : Nat) : Int) := i64w (by omega) (by omega)
  cases i with
  | zero =>
    refine (roundssn _ a b l m _ Kn Kr Kx).mpr ?_
    rw [one_set, Int.toNat_natCast, ew]
    refine ifB_dec (fun _ => dmd_of (inB (by omega)) (dmd_of (inB (by omega)) (dmd_of (inB (by omega)) (ifB_of (fun c => absurd (show false = true from c) (by decide)) (fun _ => dmd_of rfl ⟨⟨rfl, rfl⟩, h⟩))))) (fun c => absurd (show ((0 : Nat) : Int) < ((k : Nat) : Int) by omega) c)
  | succ i =>
    have hl1 := sm_len l m (i + 1)
    have e : smL l m (i + 1 + 1) = smL l m (i + 1) ++ [smS l m (i + 1)] := rfl
    rw [e] at h
    generalize smL l m (i + 1) = o at *
    have hne : o ≠ [] := fun c => by rw [c] at hl1; cases hl1
    rw [optL_ne (show o ++ [smS l m (i + 1)] ≠ [] by simp)] at h
    rw [optL_ne hne]
    refine (roundsss _ a b l m o _ Kn Kr Kx).mpr ?_
    rw [one_set, Int.toNat_natCast, ew]
    refine ifB_dec (fun _ => dmd_of (inB (by omega)) (dmd_of (inB (by omega)) (dmd_of (inB (by omega)) (dmd_of (andT (Nat.beq_refl _) (bleT (by rw [hl1]; show (i + 1 + 1) * 40 ≤ _; omega))) ⟨⟨rfl, List.length_append.symm⟩, h⟩)))) (fun c => absurd (show ((i + 1 : Nat) : Int) < ((k : Nat) : Int) by omega) c)
theorem loopss : ∀ z Kr Kx, Qss z Kr Kx → ∃ n, untl (W U0 Tryd.f5.ntmps (LTab.look Lss) (bodyAt bss 7)) Iss [] oss n z Kr Kx := by
  rintro z Kr Kx ⟨k, a, b, l, m, ez, ⟨h1, hk, hl, hm⟩, hK⟩
  rw [ez]
  refine untl_up (F := W U0 Tryd.f5.ntmps (LTab.look Lss) (bodyAt bss 7)) (l := Iss) (lr := []) (lx := oss) (Kr := Kr) (Kx := Kx) (st := fun i => stSs (k : Int) a b l m (optL (smL l m i)) (i : Int)) k (fun i hi Kn h => ?_) (fun Kn => ?_)
  · exact roundS k i a b l m hk hl hm hi Kn Kr Kx h
  · have hK := hK _ rfl
    have hl1 := sm_len l m k
    generalize smL l m k = o at *
    have hne : o ≠ [] := fun c => by rw [c] at hl1; have : k = 0 := hl1.symm; omega
    rw [optL_ne hne]
    refine (roundsss _ a b l m o _ Kn Kr Kx).mpr ?_
    exact ifB_dec (fun c => absurd c (by omega)) (fun _ => ⟨⟨rfl, rfl⟩, hK⟩)
theorem sums_good {a b : Num} {k n : Int} {s t : List (BitVec 8)} (h1 : splE a k n s = 0) (h2 : splE b k n t = 0) : GoodP (smL (splO a k n s) (splO b k n t) k.toNat) ∧
    ∀ i, i < k.toNat → XF (smL (splO a k n s) (splO b k n t) k.toNat) i = toF (i + 1) ∧ YF (smL (splO a k n s) (splO b k n t) k.toNat) i = Go.Lag.ev (addP (polS a k s) (polS b k t)) (toF (i + 1)) := by
  obtain ⟨⟨g1, g2, g3⟩, _⟩ := spl_0 h1
  have hX : ∀ i, i < k.toNat → Xi (smL (splO a k n s) (splO b k n t) k.toNat) i = ((i + 1 : Nat) : Int) := fun i hi => by
    unfold Xi; rw [sm_rd _ _ _ hi]; exact spl_X h1 (by omega)
  have hY : ∀ i, i < k.toNat → Yi (smL (splO a k n s) (splO b k n t) k.toNat) i = wordsN 4 ((valN (Yi (splO a k n s) i) + valN (Yi (splO b k n t) i)) % Lb.LL) := fun i hi => by
    unfold Yi; rw [sm_rd _ _ _ hi]; rfl
  refine ⟨⟨fun i hi => ?_, fun i j hij hj => ?_⟩, fun i hi => ⟨?_, ?_⟩⟩
  · rw [sm_len] at hi
    rw [hX i hi, hY i hi, vmod]
    exact ⟨by omega, by omega, Nat.mod_lt _ LL_pos⟩
  · rw [sm_len] at hj
    rw [hX j hj, hX i (by omega)]; omega
  · unfold XF; rw [hX i hi, Int.toNat_natCast]
  · rw [Go.Lag.ev_add, ← spl_YF h1 (by omega), ← spl_YF h2 (by omega)]
    show cF (Yi _ i) = _
    rw [hY i hi, cF_mod, toF_add]; rfl
theorem sums_at {a b : Num} {k n : Int} {s t : List (BitVec 8)} (h1 : splE a k n s = 0) (h2 : splE b k n t = 0) : chkE (smL (splO a k n s) (splO b k n t) k.toNat) 0 = 0 ∧
    atX (smL (splO a k n s) (splO b k n t) k.toNat) 0 = wordsN 4 ((valN a + valN b) % Lb.LL) := by
  obtain ⟨⟨g1, g2, g3⟩, _⟩ := spl_0 h1
  obtain ⟨hg, hv⟩ := sums_good h1 h2
  have hc : chkE (smL (splO a k n s) (splO b k n t) k.toNat) 0 = 0 := chk_of (by rw [sm_len]; omega) (by rw [sm_len]; omega) (by omega) (by omega) hg
  refine ⟨hc, ?_⟩
  have hat : atF (smL (splO a k n s) (splO b k n t) k.toNat) 0 = cF a + cF b := by
    refine (Go.Lag.lag_of fld (distX hg) (p := addP (polS a k s) (polS b k t)) (Go.Lag.len_add _ _ _ ?_ ?_) (fun i hi => ?_) _).trans ?_
    · rw [polS_len g1, sm_len]; exact Nat.le_refl _
    · rw [polS_len g1, sm_len]; exact Nat.le_refl _
    · rw [sm_len] at hi
      rw [(hv i hi).1, (hv i hi).2]
    · show Go.Lag.ev _ (toF 0) = _
      rw [toF_0, Go.Lag.ev_add, polS_0, polS_0]
  unfold atX
  rw [hc, hat, wF_mod, toF_add]; rfl
theorem shareS_fw (a b : Num) (k n : Int) (s t : List (BitVec 8)) (hs : s.length ≤ 140737488355328) (ht : t.length ≤ 140737488355328) : FW U0 Tryd.f5.ntmps (LTab.look Lss) Tryd.f5 (argsOf [numS, numS, i64S, i64S, .sl u8S, .sl u8S] (a, b, k, n, s, t, ())) (fun r => r = .av (.val .bool true)) := by
  rw [fwShareS]
  refine dmd_of (bleT hs) (dmd_of (bleT ht) ?_)
  refine ifB_neg (fun c => ifB_neg (fun _ => rfl) (fun d => absurd d c)) (fun h1 => ?_)
  refine ifB_neg (fun c => ifB_neg (fun _ => rfl) (fun _ => ifB_neg (fun _ => rfl) (fun d => absurd d c))) (fun h2 => ?_)
  refine ifB_dec (fun c => ifB_neg (fun _ => rfl) (fun _ => ifB_neg (fun _ => rfl) (fun _ => pbool (decTr c)))) (fun h3 => ?_)
  have h3 : ¬ (6 : Int) < k := h3
  obtain ⟨⟨g1, g2, g3⟩, _⟩ := spl_0 h1
  have l1 := spl_len h1
  have l2 := spl_len h2
  refine ifB_neg (fun c => absurd (show (((splO a k n s).length : Nat) : Int) = n by omega) c) (fun _ => ?_)
  refine ifB_neg (fun c => absurd (show (((splO b k n t).length : Nat) : Int) = n by omega) c) (fun _ => ?_)
  refine ⟨k.toNat, a, b, splO a k n s, splO b k n t, ?_, ⟨by omega, by omega, by omega, by omega⟩, fun o ho => ?_⟩
  · rw [Int.toNat_of_nonneg (by omega)]
  · obtain ⟨e1, e2⟩ := sums_at h1 h2
    rw [← ho] at e1 e2
    show ifB (decide (chkE (List.take o.length (List.drop 0 o)) 0 = 0)) (SV.av (.val .bool (teq numS (atX (List.take o.length (List.drop 0 o)) 0) (wordsN 4 ((valN a + valN b) % Lb.LL)))) = SV.av (.val .bool true)) (SV.av (.val .bool false) = SV.av (.val .bool true))
    rw [drop0_take o _ rfl]
    exact ifB_dec (fun _ => pbool (teq_of e2)) (fun d => absurd e1 d)
theorem walkShareSums (xs : HL [numS, numS, i64S, i64S, .sl u8S, .sl u8S]) (h : okHL [numS, numS, i64S, i64S, .sl u8S, .sl u8S] xs) : PC (bx Tryd.prog GL) 5 (argsOf [numS, numS, i64S, i64S, .sl u8S, .sl u8S] xs) (.av (.val .bool true)) := by
  obtain ⟨a, b, k, n, s, t, ⟨⟩⟩ := xs
  have hs : List.length s * 1 ≤ 140737488351232 := h.2.2.2.2.1.1
  have ht : List.length t * 1 ≤ 140737488351232 := h.2.2.2.2.2.1.1
  exact PC_of_fw (t := Lss) shA_ok U0_ok mixed Tryd.func5 (c := bss) rfl (by kernel_rfl) (by kernel_rfl) (loopsOK (by kernel_rfl) (LTCons (loop_of shA_ok U0_ok mixed (loopsOK (by kernel_rfl) (LTCons (noLoop (by kernel_rfl)) LTNil)) (by kernel_rfl) loopss) LTNil)) rfl (shareS_fw a b k n s t (by omega) (by omega))
end Go.Proofs.YtghmfiandllpfaaDoor
