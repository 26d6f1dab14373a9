import Derived.Test.YtghmfiandllpfaaDoorSp
namespace Go.Proofs.YtghmfiandllpfaaDoor
open Go.Ty

/-! ## A share more -/
noncomputable def cloSF : HA [.v (.sl shS)] → WT := fun xs => .dem (!Nat.beq (List.length xs.1) 0) (.dem (Nat.ble (List.length xs.1) 1000000) (.ret [] (some ⟨shS, xs.1⟩)))
set_option maxRecDepth 20000 in
theorem fwCloS (p : List Shr) (K : List AV → OwnV → Prop) : FWO C0 Tryd.f21.ntmps (LTab.look []) 0 Tryd.f21 (argsOf [.sl shS] (p, ())) K =
  dmd (!p.length.beq 0) (dmd (((0 + p.length) * 40).ble 140737488355328) ((0 = 0 ∧ 0 + p.length = ((List.replicate 0 (Sh.dft shS)).append p).length) ∧ K [] (some ⟨shS, (List.replicate 0 (Sh.dft shS)).append p⟩))) := by kernel_rfl
set_option maxRecDepth 20000 in
theorem cloS_ok : COK Tryd.prog GL 21 (conV [.v (.sl shS)] cloSF) := conV_ok fun xs _ hc => by
  obtain ⟨p, ⟨⟩⟩ := xs
  obtain ⟨h1, h2, _⟩ := hc
  have h2 : List.length p ≤ 1000000 := Nat.le_of_ble_eq_true h2
  refine ⟨shS, p, rfl, rfl, ?_⟩
  refine PCW_of_fw (np := 0) (l := []) (o := some ⟨shS, p⟩) (t := []) shA_ok C0_ok mixed Tryd.func21 (c := Tryd.f21.body.getD .skip) rfl (by kernel_rfl) (by kernel_rfl) loopsNil (fun v hv => by cases hv) ((fwCloS p _).mpr ?_)
  exact dmd_of h1 (dmd_of (bleT (by omega)) ⟨⟨rfl, Nat.zero_add _⟩, rfl, rfl⟩)
noncomputable def E0c : CTab := (14, conA [.v numS, .v i64S, .v i64S, .v (.sl u8S)] fun xs => .dem (Nat.ble (List.length xs.2.2.2.1) 140737488355328) (.ret (.tup [.val (.sl shS) (splO xs.1 xs.2.1 xs.2.2.1 xs.2.2.2.1), .val i64S (splE xs.1 xs.2.1 xs.2.2.1 xs.2.2.2.1)]))) :: (16, conA [.v (.sl shS), .v i64S] fun xs => .ret (.tup [.val numS (atX xs.1 xs.2.1), .val i64S (chkE xs.1 xs.2.1)])) :: (21, conV [.v (.sl shS)] cloSF) :: (22, conT [numS, numS] Lb.addLF) :: []
noncomputable abbrev E0 : Go.Ty.Cx := mkX Tryd.prog GL shA E0c
theorem E0_ok : ∀ p ∈ E0c, COK Tryd.prog GL p.1 p.2 := CCons split_ok (CCons atS_ok (CCons cloS_ok (CCons Lb.addL_ok CNil)))
def five : Num := (List.replicate 4 0#64).set 0 5#64
set_option maxRecDepth 100000 in
theorem fwShares (P : SV → Prop) : FW E0 Tryd.f17.ntmps (LTab.look []) Tryd.f17 (argsOf [] ()) P =
  ifB (decide (splE five 1 1 [] = 0)) (P (.av (.val .bool (decide (((splO five 1 1 []).length : Int) = 1))))) (P (.av (.val .bool false))) := by kernel_rfl
theorem five_val : valN five = 5 := by decide
theorem five_E : splE five 1 1 [] = 0 := by
  have h : (argB 1 1 || decide (0 ≤ Lb.cmpI (valN five) (valN LW))) = false := by
    unfold argB LW
    rw [five_val, decFa (fun c => ((cmp_L 5).1 c) (by rw [Lb.LL_eq]; decide))]
    decide
  unfold splE
  rw [h]; rfl
theorem shares_pc : PC (bx Tryd.prog GL) 17 (argsOf [] ()) (.av (.val .bool true)) :=
  PC_of_fw (t := []) (ct := E0c) (st := shA) (c := Tryd.f17.body.getD .skip) shA_ok E0_ok mixed Tryd.func17 rfl (by kernel_rfl) (by kernel_rfl) loopsNil rfl ((fwShares _).mpr (by
    have hl : (splO five 1 1 []).length = 1 := by
      unfold splO
      rw [five_E]
      exact oW_len _ _ _ _
    rw [hl, five_E]
    exact ifB_dec (fun _ => rfl) (fun c => absurd rfl c)))
theorem shares_ok : COK Tryd.prog GL 17 (conT [] fun _ => .av (.val .bool true)) := conT_ok (fun _ _ => shares_pc) (fun _ => rfl)
noncomputable def E1c : CTab := (17, conT [] fun _ => .av (.val .bool true)) :: E0c
noncomputable abbrev E1 : Go.Ty.Cx := mkX Tryd.prog GL shA E1c
theorem E1_ok : ∀ p ∈ E1c, COK Tryd.prog GL p.1 p.2 := CCons shares_ok E0_ok
abbrev Ism : List It := [.v 0 (.sl shS), .v 1 i64S, .v 2 i64S, .v 28 (.sl shS), .v 29 i64S, .v 30 i64S]
abbrev osm : List (Nat × List It) := [(0, [.v 0 (.sl shS), .v 1 i64S, .v 2 i64S])]
noncomputable def Qsm : LQ Ism [.v 6 .bool] osm := fun z Kr Kx => ∃ (l : List Shr) (x a : Int), z = (l, x, a, l, ((l.length : Nat) : Int), (0 : Int), ()) ∧ l.length ≤ 5 ∧ Kr (true, ()) ∧ ((∀ i, i < l.length → Xi l i ≠ a) → Kx.1 (l, x, a, ()))
noncomputable def bsm : Code := Tryd.f6.body.getD .skip
noncomputable abbrev Lsm : LTab := [(6, ptL Ism [.v 6 .bool] osm Qsm)]
theorem roundsm (l : List Shr) (x a : Int) (l1 : List Shr) (m i : Int) (Kn : HI Ism → Prop) (Kr : HI [.v 6 .bool] → Prop) (Kx : HP osm) : roundT (W E1 Tryd.f6.ntmps (LTab.look Lsm) (bodyAt bsm 6)) Ism [.v 6 .bool] osm (l, x, a, l1, m, i, ()) Kn Kr Kx =
 (  ifB (decide (i < m))
 (dmd (decide (0 ≤ i) && decide (i < ((l1.length : Nat) : Int)))
 (ifB (decide ((rd ((Sh.int IntKind.i64).pair ((Sh.arr 4 (Sh.int IntKind.u64)).pair Sh.unit)) l1 i.toNat).1 = a))
 (Kr (true, PUnit.unit)) (Kn (l, x, a, l1, m, IntKind.i64.wrap (i + 1), PUnit.unit))))
 (Kx.1 (l, x, a, PUnit.unit))) := by kernel_rfl
theorem fwShareM (l : Sh.T (.sl shS)) (x : Sh.T (i64S)) (a : Sh.T (i64S)) (P : SV → Prop) : FW E1 Tryd.f6.ntmps (LTab.look Lsm) Tryd.f6 (argsOf [.sl shS, i64S, i64S] (l, x, a, ())) P =
 (  ifB (decide (5 < (((List.length l) : Nat) : Int))) (P (SV.av (AV.val Sh.bool true)))
 (ifB (decide (a < 1)) (P (SV.av (AV.val Sh.bool true)))
 (ifB (decide (255 < a)) (P (SV.av (AV.val Sh.bool true)))
 (Qsm (l, x, a, l, (((List.length l) : Nat) : Int), 0, PUnit.unit) (fun x => P (SV.av (AV.val Sh.bool x.1)))
 (fun x =>
 ifB (!decide (chkE x.1 x.2.1 = 0)) (P (SV.av (AV.val Sh.bool !decide (chkE x.1 x.2.1 = 0))))
 (ifB (!decide (chkE x.1 x.2.2.1 = 0)) (P (SV.av (AV.val Sh.bool !decide (chkE x.1 x.2.1 = 0))))
 (dmd (!(List.length x.1).beq 0)
 (dmd ((List.length x.1).ble 1000000)
 (dmd
 ((List.length x.1).beq (List.length x.1) &&
 ((List.length x.1 +
 (List.take 1
 (List.drop 0
 ((List.replicate 1 (Sh.dft shS)).set 0
 (x.2.2.1, atX x.1 x.2.2.1, PUnit.unit)))).length) *
 40).ble
 140737488355328)
 (ifB
 (decide
 (chkE
 (List.take
 (List.length x.1 +
 (List.take 1
 (List.drop 0
 ((List.replicate 1 (Sh.dft shS)).set 0
 (x.2.2.1, atX x.1 x.2.2.1, PUnit.unit)))).length)
 (List.drop 0
 (List.append x.1
 (List.take 1
 (List.drop 0
 ((List.replicate 1 (Sh.dft shS)).set 0
 (x.2.2.1, atX x.1 x.2.2.1, PUnit.unit)))))))
 x.2.1 =
 0))
 (P
 (SV.av
 (AV.val Sh.bool
 (teq (Sh.arr 4 (Sh.int IntKind.u64)) (atX x.1 x.2.1)
 (atX
 (List.take
 (List.length x.1 +
 (List.take 1
 (List.drop 0
 ((List.replicate 1 (Sh.dft shS)).set 0
 (x.2.2.1, atX x.1 x.2.2.1, PUnit.unit)))).length)
 (List.drop 0
 (List.append x.1
 (List.take 1
 (List.drop 0
 ((List.replicate 1 (Sh.dft shS)).set 0
 (x.2.2.1, atX x.1 x.2.2.1, PUnit.unit)))))))
 x.2.1)))))
 (P (SV.av (AV.val Sh.bool false)))))))),
 PUnit.unit))))) := by kernel_rfl
theorem loopsm : ∀ z Kr Kx, Qsm z Kr Kx → ∃ n, untl (W E1 Tryd.f6.ntmps (LTab.look Lsm) (bodyAt bsm 6)) Ism [.v 6 .bool] osm n z Kr Kx := by
  rintro z Kr Kx ⟨l, x, a, ez, hl, hr, hn⟩
  rw [ez]
  cases hf : firstN (fun i => decide (Xi l i = a)) l.length with
  | some j =>
    obtain ⟨h1, h2, h3⟩ := first_some hf
    refine untl_up (F := W E1 Tryd.f6.ntmps (LTab.look Lsm) (bodyAt bsm 6)) (l := Ism) (lr := [.v 6 .bool]) (lx := osm) (Kr := Kr) (Kx := Kx) (st := fun i => (l, x, a, l, ((l.length : Nat) : Int), (i : Int), ())) j (fun i hi Kn hK => ?_) (fun Kn => ?_)
    · refine (roundsm _ _ _ _ _ _ Kn Kr Kx).mpr ?_
      rw [i64w (a := (i : Int) + 1) (n := i + 1) (by omega) (by omega), Int.toNat_natCast]
      exact ifB_dec (fun _ => dmd_of (inB (by omega)) (ifB_dec (fun c => absurd c (of_decide_eq_false (h3 i hi))) (fun _ => hK))) (fun c => absurd (show (i : Int) < ((l.length : Nat) : Int) by omega) c)
    · refine (roundsm _ _ _ _ _ _ Kn Kr Kx).mpr ?_
      rw [Int.toNat_natCast]
      exact ifB_dec (fun _ => dmd_of (inB h1) (ifB_dec (fun _ => hr) (fun c => absurd (of_decide_eq_true h2) c))) (fun c => absurd (show (j : Int) < ((l.length : Nat) : Int) by omega) c)
  | none =>
    have h3 := first_none hf
    refine untl_up (F := W E1 Tryd.f6.ntmps (LTab.look Lsm) (bodyAt bsm 6)) (l := Ism) (lr := [.v 6 .bool]) (lx := osm) (Kr := Kr) (Kx := Kx) (st := fun i => (l, x, a, l, ((l.length : Nat) : Int), (i : Int), ())) l.length (fun i hi Kn hK => ?_) (fun Kn => ?_)
    · refine (roundsm _ _ _ _ _ _ Kn Kr Kx).mpr ?_
      rw [i64w (a := (i : Int) + 1) (n := i + 1) (by omega) (by omega), Int.toNat_natCast]
      exact ifB_dec (fun _ => dmd_of (inB hi) (ifB_dec (fun c => absurd c (of_decide_eq_false (h3 i hi))) (fun _ => hK))) (fun c => absurd (show (i : Int) < ((l.length : Nat) : Int) by omega) c)
    · refine (roundsm _ _ _ _ _ _ Kn Kr Kx).mpr ?_
      exact ifB_dec (fun c => absurd c (by omega)) (fun _ => hn fun i hi => of_decide_eq_false (h3 i hi))
theorem rd_app1 {l : List Shr} {s : Shr} {i : Nat} (h : i < l.length) : rd shS (l ++ [s]) i = rd shS l i := by
  rw [rd_at (by rw [List.length_append]; show i < l.length + 1; omega), rd_at h, List.getElem_append_left h]
theorem rd_app2 {l : List Shr} {s : Shr} : rd shS (l ++ [s]) l.length = s := by
  rw [rd_at (by rw [List.length_append]; show l.length < l.length + 1; omega), List.getElem_append_right (Nat.le_refl _)]
  simp
theorem good_app {l : List Shr} {s : Shr} (h : GoodP l) (h1 : 1 ≤ s.1) (h2 : (s.1 : Int) ≤ 255) (h3 : valN s.2.1 < Lb.LL) (h4 : ∀ i, i < l.length → Xi l i ≠ s.1) : GoodP (l ++ [s]) := by
  have hlen : (l ++ [s]).length = l.length + 1 := List.length_append
  refine ⟨fun i hi => ?_, fun i j hij hj => ?_⟩
  · by_cases e : i < l.length
    · unfold Xi Yi; rw [rd_app1 e]; exact h.1 i e
    · have e : i = l.length := by omega
      subst e
      unfold Xi Yi; rw [rd_app2]; exact ⟨h1, h2, h3⟩
  · by_cases e : j < l.length
    · unfold Xi; rw [rd_app1 e, rd_app1 (by omega)]; exact h.2 i j hij e
    · have e : j = l.length := by omega
      subst e
      unfold Xi; rw [rd_app2, rd_app1 hij]; exact h4 i hij
theorem at_app {l : List Shr} {a x : Int} (h : GoodP l) (hm : GoodP (l ++ [(a, wF (atF l a), ())])) : atF (l ++ [(a, wF (atF l a), ())]) x = atF l x := by
  have hlen : (l ++ [((a, wF (atF l a), ()) : Shr)]).length = l.length + 1 := List.length_append
  refine Go.Lag.lag_same fld (distX hm) (by omega) (fun i hi => ?_) _
  by_cases e : i < l.length
  · have e1 : YF (l ++ [((a, wF (atF l a), ()) : Shr)]) i = YF l i := by unfold YF Yi; rw [rd_app1 e]
    have e2 : XF (l ++ [((a, wF (atF l a), ()) : Shr)]) i = XF l i := by unfold XF Xi; rw [rd_app1 e]
    rw [e1, e2]
    exact (Go.Lag.lag_own fld (distX h) e).symm
  · have e : i = l.length := by omega
    subst e
    have e1 : YF (l ++ [((a, wF (atF l a), ()) : Shr)]) l.length = atF l a := by
      unfold YF Yi; rw [rd_app2]
      show toF (valN (wF (atF l a))) = _
      rw [val_w, toF_self]
    have e2 : XF (l ++ [((a, wF (atF l a), ()) : Shr)]) l.length = toF a.toNat := by unfold XF Xi; rw [rd_app2]
    rw [e1, e2]; rfl
theorem shareM_fw (l : List Shr) (x a : Int) : FW E1 Tryd.f6.ntmps (LTab.look Lsm) Tryd.f6 (argsOf [.sl shS, i64S, i64S] (l, x, a, ())) (fun r => r = .av (.val .bool true)) := by
  rw [fwShareM]
  refine ifB_dec (fun _ => rfl) (fun c1 => ifB_dec (fun _ => rfl) (fun c2 => ifB_dec (fun _ => rfl) (fun c3 => ?_)))
  have c1 : ¬ (5 : Int) < ((l.length : Nat) : Int) := c1
  have c2 : ¬ a < (1 : Int) := c2
  have c3 : ¬ (255 : Int) < a := c3
  refine ⟨l, x, a, rfl, by omega, rfl, fun hne => ?_⟩
  have e1 : List.take 1 (List.drop 0 ((List.replicate 1 (Sh.dft shS)).set 0 (a, atX l a, PUnit.unit))) = [((a, atX l a, ()) : Shr)] := rfl
  show ifB (!decide (chkE l x = 0)) (SV.av (.val .bool (!decide (chkE l x = 0))) = SV.av (.val .bool true)) (ifB (!decide (chkE l a = 0)) (SV.av (.val .bool (!decide (chkE l x = 0))) = SV.av (.val .bool true)) (dmd (!l.length.beq 0) (dmd (l.length.ble 1000000)
    (dmd (l.length.beq l.length && ((l.length + (List.take 1 (List.drop 0 ((List.replicate 1 (Sh.dft shS)).set 0 (a, atX l a, PUnit.unit)))).length) * 40).ble 140737488355328)
      (ifB (decide (chkE (List.take (l.length + (List.take 1 (List.drop 0 ((List.replicate 1 (Sh.dft shS)).set 0 (a, atX l a, PUnit.unit)))).length) (List.drop 0 (l.append (List.take 1 (List.drop 0 ((List.replicate 1 (Sh.dft shS)).set 0 (a, atX l a, PUnit.unit))))))) x = 0))
        (SV.av (.val .bool (teq numS (atX l x) (atX (List.take (l.length + (List.take 1 (List.drop 0 ((List.replicate 1 (Sh.dft shS)).set 0 (a, atX l a, PUnit.unit)))).length) (List.drop 0 (l.append (List.take 1 (List.drop 0 ((List.replicate 1 (Sh.dft shS)).set 0 (a, atX l a, PUnit.unit))))))) x))) = SV.av (.val .bool true))
        (SV.av (.val .bool false) = SV.av (.val .bool true)))))))
  rw [e1]
  have e2 : List.take (l.length + ([((a, atX l a, ()) : Shr)]).length) (List.drop 0 (l.append [((a, atX l a, ()) : Shr)])) = l ++ [((a, atX l a, ()) : Shr)] := drop0_take (l ++ [((a, atX l a, ()) : Shr)]) _ List.length_append.symm
  rw [e2]
  refine ifB_neg (fun c => pbool (by rw [decFa c]; rfl)) (fun c => ?_)
  obtain ⟨g1, g2, ⟨g3, g5⟩, g4⟩ := chk_0 c
  have hca : chkE l a = 0 := chk_of g1 g2 (by omega) (by omega) g4
  have hX : atX l a = wF (atF l a) := by unfold atX; rw [decTr hca]; rfl
  rw [hX]
  have hm : GoodP (l ++ [((a, wF (atF l a), ()) : Shr)]) := good_app g4 (show (1 : Int) ≤ a by omega) (show a ≤ (255 : Int) by omega) (show valN (wF (atF l a)) < Lb.LL by rw [val_w]; exact (atF l a).isLt) hne
  have hcm : chkE (l ++ [((a, wF (atF l a), ()) : Shr)]) x = 0 := chk_of (by rw [List.length_append]; show l.length + 1 ≤ 20; omega) (by rw [List.length_append]; show 0 < l.length + 1; omega) g3 g5 hm
  have hXm : atX (l ++ [((a, wF (atF l a), ()) : Shr)]) x = wF (atF l x) := by unfold atX; rw [decTr hcm, at_app g4 hm]; rfl
  have hXl : atX l x = wF (atF l x) := by unfold atX; rw [decTr c]; rfl
  refine ifB_neg (fun d => absurd hca d) (fun _ => dmd_of (by rw [beq0 (by omega)]; rfl) (dmd_of (bleT (by omega)) (dmd_of (andT (Nat.beq_refl _) (bleT (by show (l.length + 1) * 40 ≤ _; omega))) ?_)))
  exact ifB_dec (fun _ => pbool (teq_of (hXl.trans hXm.symm))) (fun d => absurd hcm d)
set_option maxRecDepth 20000 in
theorem walkShareMore (xs : HL [.sl shS, i64S, i64S]) (h : okHL [.sl shS, i64S, i64S] xs) : PC (bx Tryd.prog GL) 6 (argsOf [.sl shS, i64S, i64S] xs) (.av (.val .bool true)) := by
  obtain ⟨l, x, a, ⟨⟩⟩ := xs
  exact PC_of_fw (t := Lsm) shA_ok E1_ok mixed Tryd.func6 (c := bsm) rfl (by kernel_rfl) (by kernel_rfl) (loopsOK (by kernel_rfl) (LTCons (loop_of shA_ok E1_ok mixed (loopsOK (by kernel_rfl) (LTCons (noLoop (by kernel_rfl)) LTNil)) (by kernel_rfl) loopsm) LTNil)) rfl (shareM_fw l x a)
end Go.Proofs.YtghmfiandllpfaaDoor
