import Derived.Test.YtghmfiandllpfaaDoorSm
import Derived.Test.YtghmfiandllpfaaDoorSv
namespace Go.Proofs.YtghmfiandllpfaaDoor
open Go.Ty
noncomputable abbrev Zg : Go.Ty.Cx := mkXg Tryd.prog GL shA []
theorem fwClzN (P : SV → Prop) : FW Zg Tryd.f21.ntmps (LTab.look []) Tryd.f21 [.av (.cell .nilS)] P =
 (  P (SV.av (AV.cell Cel.nilS))) := by kernel_rfl
theorem fwClzE (P : SV → Prop) : FW Zg Tryd.f21.ntmps (LTab.look []) Tryd.f21 [.av (.cell .emp)] P =
 (  P (SV.av (AV.cell Cel.z0))) := by kernel_rfl
set_option maxRecDepth 20000 in
theorem clo0_ok : COK Tryd.prog GL 21 (conA [.v (.sl shS)] fun xs => .dem (Nat.beq (List.length xs.1) 0) (.ret (.av (.cell .z0)))) :=
  conA_ok (fun xs _ hc => by
    obtain ⟨p, ⟨⟩⟩ := xs
    have h0 : p = [] := List.length_eq_zero_iff.1 (Nat.eq_of_beq_eq_true hc.1)
    subst h0
    show PC (bx Tryd.prog GL) 21 [.av (.val (.sl shS) [])] (.av (.cell .z0))
    refine PC_none [] ?_ ?_
    · exact PC_of_fwGK (t := []) (K := fun r => r = .av (.cell .nilS) ∨ r = .av (.cell .z0)) shA_ok CNil mixed Tryd.func21 (c := Tryd.f21.body.getD .skip) rfl (by kernel_rfl) (by kernel_rfl) loopsNil rfl (fun _ h M u k => z0_svr h M u k) ((fwClzN _).mpr (.inl rfl))
    · exact PC_of_fwGK (t := []) (K := fun r => r = .av (.cell .nilS) ∨ r = .av (.cell .z0)) shA_ok CNil mixed Tryd.func21 (c := Tryd.f21.body.getD .skip) rfl (by kernel_rfl) (by kernel_rfl) loopsNil rfl (fun _ h M u k => z0_svr h M u k) ((fwClzE _).mpr (.inr rfl))) (fun _ => rfl)
noncomputable def F0c : CTab := (21, conA [.v (.sl shS)] fun xs => .dem (Nat.beq (List.length xs.1) 0) (.ret (.av (.cell .z0)))) :: (16, conA [.v (.sl shS), .v i64S] fun xs => .ret (.tup [.val numS (atX xs.1 xs.2.1), .val i64S (chkE xs.1 xs.2.1)])) :: []
noncomputable abbrev F0 : Go.Ty.Cx := mkX Tryd.prog GL shA F0c
theorem F0_ok : ∀ p ∈ F0c, COK Tryd.prog GL p.1 p.2 := CCons clo0_ok (CCons atS_ok CNil)
noncomputable def F1c : CTab := (21, conV [.v (.sl shS)] cloSF) :: (16, conA [.v (.sl shS), .v i64S] fun xs => .ret (.tup [.val numS (atX xs.1 xs.2.1), .val i64S (chkE xs.1 xs.2.1)])) :: []
noncomputable abbrev F1 : Go.Ty.Cx := mkX Tryd.prog GL shA F1c
theorem F1_ok : ∀ p ∈ F1c, COK Tryd.prog GL p.1 p.2 := CCons cloS_ok (CCons atS_ok CNil)
theorem fwFewE (y : Ar.T (.v numS)) (l : Ar.T (.f (.sl shS))) (x : Ar.T (.f i64S)) (P : SV → Prop) : FW F0 Tryd.f20.ntmps (LTab.look []) Tryd.f20 (argsA [.v numS, .f (.sl shS), .f i64S] (y, l, x, ())) P =
 (  dmd ((List.length l).beq 0)
 (ifB
 ((List.take 1
 (List.drop 0
 ((List.replicate 1 (Sh.dft shS)).set 0 (x, y, PUnit.unit)))).length.beq
 0)
 (P (SV.tup [AV.val (Sh.arr 4 (Sh.int IntKind.u64)) (atX [] 0), AV.val (Sh.int IntKind.i64) (chkE [] 0)]))
 (dmd
 (((List.take 1
 (List.drop 0
 ((List.replicate 1 (Sh.dft shS)).set 0 (x, y, PUnit.unit)))).length *
 40).ble
 140737488355328)
 (P
 (SV.tup
 [AV.val (Sh.arr 4 (Sh.int IntKind.u64))
 (atX
 (List.take
 (List.take 1
 (List.drop 0
 ((List.replicate 1 (Sh.dft shS)).set 0 (x, y, PUnit.unit)))).length
 (List.drop 0
 (List.take 1
 (List.drop 0
 ((List.replicate 1 (Sh.dft shS)).set 0 (x, y, PUnit.unit))))))
 0),
 AV.val (Sh.int IntKind.i64)
 (chkE
 (List.take
 (List.take 1
 (List.drop 0
 ((List.replicate 1 (Sh.dft shS)).set 0 (x, y, PUnit.unit)))).length
 (List.drop 0
 (List.take 1
 (List.drop 0
 ((List.replicate 1 (Sh.dft shS)).set 0 (x, y, PUnit.unit))))))
 0)]))))) := by kernel_rfl
theorem fwFewN (y : Ar.T (.v numS)) (l : Ar.T (.f (.sl shS))) (x : Ar.T (.f i64S)) (P : SV → Prop) : FW F1 Tryd.f20.ntmps (LTab.look []) Tryd.f20 (argsA [.v numS, .f (.sl shS), .f i64S] (y, l, x, ())) P =
 (  dmd (!(List.length l).beq 0)
 (dmd ((List.length l).ble 1000000)
 (dmd
 ((List.length l).beq (List.length l) &&
 ((List.length l +
 (List.take 1
 (List.drop 0
 ((List.replicate 1 (Sh.dft shS)).set 0 (x, y, PUnit.unit)))).length) *
 40).ble
 140737488355328)
 (P
 (SV.tup
 [AV.val (Sh.arr 4 (Sh.int IntKind.u64))
 (atX
 (List.take
 (List.length l +
 (List.take 1
 (List.drop 0
 ((List.replicate 1 (Sh.dft shS)).set 0 (x, y, PUnit.unit)))).length)
 (List.drop 0
 (List.append l
 (List.take 1
 (List.drop 0
 ((List.replicate 1 (Sh.dft shS)).set 0 (x, y, PUnit.unit)))))))
 0),
 AV.val (Sh.int IntKind.i64)
 (chkE
 (List.take
 (List.length l +
 (List.take 1
 (List.drop 0
 ((List.replicate 1 (Sh.dft shS)).set 0 (x, y, PUnit.unit)))).length)
 (List.drop 0
 (List.append l
 (List.take 1
 (List.drop 0
 ((List.replicate 1 (Sh.dft shS)).set 0 (x, y, PUnit.unit)))))))
 0)]))))) := by kernel_rfl
noncomputable def fewR (l : List Shr) (x : Int) (y : Num) : SV := .tup [.val numS (atX (wth l x y) 0), .val i64S (chkE (wth l x y) 0)]
set_option maxRecDepth 20000 in
theorem few1_ok : COK Tryd.prog GL 20 (conA [.v numS, .f (.sl shS), .f i64S] fun xs => .dem (Nat.ble (List.length xs.2.1) 1000) (.ret (.tup [.val numS (atX (wth xs.2.1 xs.2.2.1 xs.1) 0), .val i64S (chkE (wth xs.2.1 xs.2.2.1 xs.1) 0)]))) :=
  conA_ok (fun xs _ hc => by
    obtain ⟨y, l, x, ⟨⟩⟩ := xs
    have hl : List.length l ≤ 1000 := Nat.le_of_ble_eq_true hc.1
    show PC (bx Tryd.prog GL) 20 (argsA [.v numS, .f (.sl shS), .f i64S] (y, l, x, ())) (fewR l x y)
    by_cases h0 : l = []
    · subst h0
      refine PC_of_fw (t := []) shA_ok F0_ok mixed Tryd.func20 (c := Tryd.f20.body.getD .skip) rfl (by kernel_rfl) (by kernel_rfl) loopsNil rfl ((fwFewE y [] x _).mpr ?_)
      rw [one_set]
      exact dmd_of rfl (ifB_of (fun c => absurd (show false = true from c) (by decide)) (fun _ => dmd_of rfl rfl))
    · have h1 : List.length l ≠ 0 := fun h => h0 (List.length_eq_zero_iff.1 h)
      refine PC_of_fw (t := []) shA_ok F1_ok mixed Tryd.func20 (c := Tryd.f20.body.getD .skip) rfl (by kernel_rfl) (by kernel_rfl) loopsNil rfl ((fwFewN y l x _).mpr ?_)
      rw [one_set]
      have e : List.take (List.length l + [((x, y, ()) : Shr)].length) (List.drop 0 (List.append l [((x, y, ()) : Shr)])) = wth l x y := drop0_take (wth l x y) _ (wth_len l x y).symm
      refine dmd_of (by rw [beq0 h1]; rfl) (dmd_of (bleT (by omega)) (dmd_of (andT (Nat.beq_refl _) (bleT (by show (List.length l + 1) * 40 ≤ _; omega))) ?_))
      show SV.tup [.val numS (atX (List.take (List.length l + [((x, y, ()) : Shr)].length) (List.drop 0 (List.append l [((x, y, ()) : Shr)]))) 0), .val i64S (chkE (List.take (List.length l + [((x, y, ()) : Shr)].length) (List.drop 0 (List.append l [((x, y, ()) : Shr)]))) 0)] = fewR l x y
      rw [e]; rfl) (fun _ => rfl)
noncomputable def F2c : CTab := (20, conA [.v numS, .f (.sl shS), .f i64S] fun xs => .dem (Nat.ble (List.length xs.2.1) 1000) (.ret (.tup [.val numS (atX (wth xs.2.1 xs.2.2.1 xs.1) 0), .val i64S (chkE (wth xs.2.1 xs.2.2.1 xs.1) 0)]))) :: (17, conT [] fun _ => .av (.val .bool true)) :: (19, conT [] fun _ => .av (.val numS (wordsN 4 Lb.LL))) :: (18, conT [numS, numS] Lb.cmpF) :: (22, conT [numS, numS] Lb.addLF) :: (23, conT [numS] Lb.negLF) :: (24, conT [numS, numS] Lb.mulLF) :: (25, conT [numS] Lb.invLF) :: []
noncomputable abbrev F2 : Go.Ty.Cx := mkX Tryd.prog GL shA F2c
theorem F2_ok : ∀ p ∈ F2c, COK Tryd.prog GL p.1 p.2 := CCons few1_ok (CCons shares_ok (CCons Lb.L_ok (CCons Lb.cmp_ok (CCons Lb.addL_ok (CCons Lb.negL_ok (CCons Lb.mulL_ok (CCons Lb.invL_ok CNil)))))))
theorem fwFew (l : Sh.T (.sl shS)) (x : Sh.T (i64S)) (s : Sh.T (numS)) (P : SV → Prop) : FW F2 Tryd.f4.ntmps (LTab.look []) Tryd.f4 (argsOf [.sl shS, i64S, numS] (l, x, s, ())) P =
 (  ifB (decide (5 < (((List.length l) : Nat) : Int))) (P (SV.av (AV.val Sh.bool true)))
 (ifB (decide (0 ≤ Lb.cmpI (valN s) (valN (wordsN 4 Lb.LL)))) (P (SV.av (AV.val Sh.bool true)))
 (dmd ((List.length l).ble 1000)
 (dmd ((List.length l).ble 1000)
 (ifB (!decide (chkE (wth l x (List.replicate 4 0#64)) 0 = 0))
 (P
 (SV.av
 (AV.val Sh.bool
 (decide
 (chkE (wth l x (List.replicate 4 0#64)) 0 = chkE (wth l x ((List.replicate 4 0#64).set 0 1#64)) 0)))))
 (ifB (!decide (chkE (wth l x ((List.replicate 4 0#64).set 0 1#64)) 0 = 0))
 (P
 (SV.av
 (AV.val Sh.bool
 (decide
 (chkE (wth l x (List.replicate 4 0#64)) 0 =
 chkE (wth l x ((List.replicate 4 0#64).set 0 1#64)) 0)))))
 (dmd ((List.length l).ble 1000)
 (ifB
 (!teq (Sh.arr 4 (Sh.int IntKind.u64))
 (wordsN 4
 ((valN (atX (wth l x ((List.replicate 4 0#64).set 0 1#64)) 0) +
 valN (wordsN 4 ((Lb.LL - valN (atX (wth l x (List.replicate 4 0#64)) 0) % Lb.LL) % Lb.LL))) %
 Lb.LL))
 (List.replicate 4 0#64))
 (ifB
 (decide
 (chkE
 (wth l x
 (wordsN 4
 (valN
 (wordsN 4
 ((valN s +
 valN
 (wordsN 4
 ((Lb.LL - valN (atX (wth l x (List.replicate 4 0#64)) 0) % Lb.LL) %
 Lb.LL))) %
 Lb.LL)) *
 valN
 (wordsN 4
 (Lb.invN
 (valN
 (wordsN 4
 ((valN (atX (wth l x ((List.replicate 4 0#64).set 0 1#64)) 0) +
 valN
 (wordsN 4
 ((Lb.LL - valN (atX (wth l x (List.replicate 4 0#64)) 0) % Lb.LL) %
 Lb.LL))) %
 Lb.LL)))
 Lb.LL)) %
 Lb.LL)))
 0 =
 0))
 (P
 (SV.av
 (AV.val Sh.bool
 (teq (Sh.arr 4 (Sh.int IntKind.u64))
 (atX
 (wth l x
 (wordsN 4
 (valN
 (wordsN 4
 ((valN s +
 valN
 (wordsN 4
 ((Lb.LL - valN (atX (wth l x (List.replicate 4 0#64)) 0) % Lb.LL) %
 Lb.LL))) %
 Lb.LL)) *
 valN
 (wordsN 4
 (Lb.invN
 (valN
 (wordsN 4
 ((valN (atX (wth l x ((List.replicate 4 0#64).set 0 1#64)) 0) +
 valN
 (wordsN 4
 ((Lb.LL -
 valN (atX (wth l x (List.replicate 4 0#64)) 0) % Lb.LL) %
 Lb.LL))) %
 Lb.LL)))
 Lb.LL)) %
 Lb.LL)))
 0)
 s))))
 (P (SV.av (AV.val Sh.bool false))))
 (P (SV.av (AV.val Sh.bool false))))))))))) := by kernel_rfl
theorem cF_wF (a : FL) : cF (wF a) = a := by unfold cF; rw [val_w, toF_self]
theorem subF (a b : FL) : wordsN 4 ((valN (wF a) + valN (wordsN 4 ((Lb.LL - valN (wF b) % Lb.LL) % Lb.LL))) % Lb.LL) = wF (a - b) := by
  have h := subW (m := a.val) (k := b.val) (Nat.lt_trans a.isLt LL_256) (Nat.lt_trans b.isLt LL_256)
  rw [toF_self, toF_self] at h
  exact h
theorem few_fw (l : List Shr) (x : Int) (s : Num) (hw : numS.wfT s) : FW F2 Tryd.f4.ntmps (LTab.look []) Tryd.f4 (argsOf [.sl shS, i64S, numS] (l, x, s, ())) (fun r => r = .av (.val .bool true)) := by
  rw [fwFew]
  refine ifB_dec (fun _ => rfl) (fun c1 => ifB_dec (fun _ => rfl) (fun c2 => ?_))
  have c1 : ¬ (5 : Int) < ((l.length : Nat) : Int) := c1
  have hs : valN s < Lb.LL := Decidable.byContradiction fun c => c2 ((cmp_L _).2 c)
  have hl : Nat.ble (List.length l) 1000 = true := bleT (by omega)
  refine dmd_of hl (dmd_of hl ?_)
  obtain ⟨S, c, hS⟩ := wth_at l x
  have vlt : ∀ a : FL, valN (wF a) < Lb.LL := fun a => by rw [val_w]; exact a.isLt
  have hc01 : chkE (wth l x (wF 0)) 0 = chkE (wth l x (wF 1)) 0 := wth_chk (by omega) (vlt 0) (vlt 1)
  rw [w_one, w_zero]
  refine ifB_neg (fun _ => pbool (decTr hc01)) (fun h0 => ifB_neg (fun _ => pbool (decTr hc01)) (fun h1 => dmd_of hl ?_))
  obtain ⟨hc, a0⟩ := hS _ h0
  obtain ⟨_, a1⟩ := hS _ h1
  have a0 : atX (wth l x (wF 0)) 0 = wF S := by rw [a0, cF_wF]; congr 1; grind
  have a1 : atX (wth l x (wF 1)) 0 = wF (S + c) := by rw [a1, cF_wF]; congr 1; grind
  have e1 : (S + c) - S = c := by grind
  rw [a0, a1, subF, e1]
  have es : s = wF (cF s) := (wF_cF hs hw).symm
  have esub : wordsN 4 ((valN s + valN (wordsN 4 ((Lb.LL - valN (wF S) % Lb.LL) % Lb.LL))) % Lb.LL) = wF (cF s - S) := by
    have h := subF (cF s) S
    rw [← es] at h; exact h
  rw [esub, invW, mulW]
  have hk : chkE (wth l x (wF ((cF s - S) * iv c))) 0 = 0 := (wth_chk (by omega) (vlt _) (vlt 0)).trans h0
  have hv : atX (wth l x (wF ((cF s - S) * iv c))) 0 = s := by
    rw [(hS _ hk).2, cF_wF]
    have hi := fld.2 c hc
    have e2 : S + (cF s - S) * iv c * c = cF s := by
      have : (cF s - S) * iv c * c = (cF s - S) * (c * iv c) := by grind
      rw [this, hi]; grind
    rw [e2]; exact es.symm
  have hne : teq numS (wF c) (wF 0) = false := teq_ne fun e => hc (by
    have := congrArg cF e
    rw [cF_wF, cF_wF] at this; exact this)
  refine ifB_of (fun _ => ?_) (fun d => ?_)
  · exact ifB_dec (fun _ => pbool (teq_of hv)) (fun d => absurd hk d)
  · have d : (!teq numS (wF c) (wF 0)) = false := d
    rw [hne] at d; cases d
set_option maxRecDepth 20000 in
theorem walkShareFew (xs : HL [.sl shS, i64S, numS]) (h : okHL [.sl shS, i64S, numS] xs) : PC (bx Tryd.prog GL) 4 (argsOf [.sl shS, i64S, numS] xs) (.av (.val .bool true)) := by
  obtain ⟨l, x, s, ⟨⟩⟩ := xs
  exact PC_of_fw (t := []) shA_ok F2_ok mixed Tryd.func4 (c := Tryd.f4.body.getD .skip) rfl (by kernel_rfl) (by kernel_rfl) loopsNil rfl (few_fw l x s ⟨h.2.2.1.1, fun _ _ => trivial⟩)
end Go.Proofs.YtghmfiandllpfaaDoor
