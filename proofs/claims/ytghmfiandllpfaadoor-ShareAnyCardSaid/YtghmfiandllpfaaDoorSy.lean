import Derived.Test.YtghmfiandllpfaaDoorSx
namespace Go.Proofs.YtghmfiandllpfaaDoor
open Go.Ty
theorem rd_ap1 {l : List Shr} {s : Shr} {i : Nat} (h : i < l.length) : rd shS (l ++ [s]) i = rd shS l i := by
  rw [rd_at (by rw [List.length_append]; show i < l.length + 1; omega), rd_at h, List.getElem_append_left h]
theorem rd_ap2 {l : List Shr} {s : Shr} : rd shS (l ++ [s]) l.length = s := by
  rw [rd_at (by rw [List.length_append]; show l.length < l.length + 1; omega), List.getElem_append_right (Nat.le_refl _)]
  simp
def InvC (l o : List Shr) : Prop := (∀ j, j < o.length → ∃ b, b < l.length ∧ rd shS o j = rd shS l b) ∧ ∀ p j, p < j → j < o.length → rd shS o p ≠ rd shS o j
theorem up_inv {l : List Shr} {k : Int} {d : List Int} {o : List Shr} {i : Nat} (h : InvC l o) : InvC l (upC l k d o i) := by
  unfold upC
  cases hb : okC l k d o i with
  | false => exact h
  | true =>
    obtain ⟨b1, b2⟩ := andB hb
    obtain ⟨b2, b3⟩ := andB b2
    obtain ⟨_, b4⟩ := andB b3
    have b1 := of_decide_eq_true b1
    have b2 := of_decide_eq_true b2
    have b4 : conB o (rd shS l (dI d i).toNat) = false := by simpa using b4
    show InvC l (o ++ [rd shS l (dI d i).toNat])
    refine ⟨fun j hj => ?_, fun p j hpj hj => ?_⟩
    · by_cases e : j < o.length
      · rw [rd_ap1 e]; exact h.1 j e
      · have hj : j < o.length + 1 := by rw [List.length_append] at hj; exact hj
        have e : j = o.length := by omega
        subst e
        rw [rd_ap2]; exact ⟨(dI d i).toNat, by omega, rfl⟩
    · by_cases e : j < o.length
      · rw [rd_ap1 e, rd_ap1 (by omega)]; exact h.2 p j hpj e
      · have hj : j < o.length + 1 := by rw [List.length_append] at hj; exact hj
        have e : j = o.length := by omega
        subst e
        rw [rd_ap2, rd_ap1 hpj]; exact conB_no b4 hpj
theorem ch_inv (l : List Shr) (k : Int) (d : List Int) : ∀ i, InvC l (chL l k d i)
  | 0 => ⟨fun _ h => absurd h (Nat.not_lt_zero _), fun _ _ _ h => absurd h (Nat.not_lt_zero _)⟩
  | i + 1 => up_inv (ch_inv l k d i)
theorem inv_good {l o : List Shr} (h : InvC l o) (hg : GoodP l) : GoodP o := by
  refine ⟨fun i hi => ?_, fun i j hij hj e => ?_⟩
  · obtain ⟨b, h1, h2⟩ := h.1 i hi
    unfold Xi Yi; rw [h2]; exact hg.1 b h1
  · obtain ⟨b, h1, h2⟩ := h.1 i (by omega)
    obtain ⟨c, h3, h4⟩ := h.1 j hj
    have hne := h.2 i j hij hj
    rw [h2, h4] at hne
    have e : Xi l b = Xi l c := by
      have e1 : Xi o i = Xi l b := by unfold Xi; rw [h2]
      have e2 : Xi o j = Xi l c := by unfold Xi; rw [h4]
      rw [← e1, ← e2]; exact e
    rcases Nat.lt_trichotomy b c with q | q | q
    · exact hg.2 b c q h3 e
    · exact hne (by rw [q])
    · exact hg.2 c b q h1 e.symm
theorem any_at {a : Num} {k n : Int} {sd : List (BitVec 8)} {o : List Shr} (h : splE a k n sd = 0) (hi : InvC (splO a k n sd) o) (h20 : o.length ≤ 20) (hk : k.toNat ≤ o.length) {x : Int} (h0 : 0 ≤ x) (h1 : x ≤ 255) : chkE o x = 0 ∧ atX o x = wF (Go.Lag.ev (polS a k sd) (toF x.toNat)) := by
  obtain ⟨⟨g1, g2, g3⟩, _⟩ := spl_0 h
  have hg := inv_good hi (spl_good h)
  have hc : chkE o x = 0 := chk_of h20 (by omega) h0 h1 hg
  refine ⟨hc, ?_⟩
  have hat : atF o x = Go.Lag.ev (polS a k sd) (toF x.toNat) := by
    refine Go.Lag.lag_of fld (distX hg) (by rw [polS_len g1]; exact hk) (fun i hj => ?_) _
    obtain ⟨b, hb, e⟩ := hi.1 i hj
    rw [spl_len h] at hb
    have e1 : YF o i = YF (splO a k n sd) b := by unfold YF Yi; rw [e]
    have e2 : XF o i = toF (b + 1) := by
      have e3 : Xi o i = Xi (splO a k n sd) b := by unfold Xi; rw [e]
      unfold XF; rw [e3, spl_X h hb, Int.toNat_natCast]
    rw [e1, e2]; exact spl_YF h hb
  unfold atX
  rw [hc, hat]; rfl
noncomputable def V0c : CTab := (14, conA [.v numS, .v i64S, .v i64S, .v (.sl u8S)] fun xs => .dem (Nat.ble (List.length xs.2.2.2.1) 140737488355328) (.ret (.tup [.val (.sl shS) (splO xs.1 xs.2.1 xs.2.2.1 xs.2.2.2.1), .val i64S (splE xs.1 xs.2.1 xs.2.2.1 xs.2.2.2.1)]))) :: (16, conA [.v (.sl shS), .v i64S] fun xs => .ret (.tup [.val numS (atX xs.1 xs.2.1), .val i64S (chkE xs.1 xs.2.1)])) :: (15, conA [.v (.sl shS), .v (.sl i64S), .v i64S] fun xs => .dem (Nat.ble (List.length xs.2.1) 140737488355328) (.dem (decide ((xs.2.2.1 : Int) ≤ 1000)) (.ret (.av (.val (.sl shS) (chO xs.1 xs.2.1 xs.2.2.1)))))) :: []
noncomputable abbrev V0 : Go.Ty.Cx := mkX Tryd.prog GL shA V0c
theorem V0_ok : ∀ p ∈ V0c, COK Tryd.prog GL p.1 p.2 := CCons split_ok (CCons atS_ok (CCons chos_ok CNil))
abbrev Ian : List It := [.v 13 (.sl shS), .v 61 (.sl shS), .v 62 i64S, .v 63 i64S]
noncomputable def Qan : LQ Ian [.v 10 .bool] [(0, [])] := fun z _ Kx => ∃ (o l : List Shr), z = (o, l, ((l.length : Nat) : Int), (0 : Int), ()) ∧ l.length ≤ 1000 ∧ (∀ i, i < l.length → atX o (Xi l i) = Yi l i ∧ chkE o (Xi l i) = 0) ∧ Kx.1 ()
noncomputable def ban : Code := Tryd.f3.body.getD .skip
noncomputable abbrev Lan : LTab := [(13, ptL Ian [.v 10 .bool] [(0, [])] Qan)]
theorem roundan (o l : List Shr) (m i : Int) (Kn : HI Ian → Prop) (Kr : HI [.v 10 .bool] → Prop) (Kx : HP [(0, [])]) : roundT (W V0 Tryd.f3.ntmps (LTab.look Lan) (bodyAt ban 13)) Ian [.v 10 .bool] [(0, [])] (o, l, m, i, ()) Kn Kr Kx =
 (  ifB (decide (i < m))
 (dmd (decide (0 ≤ i) && decide (i < ((l.length : Nat) : Int)))
 (ifB
 (!teq numS
 (atX o (rd shS l i.toNat).1)
 (rd shS l i.toNat).2.1)
 (Kr (false, PUnit.unit))
 (ifB
 (!decide
 (chkE o (rd shS l i.toNat).1 = 0))
 (Kr (false, PUnit.unit)) (Kn (o, l, m, IntKind.i64.wrap (i + 1), PUnit.unit)))))
 (Kx.1 PUnit.unit)) := by kernel_rfl
theorem fwShAny (a : Sh.T (numS)) (k : Sh.T (i64S)) (n : Sh.T (i64S)) (s : Sh.T (.sl u8S)) (d : Sh.T (.sl i64S)) (P : SV → Prop) : FW V0 Tryd.f3.ntmps (LTab.look Lan) Tryd.f3 (argsOf [numS, i64S, i64S, .sl u8S, .sl i64S] (a, k, n, s, d, ())) P =
 (  dmd ((List.length s).ble 140737488355328)
 (ifB (!decide (splE a k n s = 0)) (P (SV.av (AV.val Sh.bool (decide ((((splO a k n s).length : Nat) : Int) = 0)))))
 (dmd ((List.length d).ble 140737488355328)
 (dmd (decide (k ≤ 1000))
 (ifB (!decide ((((splO a k n s).length : Nat) : Int) = n)) (P (SV.av (AV.val Sh.bool false)))
 (ifB (decide ((((chO (splO a k n s) d k).length : Nat) : Int) < k)) (P (SV.av (AV.val Sh.bool true)))
 (ifB (decide (6 < k)) (P (SV.av (AV.val Sh.bool true)))
 (ifB (!teq numS (atX (chO (splO a k n s) d k) 0) a)
 (P (SV.av (AV.val Sh.bool false)))
 (ifB (!decide (chkE (chO (splO a k n s) d k) 0 = 0)) (P (SV.av (AV.val Sh.bool false)))
 (Qan (chO (splO a k n s) d k, splO a k n s, (((splO a k n s).length : Nat) : Int), 0, PUnit.unit)
 (fun x => P (SV.av (AV.val Sh.bool x.1)))
 (fun _ => P (SV.av (AV.val Sh.bool true)), PUnit.unit))))))))))) := by kernel_rfl
theorem loopan : ∀ z Kr Kx, Qan z Kr Kx → ∃ n, untl (W V0 Tryd.f3.ntmps (LTab.look Lan) (bodyAt ban 13)) Ian [.v 10 .bool] [(0, [])] n z Kr Kx := by
  rintro z Kr Kx ⟨o, l, ez, hl, hv, hK⟩
  rw [ez]
  refine untl_up (F := W V0 Tryd.f3.ntmps (LTab.look Lan) (bodyAt ban 13)) (l := Ian) (lr := [.v 10 .bool]) (lx := [(0, [])]) (Kr := Kr) (Kx := Kx) (st := fun i => (o, l, ((l.length : Nat) : Int), (i : Int), ())) l.length (fun i hi Kn h => ?_) (fun Kn => ?_)
  · obtain ⟨h1, h2⟩ := hv i hi
    refine (roundan o l _ _ Kn Kr Kx).mpr ?_
    rw [i64w (a := (i : Int) + 1) (n := i + 1) (by omega) (by omega), Int.toNat_natCast]
    refine ifB_dec (fun _ => dmd_of (inB hi) ?_) (fun c => absurd (show (i : Int) < ((l.length : Nat) : Int) by omega) c)
    have t1 : teq numS (atX o (rd shS l i).1) (rd shS l i).2.1 = true := teq_of h1
    rw [t1]
    exact ifB_neg (fun c => absurd h2 c) (fun _ => h)
  · refine (roundan o l _ _ Kn Kr Kx).mpr ?_
    exact ifB_dec (fun c => absurd c (by omega)) (fun _ => hK)
theorem shAny_fw (a : Num) (k n : Int) (s : List (BitVec 8)) (d : List Int) (hs : s.length ≤ 140737488355328) (hd : d.length ≤ 140737488355328) (hw : numS.wfT a) : FW V0 Tryd.f3.ntmps (LTab.look Lan) Tryd.f3 (argsOf [numS, i64S, i64S, .sl u8S, .sl i64S] (a, k, n, s, d, ())) (fun r => r = .av (.val .bool true)) := by
  rw [fwShAny]
  refine dmd_of (bleT hs) (ifB_neg (fun c => ?_) (fun h => dmd_of (bleT hd) ?_))
  · have e : splO a k n s = [] := by unfold splO; rw [decFa c]; rfl
    rw [e]; rfl
  obtain ⟨⟨g1, g2, g3⟩, g4⟩ := spl_0 h
  have hl := spl_len h
  refine dmd_of (decTr (show (k : Int) ≤ 1000 by omega)) (ifB_neg (fun c => absurd (show (((splO a k n s).length : Nat) : Int) = n by omega) c) (fun _ => ?_))
  refine ifB_dec (fun _ => rfl) (fun hk => ifB_dec (fun _ => rfl) (fun h6 => ?_))
  have hk : ¬ (((chO (splO a k n s) d k).length : Nat) : Int) < k := hk
  have hlen : (chO (splO a k n s) d k).length ≤ k.toNat := ch_len _ _ _ _
  have hi : InvC (splO a k n s) (chO (splO a k n s) d k) := ch_inv _ _ _ _
  generalize chO (splO a k n s) d k = o at *
  have at_x : ∀ x : Int, 0 ≤ x → x ≤ 255 → chkE o x = 0 ∧ atX o x = wF (Go.Lag.ev (polS a k s) (toF x.toNat)) := fun x h0 h1 => any_at h hi (by omega) (by omega) h0 h1
  obtain ⟨z1, z2⟩ := at_x 0 (by omega) (by omega)
  have z3 : atX o 0 = a := by
    rw [z2]
    show wF (Go.Lag.ev (polS a k s) (toF 0)) = a
    rw [toF_0, polS_0, wF_cF g4 hw]
  have t1 : teq numS (atX o 0) a = true := teq_of z3
  rw [t1]
  show ifB (!decide (chkE o 0 = 0)) _ _
  refine ifB_neg (fun c => absurd z1 c) (fun _ => ⟨o, splO a k n s, rfl, by omega, fun i hj => ?_, rfl⟩)
  rw [hl] at hj
  obtain ⟨y1, y2⟩ := at_x (Xi (splO a k n s) i) (by rw [spl_X h hj]; omega) (by rw [spl_X h hj]; omega)
  refine ⟨?_, y1⟩
  rw [y2, spl_wF h hw hj, spl_YF h hj, spl_X h hj, Int.toNat_natCast]
theorem walkShareAny (xs : HL [numS, i64S, i64S, .sl u8S, .sl i64S]) (h : okHL [numS, i64S, i64S, .sl u8S, .sl i64S] xs) : PC (bx Tryd.prog GL) 3 (argsOf [numS, i64S, i64S, .sl u8S, .sl i64S] xs) (.av (.val .bool true)) := by
  obtain ⟨a, k, n, s, d, ⟨⟩⟩ := xs
  have hs : List.length s * 1 ≤ 140737488351232 := h.2.2.2.1.1
  have hd : List.length d * 8 ≤ 140737488351232 := h.2.2.2.2.1.1
  exact PC_of_fw (t := Lan) shA_ok V0_ok mixed Tryd.func3 (c := ban) rfl (by kernel_rfl) (by kernel_rfl) (loopsOK (by kernel_rfl) (LTCons (loop_of shA_ok V0_ok mixed (loopsOK (by kernel_rfl) (LTCons (noLoop (by kernel_rfl)) LTNil)) (by kernel_rfl) loopan) LTNil)) rfl (shAny_fw a k n s d (by omega) (by omega) ⟨h.1.1, fun _ _ => trivial⟩)
end Go.Proofs.YtghmfiandllpfaaDoor
