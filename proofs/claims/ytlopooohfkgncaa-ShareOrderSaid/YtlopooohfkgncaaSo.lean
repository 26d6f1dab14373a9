import Derived.Test.YtlopooohfkgncaaSd
import Derived.Test.YtlopooohfkgncaaTyD
namespace Go.Proofs.Ytlopooohfkgncaa
open Go.Ty

/-! ## Shares in another order -/
noncomputable def cloSF : HA [.v (.sl shS)] → WT := fun xs => .dem (!Nat.beq (List.length xs.1) 0) (.dem (Nat.ble (List.length xs.1) 1000000) (.ret [] (some ⟨shS, xs.1⟩)))
theorem fwCloS (p : List (Sh.T shS)) (K : List AV → OwnV → Prop) : FWO C0 Try.f10.ntmps (LTab.look []) 0 Try.f10 (argsOf [.sl shS] (p, ())) K =
 (  dmd (!p.length.beq 0)
    (dmd (((0 + p.length) * 40).ble 140737488355328)
      ((0 = 0 ∧ 0 + p.length = ((List.replicate 0 (0, List.replicate 4 0#64, PUnit.unit)).append p).length) ∧
        K []
          (some
            ⟨(Sh.int IntKind.i64).pair ((Sh.arr 4 (Sh.int IntKind.u64)).pair Sh.unit),
              (List.replicate 0 (0, List.replicate 4 0#64, PUnit.unit)).append p⟩)))) := by kernel_rfl
theorem cloS_ok : COK Try.prog GL 10 (conV [.v (.sl shS)] cloSF) := conV_ok fun xs _ hc => by
  obtain ⟨p, ⟨⟩⟩ := xs
  obtain ⟨h1, h2, _⟩ := hc
  have h2 : List.length p ≤ 1000000 := Nat.le_of_ble_eq_true h2
  refine ⟨shS, p, rfl, rfl, ?_⟩
  refine PCW_of_fw (np := 0) (l := []) (o := some ⟨shS, p⟩) (t := []) shA_ok C0_ok mixed Try.func10 (c := Try.f10.body.getD .skip) rfl (by kernel_rfl) (by kernel_rfl) loopsNil (fun v hv => by cases hv) ((fwCloS p _).mpr ?_)
  exact dmd_of h1 (dmd_of (bleT (by omega)) ⟨⟨rfl, Nat.zero_add _⟩, rfl, rfl⟩)
noncomputable def SOc : CTab := (11, conA [.v (.sl shS), .v i64S] fun xs => .ret (.tup [.val numS (atX xs.1 xs.2.1), .val i64S (chkE xs.1 xs.2.1)])) :: (10, conV [.v (.sl shS)] cloSF) :: []
noncomputable abbrev SO : Go.Ty.Cx := mkX Try.prog GL shA SOc
theorem SO_ok : ∀ p ∈ SOc, COK Try.prog GL p.1 p.2 := CCons atS_ok (CCons cloS_ok CNil)
theorem good_ne {l : List Shr} (h : GoodP l) {i j : Nat} (hi : i < l.length) (hj : j < l.length) (hne : i ≠ j) : Xi l i ≠ Xi l j := by
  rcases Nat.lt_or_gt_of_ne hne with c | c
  · exact h.2 i j c hj
  · exact fun e => h.2 j i c hi e.symm
/-- the same shares at other places -/
theorem good_map {l m : List Shr} (f : Nat → Nat) (_ : l.length = m.length) (h2 : ∀ i, i < m.length → f i < l.length ∧ rd shS m i = rd shS l (f i)) (h3 : ∀ i j, i < m.length → j < m.length → f i = f j → i = j) (h : GoodP l) : GoodP m := by
  have hx : ∀ i, i < m.length → Xi m i = Xi l (f i) ∧ Yi m i = Yi l (f i) := fun i hi => by
    unfold Xi Yi; rw [(h2 i hi).2]; exact ⟨rfl, rfl⟩
  refine ⟨fun i hi => ?_, fun i j hij hj => ?_⟩
  · rw [(hx i hi).1, (hx i hi).2]; exact h.1 _ (h2 i hi).1
  · rw [(hx i (by omega)).1, (hx j hj).1]
    refine good_ne h (h2 i (by omega)).1 (h2 j hj).1 (fun e => ?_)
    have := h3 i j (by omega) hj e
    omega
theorem at_map {l m : List Shr} (f : Nat → Nat) (h1 : l.length = m.length) (h2 : ∀ i, i < m.length → f i < l.length ∧ rd shS m i = rd shS l (f i)) (h3 : ∀ i j, i < m.length → j < m.length → f i = f j → i = j) (h : GoodP l) (x : Int) : atF m x = atF l x := by
  have hm := good_map f h1 h2 h3 h
  refine Go.Lag.lag_same fld (distX hm) (by omega) (fun i hi => ?_) _
  have e1 : YF m i = YF l (f i) := by unfold YF Yi; rw [(h2 i hi).2]
  have e2 : XF m i = XF l (f i) := by unfold XF Xi; rw [(h2 i hi).2]
  rw [e1, e2]
  exact (Go.Lag.lag_own fld (distX h) (h2 i hi).1).symm
def rotN (a n i : Nat) : Nat := if i < n - a then a + i else i - (n - a)
theorem rd_rot {l : List Shr} {a i : Nat} (ha : a ≤ l.length) (hi : i < l.length) : rotN a l.length i < l.length ∧ rd shS (l.drop a ++ l.take a) i = rd shS l (rotN a l.length i) := by
  have hlen : (l.drop a ++ l.take a).length = l.length := by rw [List.length_append, List.length_drop, List.length_take]; omega
  unfold rotN
  by_cases c : i < l.length - a
  · rw [if_pos c]
    refine ⟨by omega, ?_⟩
    rw [rd_at (by omega), rd_at (by omega), List.getElem_append_left (by rw [List.length_drop]; exact c), List.getElem_drop]
  · rw [if_neg c]
    refine ⟨by omega, ?_⟩
    rw [rd_at (by omega), rd_at (by omega), List.getElem_append_right (by rw [List.length_drop]; omega), List.getElem_take]
    congr 1
    rw [List.length_drop]
theorem rot_inj {a n : Nat} (ha : a ≤ n) {i j : Nat} (hi : i < n) (hj : j < n) (h : rotN a n i = rotN a n j) : i = j := by
  unfold rotN at h
  split at h <;> split at h <;> omega
theorem rot_back {l : List Shr} {a : Nat} (_ : a ≤ l.length) : (l.drop a ++ l.take a).drop (l.length - a) ++ (l.drop a ++ l.take a).take (l.length - a) = l := by
  have e : l.length - a = (l.drop a).length := by rw [List.length_drop]
  rw [e, List.drop_left, List.take_left, List.take_append_drop]
theorem fwShareO (l : Sh.T (.sl shS)) (x : Sh.T (i64S)) (a : Sh.T (i64S)) (P : SV → Prop) : FW SO Try.f3.ntmps (LTab.look []) Try.f3 (argsOf [.sl shS, i64S, i64S] (l, x, a, ())) P =
 (  ifB (decide (6 < (((List.length l) : Nat) : Int))) (P (SV.av (AV.val Sh.bool true)))
    (ifB (decide (a < 0)) (P (SV.av (AV.val Sh.bool true)))
      (ifB (decide ((((List.length l) : Nat) : Int) ≤ a)) (P (SV.av (AV.val Sh.bool true)))
        (dmd (decide (0 ≤ a))
          (dmd ((Int.toNat a).ble (List.length l) && (List.length l).ble (List.length l))
            (dmd (!(List.drop (Int.toNat a) (List.take (List.length l) l)).length.beq 0)
              (dmd ((List.drop (Int.toNat a) (List.take (List.length l) l)).length.ble 1000000)
                (dmd (decide (0 ≤ a))
                  (dmd (Nat.ble 0 (Int.toNat a) && (Int.toNat a).ble (List.length l))
                    (dmd
                      ((List.drop (Int.toNat a) (List.take (List.length l) l)).length.beq
                          (List.drop (Int.toNat a) (List.take (List.length l) l)).length &&
                        (((List.drop (Int.toNat a) (List.take (List.length l) l)).length +
                                (List.drop 0 (List.take (Int.toNat a) l)).length) *
                              40).ble
                          140737488355328)
                      (ifB
                        (!teq (Sh.arr 4 (Sh.int IntKind.u64)) (atX l x)
                            (atX
                              (List.take
                                ((List.drop (Int.toNat a) (List.take (List.length l) l)).length +
                                  (List.drop 0 (List.take (Int.toNat a) l)).length)
                                (List.drop 0
                                  ((List.drop (Int.toNat a) (List.take (List.length l) l)).append
                                    (List.drop 0 (List.take (Int.toNat a) l)))))
                              x))
                        (P (SV.av (AV.val Sh.bool false)))
                        (ifB
                          (!decide
                              (chkE l x =
                                chkE
                                  (List.take
                                    ((List.drop (Int.toNat a) (List.take (List.length l) l)).length +
                                      (List.drop 0 (List.take (Int.toNat a) l)).length)
                                    (List.drop 0
                                      ((List.drop (Int.toNat a) (List.take (List.length l) l)).append
                                        (List.drop 0 (List.take (Int.toNat a) l)))))
                                  x))
                          (P (SV.av (AV.val Sh.bool false)))
                          (dmd (decide (0 ≤ a) && decide (a < (((List.length l) : Nat) : Int)))
                            (ifB (!decide (chkE l x = 0)) (P (SV.av (AV.val Sh.bool true)))
                              (ifB
                                (decide
                                  (chkE l
                                      (rd ((Sh.int IntKind.i64).pair ((Sh.arr 4 (Sh.int IntKind.u64)).pair Sh.unit)) l
                                          (Int.toNat a)).1 =
                                    0))
                                (dmd (decide (0 ≤ a) && decide (a < (((List.length l) : Nat) : Int)))
                                  (P
                                    (SV.av
                                      (AV.val Sh.bool
                                        (teq (Sh.arr 4 (Sh.int IntKind.u64))
                                          (atX l
                                            (rd ((Sh.int IntKind.i64).pair ((Sh.arr 4 (Sh.int IntKind.u64)).pair Sh.unit))
                                                l (Int.toNat a)).1)
                                          (rd ((Sh.int IntKind.i64).pair ((Sh.arr 4 (Sh.int IntKind.u64)).pair Sh.unit)) l
                                                (Int.toNat a)).2.1)))))
                                (P (SV.av (AV.val Sh.bool false)))))))))))))))))) := by kernel_rfl
theorem shareO_fw (l : List Shr) (x a : Int) (hw : ∀ i, i < l.length → numS.wfT (Yi l i)) : FW SO Try.f3.ntmps (LTab.look []) Try.f3 (argsOf [.sl shS, i64S, i64S] (l, x, a, ())) (fun r => r = .av (.val .bool true)) := by
  rw [fwShareO]
  refine ifB_dec (fun _ => rfl) (fun c1 => ifB_dec (fun _ => rfl) (fun c2 => ifB_dec (fun _ => rfl) (fun c3 => ?_)))
  have c1 : ¬ (6 : Int) < ((l.length : Nat) : Int) := c1
  have c2 : ¬ a < (0 : Int) := c2
  have c3 : ¬ ((l.length : Nat) : Int) ≤ a := c3
  obtain ⟨k, rfl⟩ := Int.eq_ofNat_of_zero_le (show 0 ≤ a by omega)
  have hk : k < l.length := by omega
  rw [Int.toNat_natCast]
  have e1 : List.take l.length l = l := List.take_length
  have e2 : List.drop 0 (List.take k l) = l.take k := rfl
  have hd : (l.drop k).length = l.length - k := List.length_drop
  have ht : (l.take k).length = k := by rw [List.length_take]; omega
  rw [e1, e2, hd, ht, show l.length - k + k = l.length by omega]
  have e3 : List.take l.length (List.drop 0 ((l.drop k).append (l.take k))) = l.drop k ++ l.take k := drop0_take (l.drop k ++ l.take k) _ (by rw [List.length_append, hd, ht]; omega)
  rw [e3]
  have hT : (l.drop k ++ l.take k).length = l.length := by rw [List.length_append, hd, ht]; omega
  have m1 : ∀ i, i < (l.drop k ++ l.take k).length → rotN k l.length i < l.length ∧ rd shS (l.drop k ++ l.take k) i = rd shS l (rotN k l.length i) := fun i hi => rd_rot (by omega) (by omega)
  have m2 : ∀ i j, i < (l.drop k ++ l.take k).length → j < (l.drop k ++ l.take k).length → rotN k l.length i = rotN k l.length j → i = j := fun i j hi hj e => rot_inj (by omega) (by omega) (by omega) e
  have hg1 : GoodP l → GoodP (l.drop k ++ l.take k) := good_map _ hT.symm m1 m2
  have hg2 : GoodP (l.drop k ++ l.take k) → GoodP l := fun h => by
    have hb := rot_back (l := l) (a := k) (by omega)
    have := good_map (l := l.drop k ++ l.take k) (m := (l.drop k ++ l.take k).drop (l.length - k) ++ (l.drop k ++ l.take k).take (l.length - k)) (rotN (l.length - k) l.length)
      (by rw [hb, hT]) (fun i hi => by
        rw [hb] at hi
        have := rd_rot (l := l.drop k ++ l.take k) (a := l.length - k) (i := i) (by omega) (by omega)
        rw [hT] at this ⊢
        exact this) (fun i j hi hj e => by
        rw [hb] at hi hj
        exact rot_inj (by omega) hi hj e) h
    rw [hb] at this
    exact this
  have hc : chkE (l.drop k ++ l.take k) x = chkE l x := chk_same hT ⟨hg2, hg1⟩
  have hx : atX (l.drop k ++ l.take k) x = atX l x := by
    unfold atX
    rw [hc]
    by_cases c : chkE l x = 0
    · rw [decTr c, at_map _ hT.symm m1 m2 (chk_0 c).2.2.2 x]
    · rw [decFa c]; rfl
  rw [hx, hc]
  have d0 : decide ((0 : Int) ≤ ((k : Nat) : Int)) = true := decTr (by omega)
  have d1 : (decide ((0 : Int) ≤ ((k : Nat) : Int)) && decide (((k : Nat) : Int) < ((l.length : Nat) : Int))) = true := andT (decTr (by omega)) (decTr (by omega))
  refine dmd_of d0 (dmd_of (andT (bleT (by omega)) (bleT (Nat.le_refl _))) (dmd_of (by rw [beq0 (by omega)]; rfl) (dmd_of (bleT (by omega)) (dmd_of d0 (dmd_of (andT (bleT (Nat.zero_le _)) (bleT (by omega))) (dmd_of (andT (Nat.beq_refl _) (bleT (by omega))) ?_))))))
  refine ifB_of (fun c => by rw [teq_self] at c; cases c) (fun _ => ifB_neg (fun c => absurd rfl c) (fun _ => dmd_of d1 (ifB_neg (fun _ => rfl) (fun c => ?_))))
  obtain ⟨g1, g2, g3, g4⟩ := chk_0 c
  obtain ⟨b1, b2, _⟩ := g4.1 k hk
  have hk0 : chkE l (Xi l k) = 0 := chk_of g1 g2 (by omega) b2 g4
  have ha : atX l (Xi l k) = Yi l k := by
    unfold atX
    rw [decTr hk0, at_own g4 hk]
    exact wF_words g4 hk (hw k hk)
  exact ifB_dec (fun _ => dmd_of d1 (pbool (teq_of ha))) (fun c => absurd hk0 c)
theorem walkShareOrder (xs : HL [.sl shS, i64S, i64S]) (h : okHL [.sl shS, i64S, i64S] xs) : PC (bx Try.prog GL) 3 (argsOf [.sl shS, i64S, i64S] xs) (.av (.val .bool true)) := by
  obtain ⟨l, x, a, ⟨⟩⟩ := xs
  have hw : ∀ i, i < l.length → numS.wfT (Yi l i) := fun i hi => by
    have := h.1.2.2 _ (List.getElem_mem hi)
    unfold Yi
    rw [rd_at hi]
    exact ⟨this.2.1.1, fun _ _ => trivial⟩
  exact PC_of_fw (t := []) shA_ok SO_ok mixed Try.func3 (c := Try.f3.body.getD .skip) rfl (by kernel_rfl) (by kernel_rfl) loopsNil rfl (shareO_fw l x a hw)
end Go.Proofs.Ytlopooohfkgncaa
