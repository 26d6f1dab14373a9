import Derived.Test.YtonlmamfggfanaaDoorTp
namespace Go.Proofs.YtonlmamfggfanaaDoor
open Go.Ty

/-! ## Paths that are too long, or too short -/
noncomputable def cloneF : HA [.v (.sl b32S)] → WT := fun xs => .dem (!Nat.beq (List.length xs.1) 0) (.dem (Nat.ble (List.length xs.1) 1000000) (.ret [] (some ⟨b32S, xs.1⟩)))
noncomputable def cloneC : ConT := fun args nid => match args with
  | [.av (.cell .nilS)] => .ret (some (.av (.cell .nilS)))
  | args => conW [.v (.sl b32S)] 0 cloneF args nid
noncomputable def cloneN : PureT := fun args => match args with
  | [.av (.cell .nilS)] => some (True, .av (.cell .nilS))
  | _ => none
theorem fwCloneN (P : SV → Prop) : FW H6 Tryd.f42.ntmps (LTab.look []) Tryd.f42 [.av (.cell .nilS)] P =
 (  P (SV.av (AV.cell Cel.nilS))) := by kernel_rfl
theorem fwClone (p : List (List (BitVec 8))) (K : List AV → OwnV → Prop) : FWO H6 Tryd.f42.ntmps (LTab.look []) 0 Tryd.f42 (argsOf [.sl b32S] (p, ())) K =
 (  dmd (!p.length.beq 0)
    (dmd (((0 + p.length) * 32).ble 140737488355328)
      ((0 = 0 ∧ 0 + p.length = p.length) ∧ K [] (some ⟨Sh.arr 32 (Sh.int IntKind.u8), p⟩)))) := by kernel_rfl
set_option maxRecDepth 20000 in
theorem cloneN_ok : COK Tryd.prog GL 42 (conP cloneN) := conP_ok fun args p r hg _ => by
  unfold cloneN at hg
  split at hg
  · simp only [Option.some.injEq, Prod.mk.injEq] at hg
    obtain ⟨_, rfl⟩ := hg
    exact PC_of_fw (t := []) shA_ok H6_ok mixed Tryd.func42 (c := Tryd.f42.body.getD .skip) rfl (by kernel_rfl) (by kernel_rfl) loopsNil rfl ((fwCloneN _).mpr rfl)
  · cases hg
set_option maxRecDepth 20000 in
theorem cloneW_ok : COK Tryd.prog GL 42 (conW [.v (.sl b32S)] 0 cloneF) := conW_ok fun xs _ hc => by
  obtain ⟨p, ⟨⟩⟩ := xs
  obtain ⟨h1, h2, _⟩ := hc
  have h2 : List.length p ≤ 1000000 := Nat.le_of_ble_eq_true h2
  refine PCW_of_fw (np := 0) (l := []) (o := some ⟨b32S, p⟩) (t := []) shA_ok H6_ok mixed Tryd.func42 (c := Tryd.f42.body.getD .skip) rfl (by kernel_rfl) (by kernel_rfl) loopsNil (fun v hv => by cases hv) ((fwClone p _).mpr ?_)
  exact dmd_of h1 (dmd_of (bleT (by omega)) ⟨⟨rfl, Nat.zero_add _⟩, rfl, rfl⟩)
theorem clone_ok : COK Tryd.prog GL 42 cloneC := by
  intro C ρ M H w args l1 l' nid v H' hex
  unfold cloneC at hex
  split at hex
  · exact cloneN_ok C ρ M H w _ l1 l' nid v H' (Ex_pre.2 ⟨trivial, hex⟩)
  · exact cloneW_ok C ρ M H w _ l1 l' nid v H' hex
noncomputable def T6c : CTab := (42, cloneC) :: (24, conT [] fun _ => .av (.val .bool true)) :: T5c
noncomputable abbrev T6 : Go.Ty.Cx := mkX Tryd.prog GL shA T6c
theorem T6_ok : ∀ p ∈ T6c, COK Tryd.prog GL p.1 p.2 := CCons clone_ok (CCons trees_ok T5_ok)
theorem fwTreeL (l : Sh.T (rwS)) (i : Sh.T (i64S)) (d : Sh.T (b32S)) (root : Sh.T (b32S)) (q : Sh.T (.sl u8S)) (P : SV → Prop) : FW T6 Tryd.f12.ntmps (LTab.look []) Tryd.f12 (argsOf [rwS, i64S, b32S, b32S, .sl u8S] (l, i, d, root, q, ())) P =
 (  ifB (decide (60 < (((List.length l) : Nat) : Int)))
    (dmd ((List.length q).ble 140737488355328)
      (ifB (!checkB root ((((List.length l) : Nat) : Int)) i q []) (P (SV.av (AV.val Sh.bool true)))
        (P (SV.av (AV.val Sh.bool (decide (60 < (((List.length l) : Nat) : Int))))))))
    (ifB (decide (i < 0))
      (dmd ((List.length q).ble 140737488355328)
        (ifB (!checkB root ((((List.length l) : Nat) : Int)) i q []) (P (SV.av (AV.val Sh.bool true)))
          (P (SV.av (AV.val Sh.bool (decide (60 < (((List.length l) : Nat) : Int))))))))
      (ifB (decide ((((List.length l) : Nat) : Int) ≤ i))
        (dmd ((List.length q).ble 140737488355328)
          (ifB (!checkB root ((((List.length l) : Nat) : Int)) i q []) (P (SV.av (AV.val Sh.bool true)))
            (P (SV.av (AV.val Sh.bool (decide (60 < (((List.length l) : Nat) : Int))))))))
        (dmd ((List.length l).blt 1099511627777)
          (dmd (rokL l)
            (dmd (decide (0 ≤ i) && decide (i < (((List.length l) : Nat) : Int)))
              (ifB (decide (List.length l = 1))
                (dmd ((List.length q).ble 140737488355328)
                  (ifB (checkB root ((((List.length l) : Nat) : Int)) i q [d]) (P (SV.av (AV.val Sh.bool false)))
                    (P (SV.av (AV.val Sh.bool true)))))
                (dmd (!(List.take (pathW l (Int.toNat i)).length (List.drop 0 (pathW l (Int.toNat i)))).length.beq 0)
                  (dmd
                    ((List.take (pathW l (Int.toNat i)).length (List.drop 0 (pathW l (Int.toNat i)))).length.ble 1000000)
                    (dmd
                      ((List.take (pathW l (Int.toNat i)).length (List.drop 0 (pathW l (Int.toNat i)))).length.beq
                          (List.take (pathW l (Int.toNat i)).length (List.drop 0 (pathW l (Int.toNat i)))).length &&
                        (((List.take (pathW l (Int.toNat i)).length (List.drop 0 (pathW l (Int.toNat i)))).length + 1) *
                              32).ble
                          140737488355328)
                      (dmd ((List.length q).ble 140737488355328)
                        (dmd
                          ((List.take
                                  ((List.take (pathW l (Int.toNat i)).length
                                        (List.drop 0 (pathW l (Int.toNat i)))).length +
                                    1)
                                  (List.drop 0
                                    ((List.take (pathW l (Int.toNat i)).length
                                          (List.drop 0 (pathW l (Int.toNat i)))).append
                                      [d]))).length.blt
                            1099511627777)
                          (ifB
                            (checkB root ((((List.length l) : Nat) : Int)) i q
                              (List.take
                                ((List.take (pathW l (Int.toNat i)).length (List.drop 0 (pathW l (Int.toNat i)))).length +
                                  1)
                                (List.drop 0
                                  ((List.take (pathW l (Int.toNat i)).length (List.drop 0 (pathW l (Int.toNat i)))).append
                                    [d]))))
                            (P (SV.av (AV.val Sh.bool false)))
                            (ifB (decide ((((pathW l (Int.toNat i)).length : Nat) : Int) = 0)) (P (SV.av (AV.val Sh.bool true)))
                              (dmd
                                (Nat.ble 1 (pathW l (Int.toNat i)).length &&
                                  (pathW l (Int.toNat i)).length.ble (pathW l (Int.toNat i)).length)
                                (dmd ((List.length q).ble 140737488355328)
                                  (dmd
                                    ((List.take ((pathW l (Int.toNat i)).length - 1)
                                            (List.drop 1 (pathW l (Int.toNat i)))).length.blt
                                      1099511627777)
                                    (P
                                      (SV.av
                                        (AV.val Sh.bool
                                          !checkB root ((((List.length l) : Nat) : Int)) i q
                                              (List.take ((pathW l (Int.toNat i)).length - 1)
                                                (List.drop 1 (pathW l (Int.toNat i)))))))))))))))))))))))) := by kernel_rfl
theorem check_len {r : List (BitVec 8)} {n i : Nat} {q : List (BitVec 8)} {p : List (List (BitVec 8))} (h1 : 1 ≤ n) (hi : i < n) (h : p.length ≠ depN n i) : checkB r ((n : Nat) : Int) ((i : Nat) : Int) q p = false := by
  unfold checkB
  rw [Int.toNat_natCast, Int.toNat_natCast, climb_dep _ n i _ p (Nat.le_refl _) h1 hi, decFa h, Bool.false_and, Bool.and_false]
theorem check_out {r : List (BitVec 8)} {n : Nat} {i : Int} {q : List (BitVec 8)} {p : List (List (BitVec 8))} (h : i < 0 ∨ ((n : Nat) : Int) ≤ i) : checkB r ((n : Nat) : Int) i q p = false := by
  unfold checkB
  rw [inI_no (by omega), Bool.false_and]
theorem treeL_fw (l : List (List (BitVec 8))) (i : Int) (d root q : List (BitVec 8)) (sl : smL l = true) (hq : q.length ≤ 140737488355328) : FW T6 Tryd.f12.ntmps (LTab.look []) Tryd.f12 (argsOf [rwS, i64S, b32S, b32S, .sl u8S] (l, i, d, root, q, ())) (fun r => r = .av (.val .bool true)) := by
  rw [fwTreeL]
  have hq := bleT hq
  refine ifB_dec (fun a => dmd_of hq ?_) (fun a => ifB_dec (fun b => dmd_of hq ?_) (fun b => ifB_dec (fun c => dmd_of hq ?_) (fun c => ?_)))
  · cases checkB root ((List.length l : Nat) : Int) i q [] with
    | false => rfl
    | true => exact pbool (decTr a)
  · rw [check_out (.inl b)]; rfl
  · rw [check_out (.inr c)]; rfl
  have b : ¬ i < (0 : Int) := b
  have c : ¬ ((l.length : Nat) : Int) ≤ i := c
  obtain ⟨j, rfl⟩ := Int.eq_ofNat_of_zero_le (show 0 ≤ i by omega)
  have hl : l.length ≤ 60 := by omega
  have hj : j < l.length := by omega
  have hr : rokL l = true := andT (decTr (by omega)) sl
  have hp := path_dep _ l j (Nat.le_refl _)
  have pl := path_le l j
  have ep : List.take (pathW l j).length (List.drop 0 (pathW l j)) = pathW l j := drop0_take _ _ rfl
  have ea : List.take ((pathW l j).length + 1) (List.drop 0 ((pathW l j).append [d])) = pathW l j ++ [d] := drop0_take (pathW l j ++ [d]) _ (by rw [List.length_append]; rfl)
  have e1 : (pathW l j ++ [d]).length = (pathW l j).length + 1 := by rw [List.length_append]; rfl
  rw [Int.toNat_natCast, ep, ea]
  refine dmd_of (bleT (by omega)) (dmd_of hr (dmd_of (inB hj) (ifB_dec (fun e => dmd_of hq ?_) (fun e => ?_))))
  · rw [check_len (by omega) hj (by rw [depN_0 (by omega)]; exact Nat.one_ne_zero)]; rfl
  have h1 : (pathW l j).length ≠ 0 := by
    rw [hp]
    by_cases f : j < halfN l.length
    · rw [depN_l (by omega) f]; omega
    · rw [depN_r (by omega) f]; omega
  refine dmd_of (notT (beq0 h1)) (dmd_of (bleT (by omega)) (dmd_of (andT (beqn _) (bleT (by omega))) (dmd_of hq (dmd_of (bleT (by rw [e1]; omega)) ?_))))
  rw [check_len (by omega) hj (by rw [e1]; omega)]
  refine ifB_dec (fun g => absurd g (by omega)) (fun _ => dmd_of (andT (bleT (by omega)) (bleT (Nat.le_refl _))) (dmd_of hq (dmd_of (bleT ?_) (pbool (notT (check_len (by omega) hj ?_))))))
  · show _ + 1 ≤ _
    rw [List.length_take]; omega
  · rw [List.length_take, List.length_drop]; omega
theorem walkTreeLongs (xs : HL [rwS, i64S, b32S, b32S, .sl u8S]) (h : okHL [rwS, i64S, b32S, b32S, .sl u8S] xs) : PC (bx Tryd.prog GL) 12 (argsOf [rwS, i64S, b32S, b32S, .sl u8S] xs) (.av (.val .bool true)) := by
  obtain ⟨l, i, d, root, q, ⟨⟩⟩ := xs
  have hq : List.length q * 1 ≤ 140737488351232 := h.2.2.2.2.1.1
  exact PC_of_fw (t := []) shA_ok T6_ok mixed Tryd.func12 (c := Tryd.f12.body.getD .skip) rfl (by kernel_rfl) (by kernel_rfl) loopsNil rfl (treeL_fw l i d root q (sm_ok h.1.2.2) (by omega))
end Go.Proofs.YtonlmamfggfanaaDoor
