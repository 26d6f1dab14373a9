import Derived.Test.YtonlmamfggfanaaDoorHk
import Derived.Test.YtonlmamfggfanaaDoorPc
namespace Go.Proofs.YtonlmamfggfanaaDoor
open Go.Ty

/-! ## Laws of digests -/
set_option maxRecDepth 100000 in
theorem fwHashes (P : SV → Prop) : FW H6 Tryd.f16.ntmps (LTab.look []) Tryd.f16 (argsOf [] (())) P =
  ifB (decide (rd u8S (digW []) 0 = 227#8)) (P (.av (.val .bool (decide (rd u8S (digW []) 31 = 85#8))))) (P (.av (.val .bool false))) := by kernel_rfl
theorem hashes_fw : FW H6 Tryd.f16.ntmps (LTab.look []) Tryd.f16 (argsOf [] (())) (fun r => r = .av (.val .bool true)) := by
  have e1 : decide (rd u8S (digW []) 0 = 227#8) = true := by rw [dig_nil]; rfl
  have e2 : decide (rd u8S (digW []) 31 = 85#8) = true := by rw [dig_nil]; rfl
  rw [fwHashes, e1, e2, ifB_true]
set_option maxRecDepth 20000 in
theorem hashes_pc : PC (bx Tryd.prog GL) 16 (argsOf [] ()) (.av (.val .bool true)) :=
  PC_of_fw (t := []) (ct := H6c) (st := shA) (c := Tryd.f16.body.getD .skip) shA_ok H6_ok mixed Tryd.func16 rfl (by kernel_rfl) (by kernel_rfl) loopsNil rfl hashes_fw
theorem hashes_ok : COK Tryd.prog GL 16 (conT [] fun _ => .av (.val .bool true)) := conT_ok (fun _ _ => hashes_pc) (fun _ => rfl)
noncomputable def H7c : CTab := (16, conT [] fun _ => .av (.val .bool true)) :: (18, conA [.v (.sl u8S), .v (.sl i64S)] pcsF) :: H6c
noncomputable abbrev H7 : Go.Ty.Cx := mkX Tryd.prog GL shA H7c
theorem H7_ok : ∀ p ∈ H7c, COK Tryd.prog GL p.1 p.2 := CCons hashes_ok (CCons pieces_ok H6_ok)
abbrev IhP : List It := [.v 0 (.sl u8S), .p 5 2000 hsS, .v 13 (.sl (.sl u8S)), .v 14 i64S, .v 15 i64S]
abbrev ohP : List (Nat × List It) := [(0, [.v 0 (.sl u8S), .p 5 2000 hsS])]
noncomputable def QhP : LQ IhP [] ohP := fun x _ Kx => ∃ (p : List (BitVec 8)) (s : HS) (l : List (List (BitVec 8))), x = (p, s, l, ((l.length : Nat) : Int), (0 : Int), ()) ∧ (∀ y ∈ l, y.length ≤ 140737488355328) ∧ l.length ≤ 9000000000000 ∧ Kx.1 (p, writeW s l.flatten, ())
noncomputable def bhP : Code := Tryd.f3.body.getD .skip
noncomputable abbrev LhP : LTab := [(5, ptL IhP [] ohP QhP)]
theorem roundhP (p : List (BitVec 8)) (s : HS) (l : List (List (BitVec 8))) (m i : Int) (Kn : HI IhP → Prop) (Kr : HI [] → Prop) (Kx : HP ohP) : roundT (W H7 Tryd.f3.ntmps (LTab.look LhP) (bodyAt bhP 5)) IhP [] ohP (p, s, l, m, i, ()) Kn Kr Kx =
 (  ifB (decide (i < m))
    (dmd (decide (0 ≤ i) && decide (i < ((l.length : Nat) : Int)))
      (dmd ((List.length (rd (Sh.int IntKind.u8).sl l i.toNat)).ble 140737488355328)
        (Kn (p, writeW s (rd (Sh.int IntKind.u8).sl l i.toNat), l, m, IntKind.i64.wrap (i + 1), PUnit.unit))))
    (Kx.1 (p, s, PUnit.unit))) := by kernel_rfl
theorem fwHashPieces (p : Sh.T (.sl u8S)) (cuts : Sh.T (.sl i64S)) (P : SV → Prop) : FW H7 Tryd.f3.ntmps (LTab.look LhP) Tryd.f3 (argsOf [.sl u8S, .sl i64S] (p, cuts, ())) P =
 (  dmd ((List.length p).ble 140737488355328)
    (dmd ((List.length cuts).ble 5864062014800)
      (QhP (p, newD, pcs p cuts, (((pcs p cuts).length : Nat) : Int), 0, PUnit.unit) (fun _ => False)
        (fun x =>
          dmd ((List.length x.1).ble 140737488355328)
            (P (SV.av (AV.val Sh.bool (teq (Sh.arr 32 (Sh.int IntKind.u8)) (sumW x.2.1) (digW x.1))))),
          PUnit.unit)))) := by kernel_rfl
theorem rd_mem {l : List (List (BitVec 8))} {i : Nat} (h : i < l.length) : rd (.sl u8S) l i ∈ l := by rw [rd_at h]; exact List.getElem_mem h
theorem flat_next {l : List (List (BitVec 8))} {i : Nat} (h : i < l.length) : (l.take (i + 1)).flatten = (l.take i).flatten ++ rd (.sl u8S) l i := by
  rw [List.take_add_one, rd_at h, List.getElem?_eq_getElem h, List.flatten_append]
  show _ ++ [l[i]].flatten = _
  simp
theorem loophP : ∀ x Kr Kx, QhP x Kr Kx → ∃ n, untl (W H7 Tryd.f3.ntmps (LTab.look LhP) (bodyAt bhP 5)) IhP [] ohP n x Kr Kx := by
  rintro x Kr Kx ⟨p, s, l, ex, hl, hn, hK⟩
  have key := untl_up (F := W H7 Tryd.f3.ntmps (LTab.look LhP) (bodyAt bhP 5)) (l := IhP) (lr := []) (lx := ohP) (Kr := Kr) (Kx := Kx) (st := fun i => (p, writeW s (l.take i).flatten, l, ((l.length : Nat) : Int), (i : Int), ())) l.length (fun i hi Kn hn => ?_) (fun Kn => ?_)
  · rw [ex]; exact key
  · rw [flat_next hi, writeW_app] at hn
    rw [roundhP, i64w (a := (i : Int) + 1) (n := i + 1) (by omega) (by omega), Int.toNat_natCast]
    exact ifB_of (fun _ => dmd_of (inB hi) (dmd_of (bleT (hl _ (rd_mem hi))) hn)) (fun c => absurd (of_decide_eq_false c) (by omega))
  · rw [roundhP, List.take_length]
    exact ifB_of (fun c => absurd (of_decide_eq_true c) (by omega)) (fun _ => hK)
theorem pieces_law (p : List (BitVec 8)) (cuts : List Int) (hp : p.length ≤ 140737488355328) (hc : cuts.length ≤ 5864062014800) : PC (bx Tryd.prog GL) 3 (argsOf [.sl u8S, .sl i64S] (p, cuts, ())) (.av (.val .bool true)) := by
  refine PC_of_fw (t := LhP) shA_ok H7_ok mixed Tryd.func3 (c := bhP) rfl (by kernel_rfl) (by kernel_rfl) (loopsOK (by kernel_rfl) (LTCons (loop_of shA_ok H7_ok mixed (loopsOK (by kernel_rfl) (LTCons (noLoop (by kernel_rfl)) LTNil)) (by kernel_rfl) loophP) LTNil)) rfl ((fwHashPieces p cuts _).mpr ?_)
  refine dmd_of (bleT hp) (dmd_of (bleT hc) ⟨p, newD, pcs p cuts, rfl, fun y hy => Nat.le_trans (pcs_each hy) hp, ?_, dmd_of (bleT hp) (pbool (teq_of ?_))⟩)
  · have := pcs_len p cuts; omega
  · show sumW (writeW newD (pcs p cuts).flatten) = digW p
    rw [pcs_flat]; rfl
theorem walkHashPieces (xs : HL [.sl u8S, .sl i64S]) (h : okHLB 17179869184 [.sl u8S, .sl i64S] xs) : PC (bx Tryd.prog GL) 3 (argsOf [.sl u8S, .sl i64S] xs) (.av (.val .bool true)) := by
  have h1 : List.length xs.1 * 1 ≤ 17179869184 := h.1.1
  have h2 : List.length xs.2.1 * 8 ≤ 17179869184 := h.2.1.1
  exact pieces_law xs.1 xs.2.1 (by omega) (by omega)
/-! Two go on apart -/
theorem fwHashCopies (p : Sh.T (.sl u8S)) (q : Sh.T (.sl u8S)) (r : Sh.T (.sl u8S)) (P : SV → Prop) : FW H7 Tryd.f4.ntmps (LTab.look []) Tryd.f4 (argsOf [.sl u8S, .sl u8S, .sl u8S] (p, q, r, ())) P =
 (  dmd ((List.length p).ble 140737488355328)
    (dmd ((List.length q).ble 140737488355328)
      (dmd ((List.length p).ble 140737488355328)
        (ifB (!teq (Sh.arr 32 (Sh.int IntKind.u8)) (sumW (writeW newD p)) (digW p)) (P (SV.av (AV.val Sh.bool false)))
          (dmd ((List.length r).ble 140737488355328)
            (ifB ((List.length p).beq 0)
              (ifB ((List.length q).beq 0)
                (ifB ((List.length p).beq 0)
                  (ifB ((List.length r).beq 0)
                    (ifB (teq (Sh.arr 32 (Sh.int IntKind.u8)) (sumW (writeW (writeW newD p) q)) (digW []))
                      (ifB (teq (Sh.arr 32 (Sh.int IntKind.u8)) (sumW (writeW (writeW newD p) r)) (digW []))
                        (P
                          (SV.av
                            (AV.val Sh.bool
                              (teq (Sh.arr 32 (Sh.int IntKind.u8)) (sumW (writeW (writeW newD p) q)) (digW [])))))
                        (P (SV.av (AV.val Sh.bool false))))
                      (P (SV.av (AV.val Sh.bool false))))
                    (dmd ((List.length r * 1).ble 140737488355328)
                      (ifB (teq (Sh.arr 32 (Sh.int IntKind.u8)) (sumW (writeW (writeW newD p) q)) (digW []))
                        (dmd ((List.take (List.length r) (List.drop 0 r)).length.ble 140737488355328)
                          (ifB
                            (teq (Sh.arr 32 (Sh.int IntKind.u8)) (sumW (writeW (writeW newD p) r))
                              (digW (List.take (List.length r) (List.drop 0 r))))
                            (P
                              (SV.av
                                (AV.val Sh.bool
                                  (teq (Sh.arr 32 (Sh.int IntKind.u8)) (sumW (writeW (writeW newD p) q)) (digW [])))))
                            (P (SV.av (AV.val Sh.bool false)))))
                        (P (SV.av (AV.val Sh.bool false))))))
                  (dmd ((List.length p * 1).ble 140737488355328)
                    (dmd
                      ((List.length p).beq (List.length p) && ((List.length p + List.length r) * 1).ble 140737488355328)
                      (ifB (teq (Sh.arr 32 (Sh.int IntKind.u8)) (sumW (writeW (writeW newD p) q)) (digW []))
                        (dmd
                          ((List.take (List.length p + List.length r) (List.drop 0 (List.append p r))).length.ble
                            140737488355328)
                          (ifB
                            (teq (Sh.arr 32 (Sh.int IntKind.u8)) (sumW (writeW (writeW newD p) r))
                              (digW (List.take (List.length p + List.length r) (List.drop 0 (List.append p r)))))
                            (P
                              (SV.av
                                (AV.val Sh.bool
                                  (teq (Sh.arr 32 (Sh.int IntKind.u8)) (sumW (writeW (writeW newD p) q)) (digW [])))))
                            (P (SV.av (AV.val Sh.bool false)))))
                        (P (SV.av (AV.val Sh.bool false)))))))
                (dmd ((List.length q * 1).ble 140737488355328)
                  (ifB ((List.length p).beq 0)
                    (ifB ((List.length r).beq 0)
                      (dmd ((List.take (List.length q) (List.drop 0 q)).length.ble 140737488355328)
                        (ifB
                          (teq (Sh.arr 32 (Sh.int IntKind.u8)) (sumW (writeW (writeW newD p) q))
                            (digW (List.take (List.length q) (List.drop 0 q))))
                          (ifB (teq (Sh.arr 32 (Sh.int IntKind.u8)) (sumW (writeW (writeW newD p) r)) (digW []))
                            (dmd ((List.take (List.length q) (List.drop 0 q)).length.ble 140737488355328)
                              (P
                                (SV.av
                                  (AV.val Sh.bool
                                    (teq (Sh.arr 32 (Sh.int IntKind.u8)) (sumW (writeW (writeW newD p) q))
                                      (digW (List.take (List.length q) (List.drop 0 q))))))))
                            (P (SV.av (AV.val Sh.bool false))))
                          (P (SV.av (AV.val Sh.bool false)))))
                      (dmd ((List.length r * 1).ble 140737488355328)
                        (dmd ((List.take (List.length q) (List.drop 0 q)).length.ble 140737488355328)
                          (ifB
                            (teq (Sh.arr 32 (Sh.int IntKind.u8)) (sumW (writeW (writeW newD p) q))
                              (digW (List.take (List.length q) (List.drop 0 q))))
                            (dmd ((List.take (List.length r) (List.drop 0 r)).length.ble 140737488355328)
                              (ifB
                                (teq (Sh.arr 32 (Sh.int IntKind.u8)) (sumW (writeW (writeW newD p) r))
                                  (digW (List.take (List.length r) (List.drop 0 r))))
                                (dmd ((List.take (List.length q) (List.drop 0 q)).length.ble 140737488355328)
                                  (P
                                    (SV.av
                                      (AV.val Sh.bool
                                        (teq (Sh.arr 32 (Sh.int IntKind.u8)) (sumW (writeW (writeW newD p) q))
                                          (digW (List.take (List.length q) (List.drop 0 q))))))))
                                (P (SV.av (AV.val Sh.bool false)))))
                            (P (SV.av (AV.val Sh.bool false)))))))
                    (dmd ((List.length p * 1).ble 140737488355328)
                      (dmd
                        ((List.length p).beq (List.length p) && ((List.length p + List.length r) * 1).ble 140737488355328)
                        (dmd ((List.take (List.length q) (List.drop 0 q)).length.ble 140737488355328)
                          (ifB
                            (teq (Sh.arr 32 (Sh.int IntKind.u8)) (sumW (writeW (writeW newD p) q))
                              (digW (List.take (List.length q) (List.drop 0 q))))
                            (dmd
                              ((List.take (List.length p + List.length r) (List.drop 0 (List.append p r))).length.ble
                                140737488355328)
                              (ifB
                                (teq (Sh.arr 32 (Sh.int IntKind.u8)) (sumW (writeW (writeW newD p) r))
                                  (digW (List.take (List.length p + List.length r) (List.drop 0 (List.append p r)))))
                                (dmd ((List.take (List.length q) (List.drop 0 q)).length.ble 140737488355328)
                                  (P
                                    (SV.av
                                      (AV.val Sh.bool
                                        (teq (Sh.arr 32 (Sh.int IntKind.u8)) (sumW (writeW (writeW newD p) q))
                                          (digW (List.take (List.length q) (List.drop 0 q))))))))
                                (P (SV.av (AV.val Sh.bool false)))))
                            (P (SV.av (AV.val Sh.bool false))))))))))
              (dmd ((List.length p * 1).ble 140737488355328)
                (dmd ((List.length p).beq (List.length p) && ((List.length p + List.length q) * 1).ble 140737488355328)
                  (ifB ((List.length p).beq 0)
                    (ifB ((List.length r).beq 0)
                      (dmd
                        ((List.take (List.length p + List.length q) (List.drop 0 (List.append p q))).length.ble
                          140737488355328)
                        (ifB
                          (teq (Sh.arr 32 (Sh.int IntKind.u8)) (sumW (writeW (writeW newD p) q))
                            (digW (List.take (List.length p + List.length q) (List.drop 0 (List.append p q)))))
                          (ifB (teq (Sh.arr 32 (Sh.int IntKind.u8)) (sumW (writeW (writeW newD p) r)) (digW []))
                            (dmd
                              ((List.take (List.length p + List.length q) (List.drop 0 (List.append p q))).length.ble
                                140737488355328)
                              (P
                                (SV.av
                                  (AV.val Sh.bool
                                    (teq (Sh.arr 32 (Sh.int IntKind.u8)) (sumW (writeW (writeW newD p) q))
                                      (digW
                                        (List.take (List.length p + List.length q) (List.drop 0 (List.append p q)))))))))
                            (P (SV.av (AV.val Sh.bool false))))
                          (P (SV.av (AV.val Sh.bool false)))))
                      (dmd ((List.length r * 1).ble 140737488355328)
                        (dmd
                          ((List.take (List.length p + List.length q) (List.drop 0 (List.append p q))).length.ble
                            140737488355328)
                          (ifB
                            (teq (Sh.arr 32 (Sh.int IntKind.u8)) (sumW (writeW (writeW newD p) q))
                              (digW (List.take (List.length p + List.length q) (List.drop 0 (List.append p q)))))
                            (dmd ((List.take (List.length r) (List.drop 0 r)).length.ble 140737488355328)
                              (ifB
                                (teq (Sh.arr 32 (Sh.int IntKind.u8)) (sumW (writeW (writeW newD p) r))
                                  (digW (List.take (List.length r) (List.drop 0 r))))
                                (dmd
                                  ((List.take (List.length p + List.length q) (List.drop 0 (List.append p q))).length.ble
                                    140737488355328)
                                  (P
                                    (SV.av
                                      (AV.val Sh.bool
                                        (teq (Sh.arr 32 (Sh.int IntKind.u8)) (sumW (writeW (writeW newD p) q))
                                          (digW
                                            (List.take (List.length p + List.length q)
                                              (List.drop 0 (List.append p q)))))))))
                                (P (SV.av (AV.val Sh.bool false)))))
                            (P (SV.av (AV.val Sh.bool false)))))))
                    (dmd ((List.length p * 1).ble 140737488355328)
                      (dmd
                        ((List.length p).beq (List.length p) && ((List.length p + List.length r) * 1).ble 140737488355328)
                        (dmd
                          ((List.take (List.length p + List.length q) (List.drop 0 (List.append p q))).length.ble
                            140737488355328)
                          (ifB
                            (teq (Sh.arr 32 (Sh.int IntKind.u8)) (sumW (writeW (writeW newD p) q))
                              (digW (List.take (List.length p + List.length q) (List.drop 0 (List.append p q)))))
                            (dmd
                              ((List.take (List.length p + List.length r) (List.drop 0 (List.append p r))).length.ble
                                140737488355328)
                              (ifB
                                (teq (Sh.arr 32 (Sh.int IntKind.u8)) (sumW (writeW (writeW newD p) r))
                                  (digW (List.take (List.length p + List.length r) (List.drop 0 (List.append p r)))))
                                (dmd
                                  ((List.take (List.length p + List.length q) (List.drop 0 (List.append p q))).length.ble
                                    140737488355328)
                                  (P
                                    (SV.av
                                      (AV.val Sh.bool
                                        (teq (Sh.arr 32 (Sh.int IntKind.u8)) (sumW (writeW (writeW newD p) q))
                                          (digW
                                            (List.take (List.length p + List.length q)
                                              (List.drop 0 (List.append p q)))))))))
                                (P (SV.av (AV.val Sh.bool false)))))
                            (P (SV.av (AV.val Sh.bool false)))))))))))))))) := by kernel_rfl
theorem dig_two (p q : List (BitVec 8)) : sumW (writeW (writeW newD p) q) = digW (p ++ q) := by rw [← writeW_app]; rfl
theorem dig_one (p : List (BitVec 8)) : sumW (writeW newD p) = digW p := rfl
theorem walkHashCopies (xs : HL [.sl u8S, .sl u8S, .sl u8S]) (h : okHLB 17179869184 [.sl u8S, .sl u8S, .sl u8S] xs) : PC (bx Tryd.prog GL) 4 (argsOf [.sl u8S, .sl u8S, .sl u8S] xs) (.av (.val .bool true)) := by
  obtain ⟨p, q, r, ⟨⟩⟩ := xs
  have h1 : List.length p * 1 ≤ 17179869184 := h.1.1
  have h2 : List.length q * 1 ≤ 17179869184 := h.2.1.1
  have h3 : List.length r * 1 ≤ 17179869184 := h.2.2.1.1
  clear h
  refine PC_of_fw (t := []) shA_ok H7_ok mixed Tryd.func4 (c := Tryd.f4.body.getD .skip) rfl (by kernel_rfl) (by kernel_rfl) loopsNil rfl ((fwHashCopies p q r _).mpr ?_)
  rw [dig_two, dig_two, dig_one]
  cases p with
  | cons x p =>
    have e1 := take_all (l := (x :: p) ++ q) (n := (x :: p).length + q.length) (by rw [List.length_append])
    have e2 := take_all (l := (x :: p) ++ r) (n := (x :: p).length + r.length) (by rw [List.length_append])
    simp only [dmd_and, dmd_beqn, beq_cons, ifB_false, ifB_true, teq_self, not_true, List.append_eq, e1, e2]
    rw [List.length_append, List.length_append]
    simp (disch := omega) only [dmd_ble]
  | nil =>
    cases q with
    | cons y q =>
      have e1 := take_all (l := y :: q) (n := (y :: q).length) rfl
      cases r with
      | cons z r =>
        have e2 := take_all (l := z :: r) (n := (z :: r).length) rfl
        simp only [dmd_and, dmd_beqn, beq_cons, beq_nil, ifB_false, ifB_true, teq_self, not_true, List.append_eq, e1, e2, List.nil_append]
        simp (disch := omega) only [dmd_ble, List.length_nil]
      | nil =>
        simp only [dmd_and, dmd_beqn, beq_cons, beq_nil, ifB_false, ifB_true, teq_self, not_true, List.append_eq, e1, List.nil_append]
        simp (disch := omega) only [dmd_ble, List.length_nil]
    | nil =>
      cases r with
      | cons z r =>
        have e2 := take_all (l := z :: r) (n := (z :: r).length) rfl
        simp only [dmd_and, dmd_beqn, beq_cons, beq_nil, ifB_false, ifB_true, teq_self, not_true, List.append_eq, e2, List.nil_append]
        simp (disch := omega) only [dmd_ble, List.length_nil]
      | nil =>
        simp only [dmd_and, dmd_beqn, beq_nil, ifB_false, ifB_true, teq_self, not_true, List.append_eq, List.nil_append]
        simp (disch := omega) only [dmd_ble, List.length_nil]
end Go.Proofs.YtonlmamfggfanaaDoor
