import Derived.Test.YtonlmamfggfanaaMs
namespace Go.Proofs.Ytonlmamfggfanaa
open Go.Ty

/-! ## Pads -/
noncomputable def S2c : CTab := (7, conT [.sl u8S, .sl u8S] equalF) :: (6, conT [u64S] fun xs => .av (.val (.sl u8S) (padW xs.1))) :: []
noncomputable abbrev S2 : Go.Ty.Cx := mkX Try.prog GL shA S2c
theorem S2_ok : ∀ p ∈ S2c, COK Try.prog GL p.1 p.2 := CCons equal_ok (CCons pad_ok CNil)
theorem fwHashPads (p : Sh.T (.sl u8S)) (q : Sh.T (.sl u8S)) (P : SV → Prop) : FW S2 Try.f4.ntmps (LTab.look []) Try.f4 (argsOf [.sl u8S, .sl u8S] (p, q, ())) P =
 (  ifB (!decide ((IntKind.i64.wrap ((((List.length p) : Nat) : Int) + (((padW (BitVec.ofInt 64 (((List.length p) : Nat) : Int))).length : Nat) : Int))).tmod 64 = 0))
    (P (SV.av (AV.val Sh.bool false)))
    (ifB (decide ((((padW (BitVec.ofInt 64 (((List.length p) : Nat) : Int))).length : Nat) : Int) < 9)) (P (SV.av (AV.val Sh.bool false)))
      (ifB (decide (72 < (((padW (BitVec.ofInt 64 (((List.length p) : Nat) : Int))).length : Nat) : Int))) (P (SV.av (AV.val Sh.bool false)))
        (dmd (decide (0 < (((padW (BitVec.ofInt 64 (((List.length p) : Nat) : Int))).length : Nat) : Int)))
          (ifB (!decide (rd (Sh.int IntKind.u8) (padW (BitVec.ofInt 64 (((List.length p) : Nat) : Int))) 0 = 128#8))
            (P (SV.av (AV.val Sh.bool false)))
            (ifB ((List.length p).beq 0)
              (ifB ((padW (BitVec.ofInt 64 (((List.length p) : Nat) : Int))).length.beq 0)
                (ifB ((List.length q).beq 0)
                  (ifB ((padW (BitVec.ofInt 64 (((List.length q) : Nat) : Int))).length.beq 0)
                    (P (SV.av (AV.val Sh.bool (teq Sh.bool true (teq (Sh.int IntKind.u8).sl p q)))))
                    (dmd (((padW (BitVec.ofInt 64 (((List.length q) : Nat) : Int))).length * 1).ble 140737488355328)
                      (P
                        (SV.av
                          (AV.val Sh.bool
                            (teq Sh.bool
                              (teq (Sh.int IntKind.u8).sl []
                                (List.take (padW (BitVec.ofInt 64 (((List.length q) : Nat) : Int))).length
                                  (List.drop 0 (padW (BitVec.ofInt 64 (((List.length q) : Nat) : Int))))))
                              (teq (Sh.int IntKind.u8).sl p q)))))))
                  (dmd ((List.length q * 1).ble 140737488355328)
                    (dmd
                      ((List.length q).beq (List.length q) &&
                        ((List.length q + (padW (BitVec.ofInt 64 (((List.length q) : Nat) : Int))).length) * 1).ble 140737488355328)
                      (P
                        (SV.av
                          (AV.val Sh.bool
                            (teq Sh.bool
                              (teq (Sh.int IntKind.u8).sl []
                                (List.take (List.length q + (padW (BitVec.ofInt 64 (((List.length q) : Nat) : Int))).length)
                                  (List.drop 0 (List.append q (padW (BitVec.ofInt 64 (((List.length q) : Nat) : Int)))))))
                              (teq (Sh.int IntKind.u8).sl p q))))))))
                (dmd (((padW (BitVec.ofInt 64 (((List.length p) : Nat) : Int))).length * 1).ble 140737488355328)
                  (ifB ((List.length q).beq 0)
                    (ifB ((padW (BitVec.ofInt 64 (((List.length q) : Nat) : Int))).length.beq 0)
                      (P
                        (SV.av
                          (AV.val Sh.bool
                            (teq Sh.bool
                              (teq (Sh.int IntKind.u8).sl
                                (List.take (padW (BitVec.ofInt 64 (((List.length p) : Nat) : Int))).length
                                  (List.drop 0 (padW (BitVec.ofInt 64 (((List.length p) : Nat) : Int)))))
                                [])
                              (teq (Sh.int IntKind.u8).sl p q)))))
                      (dmd (((padW (BitVec.ofInt 64 (((List.length q) : Nat) : Int))).length * 1).ble 140737488355328)
                        (P
                          (SV.av
                            (AV.val Sh.bool
                              (teq Sh.bool
                                (teq (Sh.int IntKind.u8).sl
                                  (List.take (padW (BitVec.ofInt 64 (((List.length p) : Nat) : Int))).length
                                    (List.drop 0 (padW (BitVec.ofInt 64 (((List.length p) : Nat) : Int)))))
                                  (List.take (padW (BitVec.ofInt 64 (((List.length q) : Nat) : Int))).length
                                    (List.drop 0 (padW (BitVec.ofInt 64 (((List.length q) : Nat) : Int))))))
                                (teq (Sh.int IntKind.u8).sl p q)))))))
                    (dmd ((List.length q * 1).ble 140737488355328)
                      (dmd
                        ((List.length q).beq (List.length q) &&
                          ((List.length q + (padW (BitVec.ofInt 64 (((List.length q) : Nat) : Int))).length) * 1).ble 140737488355328)
                        (P
                          (SV.av
                            (AV.val Sh.bool
                              (teq Sh.bool
                                (teq (Sh.int IntKind.u8).sl
                                  (List.take (padW (BitVec.ofInt 64 (((List.length p) : Nat) : Int))).length
                                    (List.drop 0 (padW (BitVec.ofInt 64 (((List.length p) : Nat) : Int)))))
                                  (List.take (List.length q + (padW (BitVec.ofInt 64 (((List.length q) : Nat) : Int))).length)
                                    (List.drop 0 (List.append q (padW (BitVec.ofInt 64 (((List.length q) : Nat) : Int)))))))
                                (teq (Sh.int IntKind.u8).sl p q))))))))))
              (dmd ((List.length p * 1).ble 140737488355328)
                (dmd
                  ((List.length p).beq (List.length p) &&
                    ((List.length p + (padW (BitVec.ofInt 64 (((List.length p) : Nat) : Int))).length) * 1).ble 140737488355328)
                  (ifB ((List.length q).beq 0)
                    (ifB ((padW (BitVec.ofInt 64 (((List.length q) : Nat) : Int))).length.beq 0)
                      (P
                        (SV.av
                          (AV.val Sh.bool
                            (teq Sh.bool
                              (teq (Sh.int IntKind.u8).sl
                                (List.take (List.length p + (padW (BitVec.ofInt 64 (((List.length p) : Nat) : Int))).length)
                                  (List.drop 0 (List.append p (padW (BitVec.ofInt 64 (((List.length p) : Nat) : Int))))))
                                [])
                              (teq (Sh.int IntKind.u8).sl p q)))))
                      (dmd (((padW (BitVec.ofInt 64 (((List.length q) : Nat) : Int))).length * 1).ble 140737488355328)
                        (P
                          (SV.av
                            (AV.val Sh.bool
                              (teq Sh.bool
                                (teq (Sh.int IntKind.u8).sl
                                  (List.take (List.length p + (padW (BitVec.ofInt 64 (((List.length p) : Nat) : Int))).length)
                                    (List.drop 0 (List.append p (padW (BitVec.ofInt 64 (((List.length p) : Nat) : Int))))))
                                  (List.take (padW (BitVec.ofInt 64 (((List.length q) : Nat) : Int))).length
                                    (List.drop 0 (padW (BitVec.ofInt 64 (((List.length q) : Nat) : Int))))))
                                (teq (Sh.int IntKind.u8).sl p q)))))))
                    (dmd ((List.length q * 1).ble 140737488355328)
                      (dmd
                        ((List.length q).beq (List.length q) &&
                          ((List.length q + (padW (BitVec.ofInt 64 (((List.length q) : Nat) : Int))).length) * 1).ble 140737488355328)
                        (P
                          (SV.av
                            (AV.val Sh.bool
                              (teq Sh.bool
                                (teq (Sh.int IntKind.u8).sl
                                  (List.take (List.length p + (padW (BitVec.ofInt 64 (((List.length p) : Nat) : Int))).length)
                                    (List.drop 0 (List.append p (padW (BitVec.ofInt 64 (((List.length p) : Nat) : Int))))))
                                  (List.take (List.length q + (padW (BitVec.ofInt 64 (((List.length q) : Nat) : Int))).length)
                                    (List.drop 0 (List.append q (padW (BitVec.ofInt 64 (((List.length q) : Nat) : Int)))))))
                                (teq (Sh.int IntKind.u8).sl p q)))))))))))))))) := by kernel_rfl
theorem dmd_ble {a b : Nat} {p : Prop} (h : a ≤ b) : dmd (Nat.ble a b) p = p := by rw [bleT h]; rfl
theorem dmd_and {a b : Bool} {p : Prop} : dmd (a && b) p = dmd a (dmd b p) := by cases a <;> cases b <;> rfl
theorem dmd_beqn {a : Nat} {p : Prop} : dmd (Nat.beq a a) p = p := by rw [Nat.beq_refl]; rfl
theorem beq_cons {α : Type} {x : α} {l : List α} : Nat.beq (x :: l).length 0 = false := rfl
theorem beq_nil {α : Type} : Nat.beq ([] : List α).length 0 = true := rfl
theorem take_all {l : List (BitVec 8)} {n : Nat} (h : n = l.length) : List.take n (List.drop 0 l) = l := drop0_take l n h
theorem padW_cons (n : BitVec 64) : padW n = 128#8 :: (List.replicate (padN n) 0#8 ++ tailB n 8) := rfl
/-- no two texts become one by theirs -/
theorem tail_n {m n : Nat} (hm : m < 2 ^ 61) (hn : n < 2 ^ 61) (h : tailB (BitVec.ofInt 64 ((m : Nat) : Int)) 8 = tailB (BitVec.ofInt 64 ((n : Nat) : Int)) 8) : m = n := by
  have key : ∀ x y : BitVec 64, tailB x 8 = tailB y 8 → 8#64 * x = 8#64 * y := by
    intro x y h
    have hj : ∀ j, j < 8 → BitVec.setWidth 8 ((8#64 * x) >>> (56 - 8 * j)) = BitVec.setWidth 8 ((8#64 * y) >>> (56 - 8 * j)) := by
      intro j hj
      have h1 : (tailB x 8)[j]? = (tailB y 8)[j]? := by rw [h]
      unfold tailB at h1
      rw [List.getElem?_map, List.getElem?_map, List.getElem?_range hj] at h1
      exact Option.some.inj h1
    apply BitVec.eq_of_getLsbD_eq
    intro i hi
    have h1 := congrArg (fun z : BitVec 8 => z.getLsbD (i % 8)) (hj (7 - i / 8) (by omega))
    simp only [BitVec.getLsbD_setWidth, BitVec.getLsbD_ushiftRight] at h1
    rw [show 56 - 8 * (7 - i / 8) + i % 8 = i by omega] at h1
    rw [decTr (show i % 8 < 8 by omega)] at h1
    simpa using h1
  have h1 := key _ _ h
  rw [BitVec.ofInt_natCast, BitVec.ofInt_natCast] at h1
  have h2 := congrArg BitVec.toNat h1
  rw [BitVec.toNat_mul, BitVec.toNat_mul, BitVec.toNat_ofNat, BitVec.toNat_ofNat] at h2
  have h2 : 8 * (m % 2 ^ 64) % 2 ^ 64 = 8 * (n % 2 ^ 64) % 2 ^ 64 := h2
  omega
theorem pads_inj {p q : List (BitVec 8)} (hp : p.length < 2 ^ 61) (hq : q.length < 2 ^ 61) (h : p ++ padW (BitVec.ofInt 64 ((p.length : Nat) : Int)) = q ++ padW (BitVec.ofInt 64 ((q.length : Nat) : Int))) : p = q := by
  have e : ∀ (x : List (BitVec 8)) (n : BitVec 64), x ++ padW n = (x ++ headP (padN n)) ++ tailB n 8 := fun x n => by unfold padW; rw [List.append_assoc]
  rw [e, e] at h
  have ht : tailB (BitVec.ofInt 64 ((p.length : Nat) : Int)) 8 = tailB (BitVec.ofInt 64 ((q.length : Nat) : Int)) 8 := (List.append_inj' h (by rw [tailB_len, tailB_len])).2
  have hl := tail_n hp hq ht
  rw [List.append_assoc, List.append_assoc] at h
  exact (List.append_inj h hl).1
theorem pads_eq {p q : List (BitVec 8)} (hp : p.length < 2 ^ 61) (hq : q.length < 2 ^ 61) : teq (.sl u8S) (p ++ padW (BitVec.ofInt 64 ((p.length : Nat) : Int))) (q ++ padW (BitVec.ofInt 64 ((q.length : Nat) : Int))) = teq (.sl u8S) p q := by
  rw [Bool.eq_iff_iff, teq_iff, teq_iff]
  exact ⟨fun h => pads_inj hp hq h, fun (h : p = q) => by rw [h]⟩
theorem teq_self {s : Sh} {x : s.T} : teq s x x = true := teq_of rfl
theorem walkHashPads (xs : HL [.sl u8S, .sl u8S]) (h : okHL [.sl u8S, .sl u8S] xs) : PC (bx Try.prog GL) 4 (argsOf [.sl u8S, .sl u8S] xs) (.av (.val .bool true)) := by
  obtain ⟨p, q, ⟨⟩⟩ := xs
  have h1 : List.length p * 1 ≤ 140737488351232 := h.1.1
  have h2 : List.length q * 1 ≤ 140737488351232 := h.2.1.1
  clear h
  refine PC_of_fw (t := []) shA_ok S2_ok mixed Try.func4 (c := Try.f4.body.getD .skip) rfl (by kernel_rfl) (by kernel_rfl) loopsNil rfl ((fwHashPads p q _).mpr ?_)
  have he := pads_eq (p := p) (q := q) (by omega) (by omega)
  have hlp := padW_len (BitVec.ofInt 64 ((p.length : Nat) : Int))
  have hlq := padW_len (BitVec.ofInt 64 ((q.length : Nat) : Int))
  have hp1 := padN_lt (BitVec.ofInt 64 ((p.length : Nat) : Int))
  have hq1 := padN_lt (BitVec.ofInt 64 ((q.length : Nat) : Int))
  have hcp := padW_cons (BitVec.ofInt 64 ((p.length : Nat) : Int))
  have hcq := padW_cons (BitVec.ofInt 64 ((q.length : Nat) : Int))
  have hz : IntKind.i64.wrap (((p.length : Nat) : Int) + (((padW (BitVec.ofInt 64 ((p.length : Nat) : Int))).length : Nat) : Int)) = ((p.length + (padW (BitVec.ofInt 64 ((p.length : Nat) : Int))).length : Nat) : Int) := i64w (by omega) (by omega)
  have hm : (((p.length + (padW (BitVec.ofInt 64 ((p.length : Nat) : Int))).length : Nat) : Int)).tmod 64 = 0 := by
    have e : (((p.length + (padW (BitVec.ofInt 64 ((p.length : Nat) : Int))).length : Nat) : Int)).tmod 64 = (((p.length + (padW (BitVec.ofInt 64 ((p.length : Nat) : Int))).length) % 64 : Nat) : Int) := (Int.ofNat_tmod _ 64).symm
    rw [e, hlp]
    unfold padN
    rw [BitVec.ofInt_natCast, BitVec.toNat_ofNat]
    omega
  rw [hz, hm]
  clear hz hm
  generalize padW (BitVec.ofInt 64 ((p.length : Nat) : Int)) = x at *
  generalize padW (BitVec.ofInt 64 ((q.length : Nat) : Int)) = y at *
  generalize List.replicate (padN (BitVec.ofInt 64 ((p.length : Nat) : Int))) 0#8 ++ tailB (BitVec.ofInt 64 ((p.length : Nat) : Int)) 8 = x' at hcp
  generalize List.replicate (padN (BitVec.ofInt 64 ((q.length : Nat) : Int))) 0#8 ++ tailB (BitVec.ofInt 64 ((q.length : Nat) : Int)) 8 = y' at hcq
  subst hcp hcq
  refine ifB_of (fun c => ?_) (fun _ => ifB_of (fun c => absurd (of_decide_eq_true c) (by omega)) (fun _ => ifB_of (fun c => absurd (of_decide_eq_true c) (by omega)) (fun _ => dmd_of (decTr (by omega)) (ifB_of (fun c => ?_) (fun _ => ?_)))))
  · cases c
  · cases c
  · have goal : ∀ b : Bool, b = true → SV.av (.val .bool b) = SV.av (.val .bool true) := fun b hb => by rw [hb]
    cases p with
    | cons u p =>
      have e1 := take_all (l := (u :: p) ++ (128#8 :: x')) (n := (u :: p).length + (128#8 :: x').length) (by rw [List.length_append])
      cases q with
      | cons v q =>
        have e2 := take_all (l := (v :: q) ++ (128#8 :: y')) (n := (v :: q).length + (128#8 :: y').length) (by rw [List.length_append])
        simp only [dmd_and, dmd_beqn, beq_cons, ifB_false, List.append_eq, e1, e2]
        simp (disch := omega) only [dmd_ble]
        exact goal _ (by rw [he]; exact teq_self (s := .bool))
      | nil =>
        have e2 := take_all (l := 128#8 :: y') (n := (128#8 :: y').length) rfl
        rw [List.nil_append] at he
        simp only [dmd_and, dmd_beqn, beq_cons, beq_nil, ifB_false, ifB_true, List.append_eq, e1, e2]
        simp (disch := omega) only [dmd_ble]
        exact goal _ (by rw [he]; exact teq_self (s := .bool))
    | nil =>
      have e1 := take_all (l := 128#8 :: x') (n := (128#8 :: x').length) rfl
      rw [List.nil_append] at he
      cases q with
      | cons v q =>
        have e2 := take_all (l := (v :: q) ++ (128#8 :: y')) (n := (v :: q).length + (128#8 :: y').length) (by rw [List.length_append])
        simp only [dmd_and, dmd_beqn, beq_cons, beq_nil, ifB_false, ifB_true, List.append_eq, e1, e2]
        simp (disch := omega) only [dmd_ble]
        exact goal _ (by rw [he]; exact teq_self (s := .bool))
      | nil =>
        have e2 := take_all (l := 128#8 :: y') (n := (128#8 :: y').length) rfl
        rw [List.nil_append] at he
        simp only [beq_cons, beq_nil, ifB_false, ifB_true, e1, e2]
        simp (disch := omega) only [dmd_ble]
        exact goal _ (by rw [he]; exact teq_self (s := .bool))
end Go.Proofs.Ytonlmamfggfanaa
