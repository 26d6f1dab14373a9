import Derived.Test.YtkookenoedbadaaDd
namespace Go.Proofs.Ytkookenoedbadaa
open Go.Ty

theorem wr_ok {l : List Itm} (h : wrE l = 0) : l.length ≤ 200 ∧ goodL l = true ∧ wrB l = encL l := by
  unfold wrE wrB wrO at *
  cases h1 : decide (l.length ≤ 200) with
  | false => rw [h1] at h; cases h
  | true => cases h2 : goodL l with
    | false => rw [h1, h2] at h; cases h
    | true => exact ⟨of_decide_eq_true h1, rfl, rfl⟩
theorem wr_of {l : List Itm} (h : l.length ≤ 200) (g : goodL l = true) : wrE l = 0 ∧ wrB l = encL l := by
  unfold wrE wrB wrO
  rw [decTr h, g]
  exact ⟨rfl, rfl⟩
theorem wr_no {l : List Itm} (h : ¬ wrE l = 0) : wrB l = [] := by
  unfold wrE wrB at *
  cases c : wrO l with
  | true => rw [c] at h; exact absurd rfl h
  | false => rfl
theorem ifB_z {n : Nat} {p q : Prop} (h1 : n = 0 → p) (h2 : n ≠ 0 → q) : ifB (Nat.beq n 0) p q := by
  cases n with
  | zero => exact h1 rfl
  | succ n => exact h2 (Nat.succ_ne_zero n)
noncomputable def D4c : CTab := (18, conA [.v (.sl itS)] wrF) :: (34, conA [.v (.sl u8S)] rdRF) :: (21, conA [.v (.sl itS), .v (.sl itS)] sameIF) :: (20, conA [.v (.sl u8S), .v (.sl u8S)] prefF) :: (19, conT [.sl u8S, .sl u8S] equalF) :: []
noncomputable abbrev D4 : Go.Ty.Cx := mkX Try.prog GL shA D4c
theorem D4_ok : ∀ p ∈ D4c, COK Try.prog GL p.1 p.2 := CCons write_ok (CCons read_ok (CCons sameI_ok (CCons prefix_ok (CCons equal_ok CNil))))
theorem fwDers  (P : SV → Prop) : FW D4 Try.f17.ntmps (LTab.look []) Try.f17 (argsOf [] (())) P =
 (  P (SV.av (AV.val Sh.bool true))) := by kernel_rfl
theorem ders_pc : PC (bx Try.prog GL) 17 [] (.av (.val .bool true)) :=
  PC_of_fw (t := []) (ct := D4c) (st := shA) (c := Try.f17.body.getD .skip) shA_ok D4_ok mixed Try.func17 rfl (by kernel_rfl) (by kernel_rfl) loopsNil rfl ((fwDers _).mpr rfl)
theorem ders_ok : COK Try.prog GL 17 (conT [] fun _ => .av (.val .bool true)) := conT_ok (fun _ _ => ders_pc) (fun _ => rfl)
noncomputable def D5c : CTab := (17, conT [] fun _ => .av (.val .bool true)) :: D4c
noncomputable abbrev D5 : Go.Ty.Cx := mkX Try.prog GL shA D5c
theorem D5_ok : ∀ p ∈ D5c, COK Try.prog GL p.1 p.2 := CCons ders_ok D4_ok
theorem fwDerBack (l : Sh.T (.sl itS)) (P : SV → Prop) : FW D4 Try.f10.ntmps (LTab.look []) Try.f10 (argsOf [.sl itS] (l, ())) P =
 (  ifB (!decide (wrE l = 0))
    (ifB (decide (wrE l = 0)) (P (SV.av (AV.val Sh.bool true)))
      (P (SV.av (AV.val Sh.bool (decide ((((wrB l).length : Nat) : Int) = 0))))))
    (ifB (decide (65536 < (((wrB l).length : Nat) : Int)))
      (ifB (decide (wrE l = 0)) (P (SV.av (AV.val Sh.bool true)))
        (P (SV.av (AV.val Sh.bool (decide ((((wrB l).length : Nat) : Int) = 0))))))
      (ifB (decide ((rdD (wrB l)).2 = 0))
        (dmd ((List.length l).ble 140737488355328)
          (P
            (SV.av
              (AV.val Sh.bool
                (teq ((Sh.int IntKind.u8).pair ((Sh.int IntKind.u8).sl.pair Sh.unit)).sl l (rdD (wrB l)).1)))))
        (P (SV.av (AV.val Sh.bool false)))))) := by kernel_rfl
theorem fwDerOne (b : Sh.T (.sl u8S)) (P : SV → Prop) : FW D4 Try.f11.ntmps (LTab.look []) Try.f11 (argsOf [.sl u8S] (b, ())) P =
 (  ifB (!decide ((rdD b).2 = 0)) (P (SV.av (AV.val Sh.bool (decide ((((rdD b).1.length : Nat) : Int) = 0)))))
    (ifB (decide (wrE (rdD b).1 = 0)) (P (SV.av (AV.val Sh.bool (teq (Sh.int IntKind.u8).sl b (wrB (rdD b).1)))))
      (P (SV.av (AV.val Sh.bool false))))) := by kernel_rfl
theorem fwDerJoins (l : Sh.T (.sl itS)) (m : Sh.T (.sl itS)) (P : SV → Prop) : FW D5 Try.f5.ntmps (LTab.look []) Try.f5 (argsOf [.sl itS, .sl itS] (l, m, ())) P =
 (  ifB (!decide (wrE l = 0)) (P (SV.av (AV.val Sh.bool true)))
    (ifB (!decide (wrE m = 0)) (P (SV.av (AV.val Sh.bool true)))
      (ifB (decide (100 < (((List.length l) : Nat) : Int))) (P (SV.av (AV.val Sh.bool true)))
        (ifB (decide (100 < (((List.length m) : Nat) : Int))) (P (SV.av (AV.val Sh.bool true)))
          (ifB ((List.length l).beq 0)
            (ifB ((List.length m).beq 0)
              (ifB ((wrB l).length.beq 0)
                (ifB ((wrB m).length.beq 0) (P (SV.av (AV.val Sh.bool true)))
                  (dmd (((wrB m).length * 1).ble 140737488355328)
                    (P
                      (SV.av
                        (AV.val Sh.bool
                          (teq (Sh.int IntKind.u8).sl (wrB []) (List.take (wrB m).length (List.drop 0 (wrB m)))))))))
                (dmd (((wrB l).length * 1).ble 140737488355328)
                  (dmd ((wrB l).length.beq (wrB l).length && (((wrB l).length + (wrB m).length) * 1).ble 140737488355328)
                    (P
                      (SV.av
                        (AV.val Sh.bool
                          (teq (Sh.int IntKind.u8).sl (wrB [])
                            (List.take ((wrB l).length + (wrB m).length) (List.drop 0 ((wrB l).append (wrB m)))))))))))
              (dmd ((List.length m * 32).ble 140737488355328)
                (ifB (decide (wrE (List.take (List.length m) (List.drop 0 m)) = 0))
                  (ifB ((wrB l).length.beq 0)
                    (ifB ((wrB m).length.beq 0)
                      (P
                        (SV.av
                          (AV.val Sh.bool
                            (teq (Sh.int IntKind.u8).sl (wrB (List.take (List.length m) (List.drop 0 m))) []))))
                      (dmd (((wrB m).length * 1).ble 140737488355328)
                        (P
                          (SV.av
                            (AV.val Sh.bool
                              (teq (Sh.int IntKind.u8).sl (wrB (List.take (List.length m) (List.drop 0 m)))
                                (List.take (wrB m).length (List.drop 0 (wrB m)))))))))
                    (dmd (((wrB l).length * 1).ble 140737488355328)
                      (dmd
                        ((wrB l).length.beq (wrB l).length && (((wrB l).length + (wrB m).length) * 1).ble 140737488355328)
                        (P
                          (SV.av
                            (AV.val Sh.bool
                              (teq (Sh.int IntKind.u8).sl (wrB (List.take (List.length m) (List.drop 0 m)))
                                (List.take ((wrB l).length + (wrB m).length)
                                  (List.drop 0 ((wrB l).append (wrB m)))))))))))
                  (P (SV.av (AV.val Sh.bool false))))))
            (dmd ((List.length l * 32).ble 140737488355328)
              (dmd ((List.length l).beq (List.length l) && ((List.length l + List.length m) * 32).ble 140737488355328)
                (ifB (decide (wrE (List.take (List.length l + List.length m) (List.drop 0 (List.append l m))) = 0))
                  (ifB ((wrB l).length.beq 0)
                    (ifB ((wrB m).length.beq 0)
                      (P
                        (SV.av
                          (AV.val Sh.bool
                            (teq (Sh.int IntKind.u8).sl
                              (wrB (List.take (List.length l + List.length m) (List.drop 0 (List.append l m)))) []))))
                      (dmd (((wrB m).length * 1).ble 140737488355328)
                        (P
                          (SV.av
                            (AV.val Sh.bool
                              (teq (Sh.int IntKind.u8).sl
                                (wrB (List.take (List.length l + List.length m) (List.drop 0 (List.append l m))))
                                (List.take (wrB m).length (List.drop 0 (wrB m)))))))))
                    (dmd (((wrB l).length * 1).ble 140737488355328)
                      (dmd
                        ((wrB l).length.beq (wrB l).length && (((wrB l).length + (wrB m).length) * 1).ble 140737488355328)
                        (P
                          (SV.av
                            (AV.val Sh.bool
                              (teq (Sh.int IntKind.u8).sl
                                (wrB (List.take (List.length l + List.length m) (List.drop 0 (List.append l m))))
                                (List.take ((wrB l).length + (wrB m).length)
                                  (List.drop 0 ((wrB l).append (wrB m)))))))))))
                  (P (SV.av (AV.val Sh.bool false))))))))))) := by kernel_rfl
theorem fwDerFront (x : Sh.T (itS)) (y : Sh.T (itS)) (P : SV → Prop) : FW D4 Try.f6.ntmps (LTab.look []) Try.f6 (argsOf [itS, itS] (x, y, ())) P =
 (  ifB (!decide (wrE [x] = 0)) (P (SV.av (AV.val Sh.bool true)))
    (ifB (!decide (wrE [y] = 0)) (P (SV.av (AV.val Sh.bool true)))
      (ifB (!prefB (wrB [x]) (wrB [y])) (P (SV.av (AV.val Sh.bool true)))
        (ifB (teq (Sh.int IntKind.u8).sl (wrB [x]) (wrB [y]))
          (P (SV.av (AV.val Sh.bool (teq ((Sh.int IntKind.u8).pair ((Sh.int IntKind.u8).sl.pair Sh.unit)).sl [x] [y]))))
          (P (SV.av (AV.val Sh.bool false))))))) := by kernel_rfl
theorem walkDerBack (xs : HL [.sl itS]) (h : okHL [.sl itS] xs) : PC (bx Try.prog GL) 10 (argsOf [.sl itS] xs) (.av (.val .bool true)) := by
  obtain ⟨l, ⟨⟩⟩ := xs
  have hl : List.length l * 32 ≤ 140737488351232 := h.1.1
  refine PC_of_fw (t := []) shA_ok D4_ok mixed Try.func10 (c := Try.f10.body.getD .skip) rfl (by kernel_rfl) (by kernel_rfl) loopsNil rfl ((fwDerBack l _).mpr ?_)
  refine ifB_neg (fun c => ifB_dec (fun d => absurd d c) (fun _ => pbool ?_)) (fun c => ifB_dec (fun _ => ifB_dec (fun _ => rfl) (fun d => absurd c d)) (fun d => ?_))
  · rw [wr_no c]; rfl
  · obtain ⟨h1, h2, h3⟩ := wr_ok c
    rw [h3] at d ⊢
    rw [rd_back h2 h1 (by omega)]
    exact dmd_of (bleT (by omega)) (pbool (teq_of rfl))
theorem walkDerOne (xs : HL [.sl u8S]) (_ : okHL [.sl u8S] xs) : PC (bx Try.prog GL) 11 (argsOf [.sl u8S] xs) (.av (.val .bool true)) := by
  obtain ⟨b, ⟨⟩⟩ := xs
  refine PC_of_fw (t := []) shA_ok D4_ok mixed Try.func11 (c := Try.f11.body.getD .skip) rfl (by kernel_rfl) (by kernel_rfl) loopsNil rfl ((fwDerOne b _).mpr ?_)
  refine ifB_neg (fun c => pbool ?_) (fun c => ?_)
  · rw [rd_err c]; rfl
  · obtain ⟨h1, h2, h3⟩ := rd_inv c
    obtain ⟨h4, h5⟩ := wr_of h3 h2
    refine ifB_dec (fun _ => pbool (teq_of ?_)) (fun d => absurd h4 d)
    rw [h5]; exact h1
theorem walkDerFront (xs : HL [itS, itS]) (_ : okHL [itS, itS] xs) : PC (bx Try.prog GL) 6 (argsOf [itS, itS] xs) (.av (.val .bool true)) := by
  obtain ⟨x, y, ⟨⟩⟩ := xs
  refine PC_of_fw (t := []) shA_ok D4_ok mixed Try.func6 (c := Try.f6.body.getD .skip) rfl (by kernel_rfl) (by kernel_rfl) loopsNil rfl ((fwDerFront x y _).mpr ?_)
  refine ifB_neg (fun _ => rfl) (fun c => ifB_neg (fun _ => rfl) (fun d => ?_))
  obtain ⟨_, g1, e1⟩ := wr_ok c
  obtain ⟨_, g2, e2⟩ := wr_ok d
  rw [encL_one] at e1 e2
  rw [e1, e2]
  cases hp : prefB (encB x) (encB y) with
  | false => rfl
  | true =>
    show ifB (teq (.sl u8S) (encB x) (encB y)) _ _
    unfold prefB at hp
    obtain ⟨_, h2⟩ := andB hp
    have h2 : List.take (encB y).length (encB x) = encB y := teq_iff.1 h2
    have h3 : encB x = encB y ++ (encB x).drop (encB y).length := by
      conv => lhs; rw [← List.take_append_drop (encB y).length (encB x)]
      rw [h2]
    have h4 := fst_enc (x := x) [] (goodL_cons.1 g1).1
    rw [List.append_nil, h3, fst_enc _ (goodL_cons.1 g2).1] at h4
    have h5 : y = x := congrArg (fun p => p.1) h4
    subst h5
    rw [teq_self (s := .sl u8S)]
    exact pbool (teq_of rfl)
theorem walkDerJoins (xs : HL [.sl itS, .sl itS]) (_ : okHL [.sl itS, .sl itS] xs) : PC (bx Try.prog GL) 5 (argsOf [.sl itS, .sl itS] xs) (.av (.val .bool true)) := by
  obtain ⟨l, m, ⟨⟩⟩ := xs
  refine PC_of_fw (t := []) shA_ok D5_ok mixed Try.func5 (c := Try.f5.body.getD .skip) rfl (by kernel_rfl) (by kernel_rfl) loopsNil rfl ((fwDerJoins l m _).mpr ?_)
  refine ifB_neg (fun _ => rfl) (fun c => ifB_neg (fun _ => rfl) (fun d => ifB_dec (fun _ => rfl) (fun e => ifB_dec (fun _ => rfl) (fun f => ?_))))
  obtain ⟨_, g1, e1⟩ := wr_ok c
  obtain ⟨_, g2, e2⟩ := wr_ok d
  have hl : l.length ≤ 100 := by omega
  have hm : m.length ≤ 100 := by omega
  have b1 := encL_le g1
  have b2 := encL_le g2
  have z : ∀ {l : List Itm}, l.length = 0 → (encL l).length = 0 := fun {l} h => by rw [List.eq_nil_of_length_eq_zero h]; rfl
  have z' : ∀ {l : List Itm}, (encL l).length = 0 → l.length = 0 := fun {l} h => by have := encL_ge l; omega
  have em : List.take (List.length m) (List.drop 0 m) = m := drop0_take _ _ rfl
  have ea : List.take (List.length l + List.length m) (List.drop 0 (List.append l m)) = l ++ m := drop0_take (l ++ m) _ List.length_append.symm
  rw [e1, e2, em, ea]
  have fm : List.take (encL m).length (List.drop 0 (encL m)) = encL m := drop0_take _ _ rfl
  have fa : List.take ((encL l).length + (encL m).length) (List.drop 0 ((encL l).append (encL m))) = encL l ++ encL m := drop0_take (encL l ++ encL m) _ List.length_append.symm
  rw [fm, fa]
  have ga : goodL (l ++ m) = true := by
    unfold goodL at *
    rw [List.all_append, g1, g2]; rfl
  obtain ⟨h4, h5⟩ := wr_of (l := l ++ m) (by rw [List.length_append]; omega) ga
  rw [h4, h5, e2, d]
  refine ifB_z (fun a => ifB_z (fun b => ?_) (fun b => ?_)) (fun a => ?_)
  · exact ifB_z (fun _ => ifB_z (fun _ => rfl) (fun c => absurd (z b) c)) (fun c => absurd (z a) c)
  · exact dmd_of (bleT (by omega)) (ifB_z (fun _ => ifB_z (fun c => absurd (z' c) b) (fun _ => dmd_of (bleT (by omega)) (pbool (teq_of rfl)))) (fun c => absurd (z a) c))
  · exact dmd_of (bleT (by omega)) (dmd_of (andT (beqn _) (bleT (by omega))) (ifB_z (fun c => absurd (z' c) a) (fun _ => dmd_of (bleT (by omega)) (dmd_of (andT (beqn _) (bleT (by omega))) (pbool (teq_of (encL_app l m)))))))

/-! ## Cuts -/
abbrev Idc : List It := [.v 0 (.sl itS), .v 1 i64S, .v 7 (.sl itS), .v 8 i64S, .v 9 i64S, .v 10 i64S]
abbrev odc : List (Nat × List It) := [(0, [.v 7 (.sl itS), .v 8 i64S])]
abbrev ldc : List It := [.v 4 .bool]
def okdc (l : List Itm) (k : Nat) (m : List Itm) (f : Int) : Prop :=
  (∃ j, j ≤ l.length ∧ (encL (l.take j)).length = k ∧ (∀ i, i < j → (encL (l.take i)).length ≠ k) ∧ m = l.take j ∧ f = 0) ∨ ((∀ i, i ≤ l.length → (encL (l.take i)).length ≠ k) ∧ m = [] ∧ f = 3)
noncomputable def Qdc : LQ Idc ldc odc := fun x Kr Kx => ∃ (l m : List Itm) (k : Nat) (f : Int), x = (l, ((k : Nat) : Int), m, f, (0 : Int), (0 : Int), ()) ∧ (l.length ≤ 200 ∧ goodL l = true ∧ okdc l k m f) ∧ (Kr (true, ()) ∧ Kx.1 ([], 3, ()))
noncomputable def bdc : Code := Try.f12.body.getD .skip
noncomputable abbrev Ldc : LTab := [(9, ptL Idc ldc odc Qdc)]
theorem rounddc (l : List (Sh.T itS)) (k : Int) (m : List (Sh.T itS)) (f n i : Int) (Kn : HI Idc → Prop) (Kr : HI ldc → Prop) (Kx : HP odc) : roundT (W D5 Try.f12.ntmps (LTab.look Ldc) (bodyAt bdc 9)) Idc ldc odc (l, k, m, f, n, i, ()) Kn Kr Kx =
 (  ifB (decide (i ≤ ((l.length : Nat) : Int)))
    (ifB (decide (n = k))
      (ifB (decide (f = 0))
        (dmd (decide (0 ≤ i))
          (dmd (Nat.ble 0 i.toNat && i.toNat.ble l.length)
            (dmd ((List.drop 0 (List.take i.toNat l)).length.ble 140737488355328)
              (Kr
                (teq ((Sh.int IntKind.u8).pair ((Sh.int IntKind.u8).sl.pair Sh.unit)).sl
                    (List.drop 0 (List.take i.toNat l)) m,
                  PUnit.unit)))))
        (Kr (false, PUnit.unit)))
      (ifB (decide (i < ((l.length : Nat) : Int)))
        (dmd (decide (0 ≤ IntKind.i64.wrap (i + 1)))
          (dmd (decide (0 ≤ i))
            (dmd (i.toNat.ble (IntKind.i64.wrap (i + 1)).toNat && (IntKind.i64.wrap (i + 1)).toNat.ble l.length)
              (Kn
                (l, k, m, f,
                  IntKind.i64.wrap (n + (((wrB (List.drop i.toNat (List.take (IntKind.i64.wrap (i + 1)).toNat l))).length : Nat) : Int)),
                  IntKind.i64.wrap (i + 1), PUnit.unit)))))
        (Kn (l, k, m, f, n, IntKind.i64.wrap (i + 1), PUnit.unit))))
    (Kx.1 (m, f, PUnit.unit))) := by kernel_rfl
theorem fwDerCuts (l : Sh.T (.sl itS)) (k : Sh.T (i64S)) (P : SV → Prop) : FW D5 Try.f12.ntmps (LTab.look Ldc) Try.f12 (argsOf [.sl itS, i64S] (l, k, ())) P =
 (  ifB (!decide (wrE l = 0)) (P (SV.av (AV.val Sh.bool true)))
    (ifB (decide (65536 < (((wrB l).length : Nat) : Int))) (P (SV.av (AV.val Sh.bool true)))
      (ifB (decide (k < 0)) (P (SV.av (AV.val Sh.bool true)))
        (ifB (decide ((((wrB l).length : Nat) : Int) < k)) (P (SV.av (AV.val Sh.bool true)))
          (dmd (decide (0 ≤ k))
            (dmd (Nat.ble 0 (Int.toNat k) && (Int.toNat k).ble (wrB l).length)
              (Qdc
                (l, k, (rdD (List.drop 0 (List.take (Int.toNat k) (wrB l)))).1,
                  (rdD (List.drop 0 (List.take (Int.toNat k) (wrB l)))).2, 0, 0, PUnit.unit)
                (fun x => P (SV.av (AV.val Sh.bool x.1)))
                (fun x =>
                  ifB (decide (x.2.1 = 3)) (P (SV.av (AV.val Sh.bool (decide ((((List.length x.1) : Nat) : Int) = 0)))))
                    (P (SV.av (AV.val Sh.bool false))),
                  PUnit.unit)))))))) := by kernel_rfl
theorem good_tk {l : List Itm} (i : Nat) (h : goodL l = true) : goodL (l.take i) = true := by
  unfold goodL at *
  rw [List.all_eq_true] at *
  exact fun x hx => h x (List.mem_of_mem_take hx)
theorem good_dt {l : List Itm} (i : Nat) (h : goodL l = true) : goodL ((l.take (i + 1)).drop i) = true := by
  have h := good_tk (i + 1) h
  unfold goodL at *
  rw [List.all_eq_true] at *
  exact fun x hx => h x (List.mem_of_mem_drop hx)
theorem enc_step {l : List Itm} {i : Nat} : (encL (l.take (i + 1))).length = (encL (l.take i)).length + (encL ((l.take (i + 1)).drop i)).length := by
  conv => lhs; rw [← List.take_append_drop i (l.take (i + 1))]
  rw [encL_app, List.length_append, List.take_take, Nat.min_eq_left (Nat.le_succ i)]
theorem cut_next {l m : List Itm} {k i : Nat} {f : Int} (hl : l.length ≤ 200) (hg : goodL l = true) (hi : i ≤ l.length) (hk : (encL (l.take i)).length ≠ k) {Kn : HI Idc → Prop} {Kr : HI ldc → Prop} {Kx : HP odc}
    (h : Kn (l, ((k : Nat) : Int), m, f, (((encL (l.take (i + 1))).length : Nat) : Int), ((i + 1 : Nat) : Int), ())) :
    roundT (W D5 Try.f12.ntmps (LTab.look Ldc) (bodyAt bdc 9)) Idc ldc odc (l, ((k : Nat) : Int), m, f, (((encL (l.take i)).length : Nat) : Int), ((i : Nat) : Int), ()) Kn Kr Kx := by
  have b1 := encL_le (good_tk (i + 1) hg)
  have b2 : (l.take (i + 1)).length ≤ 200 := by rw [List.length_take]; omega
  rw [rounddc, i64w (a := (i : Int) + 1) (n := i + 1) (by omega) (by omega)]
  refine ifB_dec (fun _ => ifB_dec (fun c => absurd c (by omega)) (fun _ => ifB_dec (fun c => ?_) (fun c => ?_))) (fun c => absurd (show (i : Int) ≤ ((l.length : Nat) : Int) by omega) c)
  · rw [Int.toNat_natCast, Int.toNat_natCast, (wr_of (l := (l.take (i + 1)).drop i) (by rw [List.length_drop]; omega) (good_dt i hg)).2]
    have e := enc_step (l := l) (i := i)
    rw [i64w (a := (((encL (l.take i)).length : Nat) : Int) + (((encL ((l.take (i + 1)).drop i)).length : Nat) : Int)) (n := (encL (l.take (i + 1))).length) (by omega) (by omega)]
    exact dmd_of (decTr (by omega)) (dmd_of (decTr (by omega)) (dmd_of (andT (bleT (by omega)) (bleT (by omega))) h))
  · have e : l.take (i + 1) = l.take i := by rw [List.take_of_length_le (by omega), List.take_of_length_le (by omega)]
    rw [e] at h
    exact h
theorem loopdc : ∀ x Kr Kx, Qdc x Kr Kx → ∃ n, untl (W D5 Try.f12.ntmps (LTab.look Ldc) (bodyAt bdc 9)) Idc ldc odc n x Kr Kx := by
  rintro x Kr Kx ⟨l, m, k, f, ex, ⟨hl, hg, hc⟩, hr, hx⟩
  rw [ex]
  rcases hc with ⟨j, h1, h2, h3, em, ef⟩ | ⟨h3, em, ef⟩
  · refine untl_up (F := W D5 Try.f12.ntmps (LTab.look Ldc) (bodyAt bdc 9)) (l := Idc) (lr := ldc) (lx := odc) (Kr := Kr) (Kx := Kx) (st := fun i => (l, ((k : Nat) : Int), m, f, (((encL (l.take i)).length : Nat) : Int), ((i : Nat) : Int), ())) j (fun i hi Kn h => cut_next hl hg (by omega) (h3 i hi) h) (fun Kn => ?_)
    rw [rounddc, ef, em, Int.toNat_natCast, List.drop_zero]
    refine ifB_dec (fun _ => ifB_dec (fun _ => ?_) (fun c => absurd (show (((encL (l.take j)).length : Nat) : Int) = ((k : Nat) : Int) by omega) c)) (fun c => absurd (show (j : Int) ≤ ((l.length : Nat) : Int) by omega) c)
    refine dmd_of (andT rfl (bleT h1)) (dmd_of (bleT (by rw [List.length_take]; omega)) ?_)
    rw [teq_of (s := .sl itS) rfl]; exact hr
  · have key := untl_up (F := W D5 Try.f12.ntmps (LTab.look Ldc) (bodyAt bdc 9)) (l := Idc) (lr := ldc) (lx := odc) (Kr := Kr) (Kx := Kx) (st := fun i => (l, ((k : Nat) : Int), m, f, (((encL (l.take i)).length : Nat) : Int), ((i : Nat) : Int), ())) (l.length + 1) (fun i hi Kn h => cut_next hl hg (Nat.le_of_lt_succ hi) (h3 i (Nat.le_of_lt_succ hi)) h) (fun Kn => ?_)
    · exact key
    rw [rounddc, em, ef]
    exact ifB_dec (fun c => absurd c (by omega)) (fun _ => hx)
theorem cuts_okdc {l : List Itm} {n : Nat} (hl : l.length ≤ 200) (hg : goodL l = true) (hn : n ≤ (encL l).length) (hb : (encL l).length ≤ 65536) : okdc l n (rdD ((encL l).take n)).1 (rdD ((encL l).take n)).2 := by
  rcases cutc l n hn with ⟨j, h1, h2, h3⟩ | ⟨l1, x, l2, el, h1, h2, h3⟩
  · refine .inl ⟨j, h1, h2, h3, ?_⟩
    have es : encL l = encL (l.take j) ++ encL (l.drop j) := by rw [← encL_app, List.take_append_drop]
    have ee : (encL l).take n = encL (l.take j) := by rw [← h2, es, take_app]
    rw [ee, rd_back (good_tk j hg) (by rw [List.length_take]; omega) (by omega)]
    exact ⟨rfl, rfl⟩
  · refine .inr ⟨h3, ?_⟩
    subst el
    rw [rd_cut hg hl hb h1 h2]
    exact ⟨rfl, rfl⟩
theorem cuts_fw (l : List Itm) (k : Int) : FW D5 Try.f12.ntmps (LTab.look Ldc) Try.f12 (argsOf [.sl itS, i64S] (l, k, ())) (fun r => r = .av (.val .bool true)) := by
  rw [fwDerCuts]
  refine ifB_neg (fun _ => rfl) (fun c => ifB_dec (fun _ => rfl) (fun d => ifB_dec (fun _ => rfl) (fun e => ifB_dec (fun _ => rfl) (fun f => ?_))))
  obtain ⟨hl, hg, e1⟩ := wr_ok c
  rw [e1] at d f ⊢
  have e : ¬ k < (0 : Int) := e
  have f : ¬ (((encL l).length : Nat) : Int) < k := f
  obtain ⟨n, rfl⟩ := Int.eq_ofNat_of_zero_le (show 0 ≤ k by omega)
  rw [List.drop_zero, Int.toNat_natCast]
  have hK := cuts_okdc (l := l) (n := n) hl hg (by omega) (by omega)
  generalize rdD ((encL l).take n) = r at *
  obtain ⟨m, e⟩ := r
  have hn : n ≤ (encL l).length := by omega
  exact dmd_of (decTr (Int.natCast_nonneg n)) (dmd_of (andT (bleT (Nat.zero_le _)) (bleT hn)) ⟨l, m, n, e, rfl, ⟨hl, hg, hK⟩, rfl, rfl⟩)
theorem walkDerCuts (xs : HL [.sl itS, i64S]) (_ : okHL [.sl itS, i64S] xs) : PC (bx Try.prog GL) 12 (argsOf [.sl itS, i64S] xs) (.av (.val .bool true)) :=
  PC_of_fw (t := Ldc) shA_ok D5_ok mixed Try.func12 (c := bdc) rfl (by kernel_rfl) (by kernel_rfl) (loopsOK (by kernel_rfl) (LTCons (loop_of shA_ok D5_ok mixed (loopsOK (by kernel_rfl) (LTCons (noLoop (by kernel_rfl)) LTNil)) (by kernel_rfl) loopdc) LTNil)) rfl (cuts_fw xs.1 xs.2.1)
end Go.Proofs.Ytkookenoedbadaa
