import Derived.Test.YtndijgjdmookmaaDoorPl
namespace Go.Proofs.YtndijgjdmookmaaDoor
open Go.Ty

/-! ## Laws of locks -/
theorem wr64 {n : Int} (h1 : -9223372036854775808 ≤ n) (h2 : n ≤ 9223372036854775807) : IntKind.i64.wrap n = n := IntWalk.i64_in _ ⟨h1, h2⟩
def Inv (x : Lok) (k a : List (BitVec 8)) (w : Int) : Prop := x.1 = k ∧ x.2.1.1 = stD k a 8 ∧ leftN x = 3 - w ∧ 0 ≤ w ∧ w ≤ 3
def nextW (e w : Int) : Int := bif decide (e = 10) then w + 1 else bif decide (e = 0) then 0 else w
theorem inv_new (k a : List (BitVec 8)) : Inv (newL k a) k a 0 := ⟨rfl, rfl, rfl, by decide, by decide⟩
theorem leftN_with (x : Lok) (n : Int) : leftN (withL x n) = n := rfl
theorem inv_try {x : Lok} {k a : List (BitVec 8)} {w : Int} (h : Inv x k a w) (p : List (BitVec 8)) : Inv (tryG x p) k a (nextW (tryE x p) w) ∧ ((w = 3 ∧ tryE x p = 11) ∨ (w < 3 ∧ tryE x p = 0) ∨ (w < 3 ∧ tryE x p = 10)) := by
  obtain ⟨h1, h2, h3, h4, h5⟩ := h
  by_cases d : leftN x = 0
  · have e : tryE x p = 11 := by unfold tryE; exact cp (decTr d)
    have g : tryG x p = x := by unfold tryG; exact cp (decTr d)
    rw [e, g]
    exact ⟨⟨h1, h2, h3, h4, h5⟩, .inl ⟨by omega, rfl⟩⟩
  · cases c : okB x p with
    | true =>
      have e : tryE x p = 0 := by unfold tryE; rw [cn (decFa d), cp c]
      have g : tryG x p = withL x 3 := by unfold tryG; rw [cn (decFa d), cp c]
      rw [e, g]
      exact ⟨⟨h1, h2, rfl, Int.le_refl 0, (by decide : (0 : Int) ≤ 3)⟩, .inr (.inl ⟨by omega, rfl⟩)⟩
    | false =>
      have e : tryE x p = 10 := by unfold tryE; rw [cn (decFa d), cn c]
      have g : tryG x p = withL x (leftN x - 1) := by unfold tryG; rw [cn (decFa d), cn c, wr64 (by omega) (by omega)]
      rw [e, g]
      exact ⟨⟨h1, h2, by rw [leftN_with]; show leftN x - 1 = 3 - (w + 1); omega, by show 0 ≤ w + 1; omega, by show w + 1 ≤ 3; omega⟩, .inr (.inr ⟨by omega, rfl⟩)⟩
/-- who knows it opens -/
theorem try_right {x : Lok} {k a : List (BitVec 8)} {w : Int} (h : Inv x k a w) (hw : w < 3) : tryE x a = 0 := by
  obtain ⟨h1, h2, h3, _, _⟩ := h
  unfold tryE
  rw [cn (decFa (by omega)), cp]
  unfold okB
  rw [h1, h2]
  exact teq_self
noncomputable def runX (x : Lok) (l : List (List (BitVec 8))) : Nat → Lok
  | 0 => x
  | i + 1 => tryG (runX x l i) (rd (.sl u8S) l i)
noncomputable def runW (x : Lok) (l : List (List (BitVec 8))) : Nat → Int
  | 0 => 0
  | i + 1 => nextW (tryE (runX x l i) (rd (.sl u8S) l i)) (runW x l i)
theorem inv_run (k a : List (BitVec 8)) (l : List (List (BitVec 8))) : ∀ i, Inv (runX (newL k a) l i) k a (runW (newL k a) l i)
  | 0 => inv_new k a
  | i + 1 => (inv_try (inv_run k a l i) _).1
def smL (l : List (List (BitVec 8))) : Prop := ∀ p ∈ l, List.length p ≤ 140737488355328
theorem sm_ok {l : List (List (BitVec 8))} (h : ∀ x ∈ l, Sh.okTB 140737488351232 (.sl u8S) x) : smL l := fun x hx => by
  have h3 : List.length x * 1 ≤ 140737488351232 := (h x hx).1
  omega
theorem smL_rd {l : List (List (BitVec 8))} {i : Nat} (h : smL l) (hi : i < l.length) : (rd (.sl u8S) l i).length ≤ 140737488355328 := by
  rw [rd_at hi]; exact h _ (List.getElem_mem hi)
abbrev Ipl : List It := [.v 1 (.sl u8S), .v 2 (.sl u8S), .p 9 2000 lkS, .v 11 i64S, .v 45 (.sl (.sl u8S)), .v 46 i64S, .v 47 i64S]
abbrev opl : List (Nat × List It) := [(0, [.v 1 (.sl u8S), .v 2 (.sl u8S), .p 9 2000 lkS, .v 11 i64S])]
noncomputable def Qpl : LQ Ipl [.v 8 .bool] opl := fun z _ Kx => ∃ (k a b : List (BitVec 8)) (l : List (List (BitVec 8))), z = (a, b, newL k a, (0 : Int), l, ((l.length : Nat) : Int), (0 : Int), ()) ∧ (k.length ≤ 140737488355328 ∧ l.length ≤ 60 ∧ smL l) ∧ ∀ x w, Inv x k a w → Kx.1 (a, b, x, w, ())
noncomputable def bpl : Code := Tryd.f3.body.getD .skip
noncomputable abbrev Lpl : LTab := [(6, ptL Ipl [.v 8 .bool] opl Qpl)]
theorem roundpl (a b : List (BitVec 8)) (x : Lok) (w : Int) (l : List (List (BitVec 8))) (m i : Int) (Kn : HI Ipl → Prop) (Kr : HI [.v 8 .bool] → Prop) (Kx : HP opl) : roundT (W L2 Tryd.f3.ntmps (LTab.look Lpl) (bodyAt bpl 6)) Ipl [.v 8 .bool] opl (a, b, x, w, l, m, i, ()) Kn Kr Kx =
 (  ifB (decide (i < m))
    (dmd (decide (0 ≤ i) && decide (i < ((l.length : Nat) : Int)))
      (dmd ((List.length x.1).ble 140737488355328)
        (dmd ((List.length (rd (Sh.int IntKind.u8).sl l i.toNat)).ble 140737488355328)
          (ifB (decide (w = 3))
            (ifB (!decide (tryE x (rd (Sh.int IntKind.u8).sl l i.toNat) = 11)) (Kr (false, PUnit.unit))
              (ifB (decide (w < 3))
                (ifB (decide (tryE x (rd (Sh.int IntKind.u8).sl l i.toNat) = 11)) (Kr (false, PUnit.unit))
                  (ifB (decide (tryE x (rd (Sh.int IntKind.u8).sl l i.toNat) = 10))
                    (ifB
                      (!decide
                          (leftN (tryG x (rd (Sh.int IntKind.u8).sl l i.toNat)) =
                            IntKind.i64.wrap (3 - IntKind.i64.wrap (w + 1))))
                      (Kr (false, PUnit.unit))
                      (Kn
                        (a, b, tryG x (rd (Sh.int IntKind.u8).sl l i.toNat), IntKind.i64.wrap (w + 1), l, m,
                          IntKind.i64.wrap (i + 1), PUnit.unit)))
                    (ifB (decide (tryE x (rd (Sh.int IntKind.u8).sl l i.toNat) = 0))
                      (ifB (!decide (leftN (tryG x (rd (Sh.int IntKind.u8).sl l i.toNat)) = 3)) (Kr (false, PUnit.unit))
                        (Kn
                          (a, b, tryG x (rd (Sh.int IntKind.u8).sl l i.toNat), 0, l, m, IntKind.i64.wrap (i + 1),
                            PUnit.unit)))
                      (ifB (!decide (leftN (tryG x (rd (Sh.int IntKind.u8).sl l i.toNat)) = IntKind.i64.wrap (3 - w)))
                        (Kr (false, PUnit.unit))
                        (Kn
                          (a, b, tryG x (rd (Sh.int IntKind.u8).sl l i.toNat), w, l, m, IntKind.i64.wrap (i + 1),
                            PUnit.unit))))))
                (ifB (decide (tryE x (rd (Sh.int IntKind.u8).sl l i.toNat) = 10))
                  (ifB
                    (!decide
                        (leftN (tryG x (rd (Sh.int IntKind.u8).sl l i.toNat)) =
                          IntKind.i64.wrap (3 - IntKind.i64.wrap (w + 1))))
                    (Kr (false, PUnit.unit))
                    (Kn
                      (a, b, tryG x (rd (Sh.int IntKind.u8).sl l i.toNat), IntKind.i64.wrap (w + 1), l, m,
                        IntKind.i64.wrap (i + 1), PUnit.unit)))
                  (ifB (decide (tryE x (rd (Sh.int IntKind.u8).sl l i.toNat) = 0))
                    (ifB (!decide (leftN (tryG x (rd (Sh.int IntKind.u8).sl l i.toNat)) = 3)) (Kr (false, PUnit.unit))
                      (Kn
                        (a, b, tryG x (rd (Sh.int IntKind.u8).sl l i.toNat), 0, l, m, IntKind.i64.wrap (i + 1),
                          PUnit.unit)))
                    (ifB (!decide (leftN (tryG x (rd (Sh.int IntKind.u8).sl l i.toNat)) = IntKind.i64.wrap (3 - w)))
                      (Kr (false, PUnit.unit))
                      (Kn
                        (a, b, tryG x (rd (Sh.int IntKind.u8).sl l i.toNat), w, l, m, IntKind.i64.wrap (i + 1),
                          PUnit.unit)))))))
            (ifB (decide (w < 3))
              (ifB (decide (tryE x (rd (Sh.int IntKind.u8).sl l i.toNat) = 11)) (Kr (false, PUnit.unit))
                (ifB (decide (tryE x (rd (Sh.int IntKind.u8).sl l i.toNat) = 10))
                  (ifB
                    (!decide
                        (leftN (tryG x (rd (Sh.int IntKind.u8).sl l i.toNat)) =
                          IntKind.i64.wrap (3 - IntKind.i64.wrap (w + 1))))
                    (Kr (false, PUnit.unit))
                    (Kn
                      (a, b, tryG x (rd (Sh.int IntKind.u8).sl l i.toNat), IntKind.i64.wrap (w + 1), l, m,
                        IntKind.i64.wrap (i + 1), PUnit.unit)))
                  (ifB (decide (tryE x (rd (Sh.int IntKind.u8).sl l i.toNat) = 0))
                    (ifB (!decide (leftN (tryG x (rd (Sh.int IntKind.u8).sl l i.toNat)) = 3)) (Kr (false, PUnit.unit))
                      (Kn
                        (a, b, tryG x (rd (Sh.int IntKind.u8).sl l i.toNat), 0, l, m, IntKind.i64.wrap (i + 1),
                          PUnit.unit)))
                    (ifB (!decide (leftN (tryG x (rd (Sh.int IntKind.u8).sl l i.toNat)) = IntKind.i64.wrap (3 - w)))
                      (Kr (false, PUnit.unit))
                      (Kn
                        (a, b, tryG x (rd (Sh.int IntKind.u8).sl l i.toNat), w, l, m, IntKind.i64.wrap (i + 1),
                          PUnit.unit))))))
              (ifB (decide (tryE x (rd (Sh.int IntKind.u8).sl l i.toNat) = 10))
                (ifB
                  (!decide
                      (leftN (tryG x (rd (Sh.int IntKind.u8).sl l i.toNat)) =
                        IntKind.i64.wrap (3 - IntKind.i64.wrap (w + 1))))
                  (Kr (false, PUnit.unit))
                  (Kn
                    (a, b, tryG x (rd (Sh.int IntKind.u8).sl l i.toNat), IntKind.i64.wrap (w + 1), l, m,
                      IntKind.i64.wrap (i + 1), PUnit.unit)))
                (ifB (decide (tryE x (rd (Sh.int IntKind.u8).sl l i.toNat) = 0))
                  (ifB (!decide (leftN (tryG x (rd (Sh.int IntKind.u8).sl l i.toNat)) = 3)) (Kr (false, PUnit.unit))
                    (Kn
                      (a, b, tryG x (rd (Sh.int IntKind.u8).sl l i.toNat), 0, l, m, IntKind.i64.wrap (i + 1),
                        PUnit.unit)))
                  (ifB (!decide (leftN (tryG x (rd (Sh.int IntKind.u8).sl l i.toNat)) = IntKind.i64.wrap (3 - w)))
                    (Kr (false, PUnit.unit))
                    (Kn
                      (a, b, tryG x (rd (Sh.int IntKind.u8).sl l i.toNat), w, l, m, IntKind.i64.wrap (i + 1),
                        PUnit.unit))))))))))
    (Kx.1 (a, b, x, w, PUnit.unit))) := by kernel_rfl
theorem fwPinLocks (k : Sh.T (.sl u8S)) (a : Sh.T (.sl u8S)) (b : Sh.T (.sl u8S)) (l : Sh.T (.sl (.sl u8S))) (P : SV → Prop) : FW L2 Tryd.f3.ntmps (LTab.look Lpl) Tryd.f3 (argsOf [.sl u8S, .sl u8S, .sl u8S, .sl (.sl u8S)] (k, a, b, l, ())) P =
 (  dmd ((List.length k).ble 140737488355328)
    (dmd ((List.length a).ble 140737488355328)
      (ifB (rightB a)
        (ifB (decide (60 < (((List.length l) : Nat) : Int))) (P (SV.av (AV.val Sh.bool (decide (60 < (((List.length l) : Nat) : Int))))))
          (Qpl (a, b, newL k a, 0, l, (((List.length l) : Nat) : Int), 0, PUnit.unit) (fun x => P (SV.av (AV.val Sh.bool x.1)))
            (fun x =>
              dmd ((List.length x.2.2.1.1).ble 140737488355328)
                (dmd ((List.length x.1).ble 140737488355328)
                  (ifB (decide (x.2.2.2.1 = 3))
                    (ifB (!decide (tryE x.2.2.1 x.1 = 11)) (P (SV.av (AV.val Sh.bool false)))
                      (ifB (decide (x.2.2.2.1 < 3))
                        (ifB (!decide (tryE x.2.2.1 x.1 = 0)) (P (SV.av (AV.val Sh.bool false)))
                          (dmd ((List.length (tryG x.2.2.1 x.1).1).ble 140737488355328)
                            (dmd ((List.length x.2.1).ble 140737488355328)
                              (ifB (!decide (resE x.2.1 = 0)) (P (SV.av (AV.val Sh.bool true)))
                                (dmd ((List.length (resG (tryG x.2.2.1 x.1) x.2.1).1).ble 140737488355328)
                                  (dmd ((List.length x.2.1).ble 140737488355328)
                                    (ifB (decide (tryE (resG (tryG x.2.2.1 x.1) x.2.1) x.2.1 = 0))
                                      (P
                                        (SV.av
                                          (AV.val Sh.bool
                                            (decide (leftN (tryG (resG (tryG x.2.2.1 x.1) x.2.1) x.2.1) = 3)))))
                                      (P (SV.av (AV.val Sh.bool false))))))))))
                        (dmd ((List.length (tryG x.2.2.1 x.1).1).ble 140737488355328)
                          (dmd ((List.length x.2.1).ble 140737488355328)
                            (ifB (!decide (resE x.2.1 = 0)) (P (SV.av (AV.val Sh.bool true)))
                              (dmd ((List.length (resG (tryG x.2.2.1 x.1) x.2.1).1).ble 140737488355328)
                                (dmd ((List.length x.2.1).ble 140737488355328)
                                  (ifB (decide (tryE (resG (tryG x.2.2.1 x.1) x.2.1) x.2.1 = 0))
                                    (P
                                      (SV.av
                                        (AV.val Sh.bool
                                          (decide (leftN (tryG (resG (tryG x.2.2.1 x.1) x.2.1) x.2.1) = 3)))))
                                    (P (SV.av (AV.val Sh.bool false)))))))))))
                    (ifB (decide (x.2.2.2.1 < 3))
                      (ifB (!decide (tryE x.2.2.1 x.1 = 0)) (P (SV.av (AV.val Sh.bool false)))
                        (dmd ((List.length (tryG x.2.2.1 x.1).1).ble 140737488355328)
                          (dmd ((List.length x.2.1).ble 140737488355328)
                            (ifB (!decide (resE x.2.1 = 0)) (P (SV.av (AV.val Sh.bool true)))
                              (dmd ((List.length (resG (tryG x.2.2.1 x.1) x.2.1).1).ble 140737488355328)
                                (dmd ((List.length x.2.1).ble 140737488355328)
                                  (ifB (decide (tryE (resG (tryG x.2.2.1 x.1) x.2.1) x.2.1 = 0))
                                    (P
                                      (SV.av
                                        (AV.val Sh.bool
                                          (decide (leftN (tryG (resG (tryG x.2.2.1 x.1) x.2.1) x.2.1) = 3)))))
                                    (P (SV.av (AV.val Sh.bool false))))))))))
                      (dmd ((List.length (tryG x.2.2.1 x.1).1).ble 140737488355328)
                        (dmd ((List.length x.2.1).ble 140737488355328)
                          (ifB (!decide (resE x.2.1 = 0)) (P (SV.av (AV.val Sh.bool true)))
                            (dmd ((List.length (resG (tryG x.2.2.1 x.1) x.2.1).1).ble 140737488355328)
                              (dmd ((List.length x.2.1).ble 140737488355328)
                                (ifB (decide (tryE (resG (tryG x.2.2.1 x.1) x.2.1) x.2.1 = 0))
                                  (P
                                    (SV.av
                                      (AV.val Sh.bool (decide (leftN (tryG (resG (tryG x.2.2.1 x.1) x.2.1) x.2.1) = 3)))))
                                  (P (SV.av (AV.val Sh.bool false)))))))))))),
              PUnit.unit)))
        (P (SV.av (AV.val Sh.bool true)))))) := by kernel_rfl
theorem looppl : ∀ z Kr Kx, Qpl z Kr Kx → ∃ n, untl (W L2 Tryd.f3.ntmps (LTab.look Lpl) (bodyAt bpl 6)) Ipl [.v 8 .bool] opl n z Kr Kx := by
  rintro z Kr Kx ⟨k, a, b, l, ez, ⟨hk, hl, sl⟩, hK⟩
  have key := untl_up (F := W L2 Tryd.f3.ntmps (LTab.look Lpl) (bodyAt bpl 6)) (l := Ipl) (lr := [.v 8 .bool]) (lx := opl) (Kr := Kr) (Kx := Kx) (st := fun i => (a, b, runX (newL k a) l i, runW (newL k a) l i, l, ((l.length : Nat) : Int), (i : Int), ())) l.length (fun i hi Kn hn => ?_) (fun Kn => ?_)
  · rw [ez]; exact key
  · have hI := inv_run k a l i
    have hw := hI.2.2.2
    have hs : Nat.ble (List.length (runX (newL k a) l i).1) 140737488355328 = true := by rw [hI.1]; exact bleT hk
    have hp := smL_rd sl hi
    obtain ⟨hJ, hc⟩ := inv_try hI (rd (.sl u8S) l i)
    have hJ3 := hJ.2.2.1
    rw [roundpl, i64w (a := (i : Int) + 1) (n := i + 1) (by omega) (by omega), Int.toNat_natCast]
    refine ifB_dec (fun _ => dmd_of (inB hi) (dmd_of hs (dmd_of (bleT hp) ?_))) (fun c => absurd (show (i : Int) < ((l.length : Nat) : Int) by omega) c)
    have hn : Kn (a, b, tryG (runX (newL k a) l i) (rd (.sl u8S) l i), nextW (tryE (runX (newL k a) l i) (rd (.sl u8S) l i)) (runW (newL k a) l i), l, ((l.length : Nat) : Int), ((i + 1 : Nat) : Int), ()) := hn
    generalize tryG (runX (newL k a) l i) (rd (.sl u8S) l i) = X at *
    generalize runW (newL k a) l i = w at *
    rcases hc with ⟨h1, h2⟩ | ⟨h1, h2⟩ | ⟨h1, h2⟩
    · rw [h2] at hn hJ3 ⊢
      have hJ3 : leftN X = 3 - w := hJ3
      exact ifB_dec (fun _ => ifB_neg (fun c => absurd rfl c) (fun _ => ifB_dec (fun c => absurd c (by omega)) (fun _ => ifB_dec (fun c => absurd c (by decide)) (fun _ => ifB_dec (fun c => absurd c (by decide)) (fun _ => ifB_neg (fun c => absurd (by rw [wr64 (by omega) (by omega)]; exact hJ3) c) (fun _ => hn)))))) (fun c => absurd h1 c)
    · rw [h2] at hn hJ3 ⊢
      have hJ3 : leftN X = 3 := hJ3
      exact ifB_dec (fun c => absurd c (by omega)) (fun _ => ifB_dec (fun _ => ifB_dec (fun c => absurd c (by decide)) (fun _ => ifB_dec (fun c => absurd c (by decide)) (fun _ => ifB_dec (fun _ => ifB_neg (fun c => absurd hJ3 c) (fun _ => hn)) (fun c => absurd rfl c)))) (fun c => absurd h1 c))
    · rw [h2] at hn hJ3 ⊢
      have hJ3 : leftN X = 3 - (w + 1) := hJ3
      have ew : IntKind.i64.wrap (w + 1) = w + 1 := wr64 (by omega) (by omega)
      rw [ew]
      exact ifB_dec (fun c => absurd c (by omega)) (fun _ => ifB_dec (fun _ => ifB_dec (fun c => absurd c (by decide)) (fun _ => ifB_dec (fun _ => ifB_neg (fun c => absurd (by rw [wr64 (by omega) (by omega)]; exact hJ3) c) (fun _ => hn)) (fun c => absurd rfl c))) (fun c => absurd h1 c))
  · rw [roundpl]
    exact ifB_dec (fun c => absurd c (by omega)) (fun _ => hK _ _ (inv_run k a l l.length))
theorem okB_new (x : Lok) (p : List (BitVec 8)) (h : rightB p = true) : Inv (resG x p) x.1 p 0 := by
  unfold resG
  rw [cp h]
  exact ⟨rfl, rfl, rfl, by decide, by decide⟩
theorem pinL_fw (k a b : List (BitVec 8)) (l : List (List (BitVec 8))) (hk : k.length ≤ 140737488355328) (ha : a.length ≤ 140737488355328) (hb : b.length ≤ 140737488355328) (sl : smL l) :
    FW L2 Tryd.f3.ntmps (LTab.look Lpl) Tryd.f3 (argsOf [.sl u8S, .sl u8S, .sl u8S, .sl (.sl u8S)] (k, a, b, l, ())) (fun r => r = .av (.val .bool true)) := by
  rw [fwPinLocks]
  refine dmd_of (bleT hk) (dmd_of (bleT ha) (ifB_of (fun _ => ifB_dec (fun c => pbool (decTr c)) (fun c => ?_)) (fun _ => rfl)))
  refine ⟨k, a, b, l, rfl, ⟨hk, by omega, sl⟩, fun x w hI => ?_⟩
  have hs : Nat.ble (List.length x.1) 140737488355328 = true := by rw [hI.1]; exact bleT hk
  obtain ⟨hJ, hc⟩ := inv_try hI a
  have hs2 : Nat.ble (List.length (tryG x a).1) 140737488355328 = true := by rw [tryG_salt]; exact hs
  have hs3 : Nat.ble (List.length (resG (tryG x a) b).1) 140737488355328 = true := by rw [resG_salt]; exact hs2
  have tail : ∀ P : SV → Prop, P (.av (.val .bool true)) → dmd ((List.length (tryG x a).1).ble 140737488355328) (dmd ((List.length b).ble 140737488355328) (ifB (!decide (resE b = 0)) (P (SV.av (AV.val Sh.bool true)))
      (dmd ((List.length (resG (tryG x a) b).1).ble 140737488355328) (dmd ((List.length b).ble 140737488355328) (ifB (decide (tryE (resG (tryG x a) b) b = 0)) (P (SV.av (AV.val Sh.bool (decide (leftN (tryG (resG (tryG x a) b) b) = 3))))) (P (SV.av (AV.val Sh.bool false)))))))) := by
    intro P hP
    refine dmd_of hs2 (dmd_of (bleT hb) (ifB_neg (fun _ => hP) (fun h => dmd_of hs3 (dmd_of (bleT hb) ?_))))
    have hr : rightB b = true := by
      cases hr : rightB b with
      | true => rfl
      | false => unfold resE at h; rw [cn hr] at h; cases h
    have hN := okB_new (tryG x a) b hr
    have h0 := try_right hN (by decide)
    refine ifB_dec (fun _ => ?_) (fun d => absurd h0 d)
    have h3 := (inv_try hN b).1.2.2.1
    rw [h0] at h3
    rw [decTr (show leftN (tryG (resG (tryG x a) b) b) = 3 from h3)]
    exact hP
  refine dmd_of hs (dmd_of (bleT ha) ?_)
  rcases hc with ⟨h1, h2⟩ | ⟨h1, h2⟩ | ⟨h1, h2⟩
  · exact ifB_dec (fun _ => ifB_neg (fun c => absurd h2 c) (fun _ => ifB_dec (fun c => absurd (show w < 3 from c) (by omega)) (fun _ => tail (fun r => r = .av (.val .bool true)) rfl))) (fun c => absurd h1 c)
  · exact ifB_dec (fun c => absurd (show w = 3 from c) (by omega)) (fun _ => ifB_dec (fun _ => ifB_neg (fun c => absurd h2 c) (fun _ => tail (fun r => r = .av (.val .bool true)) rfl)) (fun c => absurd h1 c))
  · have := try_right hI h1
    rw [h2] at this; cases this
theorem walkPinLocks (xs : HL [.sl u8S, .sl u8S, .sl u8S, .sl (.sl u8S)]) (h : okHL [.sl u8S, .sl u8S, .sl u8S, .sl (.sl u8S)] xs) : PC (bx Tryd.prog GL) 3 (argsOf [.sl u8S, .sl u8S, .sl u8S, .sl (.sl u8S)] xs) (.av (.val .bool true)) := by
  obtain ⟨k, a, b, l, ⟨⟩⟩ := xs
  have h1 : List.length k * 1 ≤ 140737488351232 := h.1.1
  have h2 : List.length a * 1 ≤ 140737488351232 := h.2.1.1
  have h3 : List.length b * 1 ≤ 140737488351232 := h.2.2.1.1
  exact PC_of_fw (t := Lpl) shA_ok L2_ok mixed Tryd.func3 (c := bpl) rfl (by kernel_rfl) (by kernel_rfl) (loopsOK (by kernel_rfl) (LTCons (loop_of shA_ok L2_ok mixed (loopsOK (by kernel_rfl) (LTCons (noLoop (by kernel_rfl)) LTNil)) (by kernel_rfl) looppl) LTNil)) rfl
    (pinL_fw k a b l (by omega) (by omega) (by omega) (sm_ok h.2.2.2.1.2.2))

/-! ## Restored -/
abbrev Ipb : List It := [.v 0 (.sl u8S), .v 3 (.sl u8S), .p 9 2000 lkS, .v 39 (.sl (.sl u8S)), .v 40 i64S, .v 41 i64S]
abbrev opb : List (Nat × List It) := [(0, [.v 0 (.sl u8S), .v 3 (.sl u8S), .p 9 2000 lkS])]
noncomputable def Qpb : LQ Ipb [] opb := fun z _ Kx => ∃ (k a p : List (BitVec 8)) (l : List (List (BitVec 8))), z = (k, p, newL k a, l, ((l.length : Nat) : Int), (0 : Int), ()) ∧ (k.length ≤ 140737488355328 ∧ l.length ≤ 60 ∧ smL l) ∧ ∀ x w, Inv x k a w → Kx.1 (k, p, x, ())
noncomputable def bpb : Code := Tryd.f4.body.getD .skip
noncomputable abbrev Lpb : LTab := [(5, ptL Ipb [] opb Qpb)]
theorem roundpb (a b : List (BitVec 8)) (x : Lok) (l : List (List (BitVec 8))) (m i : Int) (Kn : HI Ipb → Prop) (Kr : HI [] → Prop) (Kx : HP opb) : roundT (W L2 Tryd.f4.ntmps (LTab.look Lpb) (bodyAt bpb 5)) Ipb [] opb (a, b, x, l, m, i, ()) Kn Kr Kx =
 (  ifB (decide (i < m))
    (dmd (decide (0 ≤ i) && decide (i < ((l.length : Nat) : Int)))
      (dmd ((List.length x.1).ble 140737488355328)
        (dmd ((List.length (rd (Sh.int IntKind.u8).sl l i.toNat)).ble 140737488355328)
          (Kn (a, b, tryG x (rd (Sh.int IntKind.u8).sl l i.toNat), l, m, IntKind.i64.wrap (i + 1), PUnit.unit)))))
    (Kx.1 (a, b, x, PUnit.unit))) := by kernel_rfl
theorem fwPinBack (k : Sh.T (.sl u8S)) (a : Sh.T (.sl u8S)) (l : Sh.T (.sl (.sl u8S))) (p : Sh.T (.sl u8S)) (P : SV → Prop) : FW L2 Tryd.f4.ntmps (LTab.look Lpb) Tryd.f4 (argsOf [.sl u8S, .sl u8S, .sl (.sl u8S), .sl u8S] (k, a, l, p, ())) P =
 (  dmd ((List.length k).ble 140737488355328)
    (dmd ((List.length a).ble 140737488355328)
      (ifB (rightB a)
        (ifB (decide (60 < (((List.length l) : Nat) : Int))) (P (SV.av (AV.val Sh.bool (decide (60 < (((List.length l) : Nat) : Int))))))
          (Qpb (k, p, newL k a, l, (((List.length l) : Nat) : Int), 0, PUnit.unit) (fun _ => False)
            (fun x =>
              dmd ((List.length x.1).ble 140737488355328)
                (ifB (restB x.2.2.1.2.1)
                  (dmd ((List.length x.2.2.1.1).ble 140737488355328)
                    (dmd ((List.length x.2.1).ble 140737488355328)
                      (dmd ((List.length x.1).ble 140737488355328)
                        (dmd ((List.length x.2.1).ble 140737488355328)
                          (ifB (decide (tryE x.2.2.1 x.2.1 = tryE (x.1, x.2.2.1.2.1, PUnit.unit) x.2.1))
                            (P
                              (SV.av
                                (AV.val Sh.bool
                                  (teq ((Sh.arr 32 (Sh.int IntKind.u8)).pair ((Sh.int IntKind.i64).pair Sh.unit))
                                    (tryG x.2.2.1 x.2.1).2.1 (tryG (x.1, x.2.2.1.2.1, PUnit.unit) x.2.1).2.1))))
                            (P (SV.av (AV.val Sh.bool false))))))))
                  (P (SV.av (AV.val Sh.bool false)))),
              PUnit.unit)))
        (P (SV.av (AV.val Sh.bool true)))))) := by kernel_rfl
theorem looppb : ∀ z Kr Kx, Qpb z Kr Kx → ∃ n, untl (W L2 Tryd.f4.ntmps (LTab.look Lpb) (bodyAt bpb 5)) Ipb [] opb n z Kr Kx := by
  rintro z Kr Kx ⟨k, a, p, l, ez, ⟨hk, hl, sl⟩, hK⟩
  have key := untl_up (F := W L2 Tryd.f4.ntmps (LTab.look Lpb) (bodyAt bpb 5)) (l := Ipb) (lr := []) (lx := opb) (Kr := Kr) (Kx := Kx) (st := fun i => (k, p, runX (newL k a) l i, l, ((l.length : Nat) : Int), (i : Int), ())) l.length (fun i hi Kn hn => ?_) (fun Kn => ?_)
  · rw [ez]; exact key
  · have hI := inv_run k a l i
    have hs : Nat.ble (List.length (runX (newL k a) l i).1) 140737488355328 = true := by rw [hI.1]; exact bleT hk
    rw [roundpb, i64w (a := (i : Int) + 1) (n := i + 1) (by omega) (by omega), Int.toNat_natCast]
    exact ifB_dec (fun _ => dmd_of (inB hi) (dmd_of hs (dmd_of (bleT (smL_rd sl hi)) hn))) (fun c => absurd (show (i : Int) < ((l.length : Nat) : Int) by omega) c)
  · rw [roundpb]
    exact ifB_dec (fun c => absurd c (by omega)) (fun _ => hK _ _ (inv_run k a l l.length))
theorem pinB_fw (k a : List (BitVec 8)) (l : List (List (BitVec 8))) (p : List (BitVec 8)) (hk : k.length ≤ 140737488355328) (ha : a.length ≤ 140737488355328) (hp : p.length ≤ 140737488355328) (sl : smL l) :
    FW L2 Tryd.f4.ntmps (LTab.look Lpb) Tryd.f4 (argsOf [.sl u8S, .sl u8S, .sl (.sl u8S), .sl u8S] (k, a, l, p, ())) (fun r => r = .av (.val .bool true)) := by
  rw [fwPinBack]
  refine dmd_of (bleT hk) (dmd_of (bleT ha) (ifB_of (fun _ => ifB_dec (fun c => pbool (decTr c)) (fun c => ?_)) (fun _ => rfl)))
  refine ⟨k, a, p, l, rfl, ⟨hk, by omega, sl⟩, fun x w hI => ?_⟩
  obtain ⟨s, m, ⟨⟩⟩ := x
  have hI1 : s = k := hI.1
  subst hI1
  have hr : restB m = true := by
    have h3 : m.2.1 = 3 - w := hI.2.2.1
    have h4 := hI.2.2.2
    show restI m.2.1 = true
    rw [h3]
    exact andT (decTr (by omega)) (decTr (by omega))
  have e : ∀ P : SV → Prop, P (.av (.val .bool true)) → P (.av (.val .bool (teq klS (tryG (s, m, ()) p).2.1 (tryG (s, m, ()) p).2.1))) := fun P hP => by rw [teq_self]; exact hP
  refine dmd_of (bleT hk) (ifB_of (fun _ => dmd_of (bleT hk) (dmd_of (bleT hp) (dmd_of (bleT hk) (dmd_of (bleT hp) (ifB_dec (fun _ => e (fun r => r = .av (.val .bool true)) rfl) (fun c => absurd rfl c)))))) (fun c => ?_))
  rw [hr] at c; cases c
theorem walkPinBack (xs : HL [.sl u8S, .sl u8S, .sl (.sl u8S), .sl u8S]) (h : okHL [.sl u8S, .sl u8S, .sl (.sl u8S), .sl u8S] xs) : PC (bx Tryd.prog GL) 4 (argsOf [.sl u8S, .sl u8S, .sl (.sl u8S), .sl u8S] xs) (.av (.val .bool true)) := by
  obtain ⟨k, a, l, p, ⟨⟩⟩ := xs
  have h1 : List.length k * 1 ≤ 140737488351232 := h.1.1
  have h2 : List.length a * 1 ≤ 140737488351232 := h.2.1.1
  have h3 : List.length p * 1 ≤ 140737488351232 := h.2.2.2.1.1
  exact PC_of_fw (t := Lpb) shA_ok L2_ok mixed Tryd.func4 (c := bpb) rfl (by kernel_rfl) (by kernel_rfl) (loopsOK (by kernel_rfl) (LTCons (loop_of shA_ok L2_ok mixed (loopsOK (by kernel_rfl) (LTCons (noLoop (by kernel_rfl)) LTNil)) (by kernel_rfl) looppb) LTNil)) rfl
    (pinB_fw k a l p (by omega) (by omega) (by omega) (sm_ok h.2.2.1.2.2))

/-! ## Changed -/
theorem fwPinChanges (k : Sh.T (.sl u8S)) (a : Sh.T (.sl u8S)) (o : Sh.T (.sl u8S)) (p : Sh.T (.sl u8S)) (P : SV → Prop) : FW L2 Tryd.f5.ntmps (LTab.look []) Tryd.f5 (argsOf [.sl u8S, .sl u8S, .sl u8S, .sl u8S] (k, a, o, p, ())) P =
 (  dmd ((List.length k).ble 140737488355328)
    (dmd ((List.length a).ble 140737488355328)
      (ifB (rightB a)
        (dmd ((List.length (newL k a).1).ble 140737488355328)
          (dmd ((List.length o).ble 140737488355328)
            (dmd ((List.length p).ble 140737488355328)
              (ifB (decide (chgE (newL k a) o p = 0))
                (ifB (decide (leftN (chgG (newL k a) o p) = 3))
                  (dmd ((List.length (chgG (newL k a) o p).1).ble 140737488355328)
                    (dmd ((List.length p).ble 140737488355328)
                      (P (SV.av (AV.val Sh.bool (decide (tryE (chgG (newL k a) o p) p = 0)))))))
                  (P (SV.av (AV.val Sh.bool false))))
                (ifB (decide (chgE (newL k a) o p = 10))
                  (ifB (teq (Sh.arr 32 (Sh.int IntKind.u8)) (chgG (newL k a) o p).2.1.1 (newL k a).2.1.1)
                    (ifB (decide ((chgG (newL k a) o p).2.1.2.1 = IntKind.i64.wrap ((newL k a).2.1.2.1 - 1)))
                      (dmd ((List.length (chgG (newL k a) o p).1).ble 140737488355328)
                        (dmd ((List.length a).ble 140737488355328)
                          (P (SV.av (AV.val Sh.bool (decide (tryE (chgG (newL k a) o p) a = 0)))))))
                      (P (SV.av (AV.val Sh.bool false))))
                    (P (SV.av (AV.val Sh.bool false))))
                  (ifB (decide (chgE (newL k a) o p = 1))
                    (ifB
                      (teq ((Sh.arr 32 (Sh.int IntKind.u8)).pair ((Sh.int IntKind.i64).pair Sh.unit))
                        (chgG (newL k a) o p).2.1 (newL k a).2.1)
                      (dmd ((List.length (chgG (newL k a) o p).1).ble 140737488355328)
                        (dmd ((List.length a).ble 140737488355328)
                          (P (SV.av (AV.val Sh.bool (decide (tryE (chgG (newL k a) o p) a = 0)))))))
                      (P (SV.av (AV.val Sh.bool false))))
                    (P (SV.av (AV.val Sh.bool false)))))))))
        (P (SV.av (AV.val Sh.bool true)))))) := by kernel_rfl
theorem pinC_fw (k a o p : List (BitVec 8)) (hk : k.length ≤ 140737488355328) (ha : a.length ≤ 140737488355328) (ho : o.length ≤ 140737488355328) (hp : p.length ≤ 140737488355328) :
    FW L2 Tryd.f5.ntmps (LTab.look []) Tryd.f5 (argsOf [.sl u8S, .sl u8S, .sl u8S, .sl u8S] (k, a, o, p, ())) (fun r => r = .av (.val .bool true)) := by
  rw [fwPinChanges]
  have hk := bleT hk
  have ha := bleT ha
  have ho := bleT ho
  have hp := bleT hp
  refine dmd_of hk (dmd_of ha (ifB_of (fun _ => dmd_of hk (dmd_of ho (dmd_of hp ?_))) (fun _ => rfl)))
  have hI := inv_new k a
  obtain ⟨hJ, hc⟩ := inv_try hI o
  cases hr : rightB p with
  | false =>
    have e1 : chgE (newL k a) o p = 1 := by unfold chgE; exact cn hr
    have e2 : chgG (newL k a) o p = newL k a := by unfold chgG; exact cn hr
    rw [e1, e2]
    exact ifB_dec (fun c => absurd c (by decide)) (fun _ => ifB_dec (fun c => absurd c (by decide)) (fun _ => ifB_dec (fun _ => ifB_of (fun _ => dmd_of hk (dmd_of ha (pbool (decTr (try_right hI (by decide)))))) (fun c => teq_no rfl c)) (fun c => absurd rfl c)))
  | true =>
    have hz : ¬ tryE (newL k a) o = 0 → chgE (newL k a) o p = tryE (newL k a) o ∧ chgG (newL k a) o p = tryG (newL k a) o := fun d => by
      unfold chgE chgG
      rw [cp hr, cp hr, cn (decFa d), cn (decFa d)]
      exact ⟨rfl, rfl⟩
    rcases hc with ⟨h1, _⟩ | ⟨_, h2⟩ | ⟨h1, h2⟩
    · cases h1
    · have e1 : chgE (newL k a) o p = 0 := by unfold chgE resE; rw [cp hr, cp (decTr h2), cp hr]
      have e2 : chgG (newL k a) o p = resG (tryG (newL k a) o) p := by unfold chgG; rw [cp hr, cp (decTr h2)]
      have hN := okB_new (tryG (newL k a) o) p hr
      have hs : (resG (tryG (newL k a) o) p).1 = k := by rw [resG_salt, tryG_salt]; rfl
      rw [e1, e2]
      exact ifB_dec (fun _ => ifB_dec (fun _ => dmd_of (by rw [hs]; exact hk) (dmd_of hp (pbool (decTr (try_right hN (by decide)))))) (fun c => absurd hN.2.2.1 c)) (fun c => absurd rfl c)
    · obtain ⟨e1, e2⟩ := hz (by rw [h2]; decide)
      rw [e1, e2, h2]
      have hJ' : Inv (tryG (newL k a) o) k a 1 := by rw [h2] at hJ; exact hJ
      have hs : (tryG (newL k a) o).1 = k := hJ'.1
      have hl : (tryG (newL k a) o).2.1.2.1 = (2 : Int) := hJ'.2.2.1
      refine ifB_dec (fun c => absurd c (by decide)) (fun _ => ifB_dec (fun _ => ifB_of (fun _ => ifB_dec (fun _ => dmd_of (by rw [hs]; exact hk) (dmd_of ha (pbool (decTr (try_right hJ' (by decide)))))) (fun c => absurd ?_ c)) (fun c => teq_no hJ'.2.1 c)) (fun c => absurd rfl c))
      rw [hl]
      show (2 : Int) = IntKind.i64.wrap (3 - 1)
      decide
theorem walkPinChanges (xs : HL [.sl u8S, .sl u8S, .sl u8S, .sl u8S]) (h : okHL [.sl u8S, .sl u8S, .sl u8S, .sl u8S] xs) : PC (bx Tryd.prog GL) 5 (argsOf [.sl u8S, .sl u8S, .sl u8S, .sl u8S] xs) (.av (.val .bool true)) := by
  obtain ⟨k, a, o, p, ⟨⟩⟩ := xs
  have h1 : List.length k * 1 ≤ 140737488351232 := h.1.1
  have h2 : List.length a * 1 ≤ 140737488351232 := h.2.1.1
  have h3 : List.length o * 1 ≤ 140737488351232 := h.2.2.1.1
  have h4 : List.length p * 1 ≤ 140737488351232 := h.2.2.2.1.1
  exact PC_of_fw (t := []) shA_ok L2_ok mixed Tryd.func5 (c := Tryd.f5.body.getD .skip) rfl (by kernel_rfl) (by kernel_rfl) loopsNil rfl (pinC_fw k a o p (by omega) (by omega) (by omega) (by omega))
end Go.Proofs.YtndijgjdmookmaaDoor
