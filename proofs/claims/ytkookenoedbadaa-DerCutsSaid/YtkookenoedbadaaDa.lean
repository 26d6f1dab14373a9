import Derived.Test.YtkookenoedbadaaEq
namespace Go.Proofs.Ytkookenoedbadaa
open Go.Ty

/-! ## Items as bytes -/
abbrev itS : Sh := .pair u8S (.pair (.sl u8S) .unit)
abbrev Itm : Type := itS.T
def lenI (x : Itm) : Nat := List.length x.2.1
def hdrB (x : Itm) : List (BitVec 8) := bif decide (lenI x < 128) then [x.1, BitVec.ofNat 8 (lenI x)] else bif decide (lenI x < 256) then [x.1, 129#8, BitVec.ofNat 8 (lenI x)] else [x.1, 130#8, BitVec.ofNat 8 (lenI x / 256), BitVec.ofNat 8 (lenI x)]
def encB (x : Itm) : List (BitVec 8) := hdrB x ++ x.2.1
def encL (l : List Itm) : List (BitVec 8) := (l.map encB).flatten
def goodL (l : List Itm) : Bool := l.all fun x => decide (lenI x ≤ 4096)
def wrO (l : List Itm) : Bool := decide (l.length ≤ 200) && goodL l
def wrE (l : List Itm) : Int := bif wrO l then 0 else 2
def wrB (l : List Itm) : List (BitVec 8) := bif wrO l then encL l else []
theorem hdrB_len (x : Itm) : 2 ≤ (hdrB x).length ∧ (hdrB x).length ≤ 4 := by
  unfold hdrB
  cases decide (lenI x < 128) with
  | true => exact ⟨show (2 : Nat) ≤ 2 by decide, show (2 : Nat) ≤ 4 by decide⟩
  | false => cases decide (lenI x < 256) with
    | true => exact ⟨show (2 : Nat) ≤ 3 by decide, show (3 : Nat) ≤ 4 by decide⟩
    | false => exact ⟨show (2 : Nat) ≤ 4 by decide, show (4 : Nat) ≤ 4 by decide⟩
theorem encB_len (x : Itm) : (encB x).length = (hdrB x).length + lenI x := by unfold encB; rw [List.length_append]; rfl
theorem encB_ne (x : Itm) : encB x ≠ [] := fun h => by
  have h1 := congrArg List.length h
  have h2 := (hdrB_len x).1
  rw [encB_len] at h1
  have h1 : (hdrB x).length + lenI x = 0 := h1
  omega
theorem encL_app (l m : List Itm) : encL (l ++ m) = encL l ++ encL m := by unfold encL; rw [List.map_append, List.flatten_append]
theorem encL_one (x : Itm) : encL [x] = encB x := by unfold encL; simp
theorem encL_cons (x : Itm) (l : List Itm) : encL (x :: l) = encB x ++ encL l := by unfold encL; simp
theorem take_nextI {l : List Itm} {i : Nat} (h : i < l.length) : l.take (i + 1) = l.take i ++ [rd itS l i] := by
  rw [List.take_add_one, rd_at h, List.getElem?_eq_getElem h]; rfl
theorem encL_le : ∀ {l : List Itm}, goodL l = true → (encL l).length ≤ l.length * 4100
  | [], _ => Nat.le_refl 0
  | x :: l, h => by
    unfold goodL at h
    rw [List.all_cons, Bool.and_eq_true, decide_eq_true_eq] at h
    have h1 := encL_le (l := l) h.2
    have h2 := (hdrB_len x).2
    have h3 := encB_len x
    rw [encL_cons, List.length_append, List.length_cons]; omega
noncomputable abbrev D0 : Go.Ty.Cx := mkX Try.prog GL shA []
abbrev Idw : List It := [.g 4 2000 u8S, .v 11 (.sl itS), .v 12 i64S, .v 13 i64S]
abbrev odw : List (Nat × List It) := [(0, [.g 4 2000 u8S])]
abbrev ldw : List It := [.v 2 (.sl u8S), .v 3 i64S]
noncomputable def Qdw : LQ Idw ldw odw := fun x Kr Kx => ∃ l : List Itm, x = (none, l, ((l.length : Nat) : Int), (0 : Int), ()) ∧ l.length ≤ 200 ∧ ifB (goodL l) (Kx.1 (optL (encL l), ())) (Kr ([], 2, ()))
noncomputable def bdw : Code := Try.f18.body.getD .skip
noncomputable abbrev Ldw : LTab := [(5, ptL Idw ldw odw Qdw)]
theorem rounddwn (l : List (Sh.T itS)) (m i : Int) (Kn : HI Idw → Prop) (Kr : HI ldw → Prop) (Kx : HP odw) : roundT (W D0 Try.f18.ntmps (LTab.look Ldw) (bodyAt bdw 5)) Idw ldw odw (none, l, m, i, ()) Kn Kr Kx =
 (  ifB (decide (i < m))
    (dmd (decide (0 ≤ i) && decide (i < ((l.length : Nat) : Int)))
      (ifB
        (decide
          (4096 < (((List.length (rd ((Sh.int IntKind.u8).pair ((Sh.int IntKind.u8).sl.pair Sh.unit)) l i.toNat).2.1) : Nat) : Int)))
        (Kr ([], 2, PUnit.unit))
        (ifB
          (decide
            ((((List.length (rd ((Sh.int IntKind.u8).pair ((Sh.int IntKind.u8).sl.pair Sh.unit)) l i.toNat).2.1) : Nat) : Int) < 128))
          (dmd
            (((2 + List.length (rd ((Sh.int IntKind.u8).pair ((Sh.int IntKind.u8).sl.pair Sh.unit)) l i.toNat).2.1) *
                  1).ble
              140737488355328)
            ((0 = 0 ∧
                2 + List.length (rd ((Sh.int IntKind.u8).pair ((Sh.int IntKind.u8).sl.pair Sh.unit)) l i.toNat).2.1 =
                  List.length (rd ((Sh.int IntKind.u8).pair ((Sh.int IntKind.u8).sl.pair Sh.unit)) l i.toNat).2.1 + 2) ∧
              Kn
                (some
                    ((rd ((Sh.int IntKind.u8).pair ((Sh.int IntKind.u8).sl.pair Sh.unit)) l i.toNat).1 ::
                      BitVec.ofInt 8
                          (((List.length
                              (rd ((Sh.int IntKind.u8).pair ((Sh.int IntKind.u8).sl.pair Sh.unit)) l i.toNat).2.1) : Nat) : Int) ::
                        (rd ((Sh.int IntKind.u8).pair ((Sh.int IntKind.u8).sl.pair Sh.unit)) l i.toNat).2.1),
                  l, m, IntKind.i64.wrap (i + 1), PUnit.unit)))
          (ifB
            (decide
              ((((List.length (rd ((Sh.int IntKind.u8).pair ((Sh.int IntKind.u8).sl.pair Sh.unit)) l i.toNat).2.1) : Nat) : Int) < 256))
            (dmd
              (((3 + List.length (rd ((Sh.int IntKind.u8).pair ((Sh.int IntKind.u8).sl.pair Sh.unit)) l i.toNat).2.1) *
                    1).ble
                140737488355328)
              ((0 = 0 ∧
                  3 + List.length (rd ((Sh.int IntKind.u8).pair ((Sh.int IntKind.u8).sl.pair Sh.unit)) l i.toNat).2.1 =
                    List.length (rd ((Sh.int IntKind.u8).pair ((Sh.int IntKind.u8).sl.pair Sh.unit)) l i.toNat).2.1 + 3) ∧
                Kn
                  (some
                      ((rd ((Sh.int IntKind.u8).pair ((Sh.int IntKind.u8).sl.pair Sh.unit)) l i.toNat).1 ::
                        129#8 ::
                          BitVec.ofInt 8
                              (((List.length
                                  (rd ((Sh.int IntKind.u8).pair ((Sh.int IntKind.u8).sl.pair Sh.unit)) l i.toNat).2.1) : Nat) : Int) ::
                            (rd ((Sh.int IntKind.u8).pair ((Sh.int IntKind.u8).sl.pair Sh.unit)) l i.toNat).2.1),
                    l, m, IntKind.i64.wrap (i + 1), PUnit.unit)))
            (dmd
              (((4 + List.length (rd ((Sh.int IntKind.u8).pair ((Sh.int IntKind.u8).sl.pair Sh.unit)) l i.toNat).2.1) *
                    1).ble
                140737488355328)
              ((0 = 0 ∧
                  4 + List.length (rd ((Sh.int IntKind.u8).pair ((Sh.int IntKind.u8).sl.pair Sh.unit)) l i.toNat).2.1 =
                    List.length (rd ((Sh.int IntKind.u8).pair ((Sh.int IntKind.u8).sl.pair Sh.unit)) l i.toNat).2.1 + 4) ∧
                Kn
                  (some
                      ((rd ((Sh.int IntKind.u8).pair ((Sh.int IntKind.u8).sl.pair Sh.unit)) l i.toNat).1 ::
                        130#8 ::
                          BitVec.ofInt 8
                              (ishr IntKind.i64
                                ((((List.length
                                    (rd ((Sh.int IntKind.u8).pair ((Sh.int IntKind.u8).sl.pair Sh.unit)) l i.toNat).2.1) : Nat) : Int))
                                8) ::
                            BitVec.ofInt 8
                                (((List.length
                                    (rd ((Sh.int IntKind.u8).pair ((Sh.int IntKind.u8).sl.pair Sh.unit)) l
                                          i.toNat).2.1) : Nat) : Int) ::
                              (rd ((Sh.int IntKind.u8).pair ((Sh.int IntKind.u8).sl.pair Sh.unit)) l i.toNat).2.1),
                    l, m, IntKind.i64.wrap (i + 1), PUnit.unit)))))))
    (Kx.1 (none, PUnit.unit))) := by kernel_rfl
theorem rounddws (o : List (BitVec 8)) (l : List (Sh.T itS)) (m i : Int) (Kn : HI Idw → Prop) (Kr : HI ldw → Prop) (Kx : HP odw) : roundT (W D0 Try.f18.ntmps (LTab.look Ldw) (bodyAt bdw 5)) Idw ldw odw (some o, l, m, i, ()) Kn Kr Kx =
 (  ifB (decide (i < m))
    (dmd (decide (0 ≤ i) && decide (i < ((l.length : Nat) : Int)))
      (ifB
        (decide
          (4096 < (((List.length (rd ((Sh.int IntKind.u8).pair ((Sh.int IntKind.u8).sl.pair Sh.unit)) l i.toNat).2.1) : Nat) : Int)))
        (Kr ([], 2, PUnit.unit))
        (ifB
          (decide
            ((((List.length (rd ((Sh.int IntKind.u8).pair ((Sh.int IntKind.u8).sl.pair Sh.unit)) l i.toNat).2.1) : Nat) : Int) < 128))
          (dmd (o.length.beq o.length && ((o.length + 2) * 1).ble 140737488355328)
            (dmd
              ((o.length + 2).beq
                  (o.append
                      [(rd ((Sh.int IntKind.u8).pair ((Sh.int IntKind.u8).sl.pair Sh.unit)) l i.toNat).1,
                        BitVec.ofInt 8
                          (((List.length
                              (rd ((Sh.int IntKind.u8).pair ((Sh.int IntKind.u8).sl.pair Sh.unit)) l
                                    i.toNat).2.1) : Nat) : Int)]).length &&
                ((o.length + 2 +
                        List.length (rd ((Sh.int IntKind.u8).pair ((Sh.int IntKind.u8).sl.pair Sh.unit)) l i.toNat).2.1) *
                      1).ble
                  140737488355328)
              ((0 = 0 ∧
                  o.length + 2 +
                      List.length (rd ((Sh.int IntKind.u8).pair ((Sh.int IntKind.u8).sl.pair Sh.unit)) l i.toNat).2.1 =
                    ((o.append
                            [(rd ((Sh.int IntKind.u8).pair ((Sh.int IntKind.u8).sl.pair Sh.unit)) l i.toNat).1,
                              BitVec.ofInt 8
                                (((List.length
                                    (rd ((Sh.int IntKind.u8).pair ((Sh.int IntKind.u8).sl.pair Sh.unit)) l
                                          i.toNat).2.1) : Nat) : Int)]).append
                        (rd ((Sh.int IntKind.u8).pair ((Sh.int IntKind.u8).sl.pair Sh.unit)) l i.toNat).2.1).length) ∧
                Kn
                  (some
                      ((o.append
                            [(rd ((Sh.int IntKind.u8).pair ((Sh.int IntKind.u8).sl.pair Sh.unit)) l i.toNat).1,
                              BitVec.ofInt 8
                                (((List.length
                                    (rd ((Sh.int IntKind.u8).pair ((Sh.int IntKind.u8).sl.pair Sh.unit)) l
                                          i.toNat).2.1) : Nat) : Int)]).append
                        (rd ((Sh.int IntKind.u8).pair ((Sh.int IntKind.u8).sl.pair Sh.unit)) l i.toNat).2.1),
                    l, m, IntKind.i64.wrap (i + 1), PUnit.unit))))
          (ifB
            (decide
              ((((List.length (rd ((Sh.int IntKind.u8).pair ((Sh.int IntKind.u8).sl.pair Sh.unit)) l i.toNat).2.1) : Nat) : Int) < 256))
            (dmd (o.length.beq o.length && ((o.length + 3) * 1).ble 140737488355328)
              (dmd
                ((o.length + 3).beq
                    (o.append
                        [(rd ((Sh.int IntKind.u8).pair ((Sh.int IntKind.u8).sl.pair Sh.unit)) l i.toNat).1, 129#8,
                          BitVec.ofInt 8
                            (((List.length
                                (rd ((Sh.int IntKind.u8).pair ((Sh.int IntKind.u8).sl.pair Sh.unit)) l
                                      i.toNat).2.1) : Nat) : Int)]).length &&
                  ((o.length + 3 +
                          List.length
                            (rd ((Sh.int IntKind.u8).pair ((Sh.int IntKind.u8).sl.pair Sh.unit)) l i.toNat).2.1) *
                        1).ble
                    140737488355328)
                ((0 = 0 ∧
                    o.length + 3 +
                        List.length (rd ((Sh.int IntKind.u8).pair ((Sh.int IntKind.u8).sl.pair Sh.unit)) l i.toNat).2.1 =
                      ((o.append
                              [(rd ((Sh.int IntKind.u8).pair ((Sh.int IntKind.u8).sl.pair Sh.unit)) l i.toNat).1, 129#8,
                                BitVec.ofInt 8
                                  (((List.length
                                      (rd ((Sh.int IntKind.u8).pair ((Sh.int IntKind.u8).sl.pair Sh.unit)) l
                                            i.toNat).2.1) : Nat) : Int)]).append
                          (rd ((Sh.int IntKind.u8).pair ((Sh.int IntKind.u8).sl.pair Sh.unit)) l i.toNat).2.1).length) ∧
                  Kn
                    (some
                        ((o.append
                              [(rd ((Sh.int IntKind.u8).pair ((Sh.int IntKind.u8).sl.pair Sh.unit)) l i.toNat).1, 129#8,
                                BitVec.ofInt 8
                                  (((List.length
                                      (rd ((Sh.int IntKind.u8).pair ((Sh.int IntKind.u8).sl.pair Sh.unit)) l
                                            i.toNat).2.1) : Nat) : Int)]).append
                          (rd ((Sh.int IntKind.u8).pair ((Sh.int IntKind.u8).sl.pair Sh.unit)) l i.toNat).2.1),
                      l, m, IntKind.i64.wrap (i + 1), PUnit.unit))))
            (dmd (o.length.beq o.length && ((o.length + 4) * 1).ble 140737488355328)
              (dmd
                ((o.length + 4).beq
                    (o.append
                        [(rd ((Sh.int IntKind.u8).pair ((Sh.int IntKind.u8).sl.pair Sh.unit)) l i.toNat).1, 130#8,
                          BitVec.ofInt 8
                            (ishr IntKind.i64
                              ((((List.length
                                  (rd ((Sh.int IntKind.u8).pair ((Sh.int IntKind.u8).sl.pair Sh.unit)) l i.toNat).2.1) : Nat) : Int))
                              8),
                          BitVec.ofInt 8
                            (((List.length
                                (rd ((Sh.int IntKind.u8).pair ((Sh.int IntKind.u8).sl.pair Sh.unit)) l
                                      i.toNat).2.1) : Nat) : Int)]).length &&
                  ((o.length + 4 +
                          List.length
                            (rd ((Sh.int IntKind.u8).pair ((Sh.int IntKind.u8).sl.pair Sh.unit)) l i.toNat).2.1) *
                        1).ble
                    140737488355328)
                ((0 = 0 ∧
                    o.length + 4 +
                        List.length (rd ((Sh.int IntKind.u8).pair ((Sh.int IntKind.u8).sl.pair Sh.unit)) l i.toNat).2.1 =
                      ((o.append
                              [(rd ((Sh.int IntKind.u8).pair ((Sh.int IntKind.u8).sl.pair Sh.unit)) l i.toNat).1, 130#8,
                                BitVec.ofInt 8
                                  (ishr IntKind.i64
                                    ((((List.length
                                        (rd ((Sh.int IntKind.u8).pair ((Sh.int IntKind.u8).sl.pair Sh.unit)) l
                                              i.toNat).2.1) : Nat) : Int))
                                    8),
                                BitVec.ofInt 8
                                  (((List.length
                                      (rd ((Sh.int IntKind.u8).pair ((Sh.int IntKind.u8).sl.pair Sh.unit)) l
                                            i.toNat).2.1) : Nat) : Int)]).append
                          (rd ((Sh.int IntKind.u8).pair ((Sh.int IntKind.u8).sl.pair Sh.unit)) l i.toNat).2.1).length) ∧
                  Kn
                    (some
                        ((o.append
                              [(rd ((Sh.int IntKind.u8).pair ((Sh.int IntKind.u8).sl.pair Sh.unit)) l i.toNat).1, 130#8,
                                BitVec.ofInt 8
                                  (ishr IntKind.i64
                                    ((((List.length
                                        (rd ((Sh.int IntKind.u8).pair ((Sh.int IntKind.u8).sl.pair Sh.unit)) l
                                              i.toNat).2.1) : Nat) : Int))
                                    8),
                                BitVec.ofInt 8
                                  (((List.length
                                      (rd ((Sh.int IntKind.u8).pair ((Sh.int IntKind.u8).sl.pair Sh.unit)) l
                                            i.toNat).2.1) : Nat) : Int)]).append
                          (rd ((Sh.int IntKind.u8).pair ((Sh.int IntKind.u8).sl.pair Sh.unit)) l i.toNat).2.1),
                      l, m, IntKind.i64.wrap (i + 1), PUnit.unit))))))))
    ((0 = 0 ∧ o.length = o.length) ∧ Kx.1 (some o, PUnit.unit))) := by kernel_rfl
theorem fwDWrite (l : Sh.T (.sl itS)) (P : SV → Prop) : FW D0 Try.f18.ntmps (LTab.look Ldw) Try.f18 (argsOf [.sl itS] (l, ())) P =
 (  ifB (decide (200 < (((List.length l) : Nat) : Int))) (P (SV.tup [AV.cell Cel.nilS, AV.val (Sh.int IntKind.i64) 2]))
    (Qdw (none, l, (((List.length l) : Nat) : Int), 0, PUnit.unit)
      (fun x => P (SV.tup [AV.val (Sh.int IntKind.u8).sl x.1, AV.val (Sh.int IntKind.i64) x.2.1]))
      (fun x =>
        optB x.1 (P (SV.tup [AV.cell Cel.nilS, AV.val (Sh.int IntKind.i64) 0])) fun xs =>
          P
            (SV.tup
              [AV.val (Sh.int IntKind.u8).sl (List.take xs.length (List.drop 0 xs)), AV.val (Sh.int IntKind.i64) 0]),
        PUnit.unit))) := by kernel_rfl
theorem shr8 (n : Nat) : ishr .i64 ((n : Nat) : Int) 8 = ((n / 256 : Nat) : Int) := by
  show (((n : Nat) : Int)).fdiv (2 ^ 8) = _
  exact (Int.ofNat_fdiv n 256).symm
set_option maxRecDepth 20000 in
theorem round_good (out : List (BitVec 8)) (l : List Itm) (i : Nat) (hi : i < l.length) (hl : l.length ≤ 200) (ho : out.length ≤ 1000000) (hg : lenI (rd itS l i) ≤ 4096) {Kn : HI Idw → Prop} {Kr : HI ldw → Prop} {Kx : HP odw} (h : Kn (optL (out ++ encB (rd itS l i)), l, ((l.length : Nat) : Int), ((i + 1 : Nat) : Int), ())) :
    roundT (W D0 Try.f18.ntmps (LTab.look Ldw) (bodyAt bdw 5)) Idw ldw odw (optL out, l, ((l.length : Nat) : Int), (i : Int), ()) Kn Kr Kx := by
  have e1 : IntKind.i64.wrap ((i : Int) + 1) = ((i + 1 : Nat) : Int) := i64w (by omega) (by omega)
  have hne : out ++ encB (rd itS l i) ≠ [] := fun e => encB_ne _ (List.append_eq_nil_iff.1 e).2
  rw [optL_ne hne] at h
  cases out with
  | nil =>
    show roundT _ Idw ldw odw (none, l, _, _, ()) Kn Kr Kx
    rw [rounddwn, e1, Int.toNat_natCast]
    generalize hx : rd itS l i = x at h hg
    have hn : List.length x.2.1 = lenI x := rfl
    simp only [hn, shr8, BitVec.ofInt_natCast]
    refine ifB_dec (fun _ => dmd_of (inB hi) (ifB_dec (fun c => absurd c (by omega)) (fun _ => ifB_dec (fun c => ?_) (fun c => ifB_dec (fun d => ?_) (fun d => ?_))))) (fun c => absurd (show (i : Int) < ((l.length : Nat) : Int) by omega) c)
    · refine dmd_of (bleT (by omega)) ⟨⟨trivial, by first | trivial | omega⟩, ?_⟩
      unfold encB hdrB at h
      rw [decTr (show lenI x < 128 by omega)] at h; exact h
    · refine dmd_of (bleT (by omega)) ⟨⟨trivial, by first | trivial | omega⟩, ?_⟩
      unfold encB hdrB at h
      rw [decFa (show ¬ lenI x < 128 by omega), decTr (show lenI x < 256 by omega)] at h; exact h
    · refine dmd_of (bleT (by omega)) ⟨⟨trivial, by first | trivial | omega⟩, ?_⟩
      unfold encB hdrB at h
      rw [decFa (show ¬ lenI x < 128 by omega), decFa (show ¬ lenI x < 256 by omega)] at h; exact h
  | cons o out =>
    show roundT _ Idw ldw odw (some (o :: out), l, _, _, ()) Kn Kr Kx
    rw [rounddws, e1, Int.toNat_natCast]
    generalize (o :: out) = ot at *
    generalize hx : rd itS l i = x at h hg
    have hn : List.length x.2.1 = lenI x := rfl
    have la : ∀ a b : List (BitVec 8), (a.append b).length = a.length + b.length := fun a b => List.length_append
    simp only [hn, shr8, BitVec.ofInt_natCast, la]
    have aa : ∀ a b c : List (BitVec 8), (a.append b).append c = a ++ (b ++ c) := fun a b c => List.append_assoc a b c
    refine ifB_dec (fun _ => dmd_of (inB hi) (ifB_dec (fun c => absurd c (by omega)) (fun _ => ifB_dec (fun c => ?_) (fun c => ifB_dec (fun d => ?_) (fun d => ?_))))) (fun c => absurd (show (i : Int) < ((l.length : Nat) : Int) by omega) c)
    · refine dmd_of (andT (Nat.beq_refl _) (bleT (by omega))) (dmd_of (andT (Nat.beq_refl _) (bleT (by omega))) ⟨⟨trivial, by first | trivial | omega⟩, ?_⟩)
      unfold encB hdrB at h
      rw [decTr (show lenI x < 128 by omega)] at h
      rw [aa]; exact h
    · refine dmd_of (andT (Nat.beq_refl _) (bleT (by omega))) (dmd_of (andT (Nat.beq_refl _) (bleT (by omega))) ⟨⟨trivial, by first | trivial | omega⟩, ?_⟩)
      unfold encB hdrB at h
      rw [decFa (show ¬ lenI x < 128 by omega), decTr (show lenI x < 256 by omega)] at h
      rw [aa]; exact h
    · refine dmd_of (andT (Nat.beq_refl _) (bleT (by omega))) (dmd_of (andT (Nat.beq_refl _) (bleT (by omega))) ⟨⟨trivial, by first | trivial | omega⟩, ?_⟩)
      unfold encB hdrB at h
      rw [decFa (show ¬ lenI x < 128 by omega), decFa (show ¬ lenI x < 256 by omega)] at h
      rw [aa]; exact h
set_option maxRecDepth 20000 in
theorem round_bad (out : List (BitVec 8)) (l : List Itm) (i : Nat) (hi : i < l.length) (hg : ¬ lenI (rd itS l i) ≤ 4096) {Kn : HI Idw → Prop} {Kr : HI ldw → Prop} {Kx : HP odw} (h : Kr ([], 2, ())) :
    roundT (W D0 Try.f18.ntmps (LTab.look Ldw) (bodyAt bdw 5)) Idw ldw odw (optL out, l, ((l.length : Nat) : Int), (i : Int), ()) Kn Kr Kx := by
  have hn : List.length (rd itS l i).2.1 = lenI (rd itS l i) := rfl
  cases out with
  | nil =>
    show roundT _ Idw ldw odw (none, l, _, _, ()) Kn Kr Kx
    rw [rounddwn, Int.toNat_natCast]
    exact ifB_dec (fun _ => dmd_of (inB hi) (ifB_dec (fun _ => h) (fun c => absurd (show (4096 : Int) < ((List.length (rd itS l i).2.1 : Nat) : Int) by omega) c))) (fun c => absurd (show (i : Int) < ((l.length : Nat) : Int) by omega) c)
  | cons o out =>
    show roundT _ Idw ldw odw (some (o :: out), l, _, _, ()) Kn Kr Kx
    rw [rounddws, Int.toNat_natCast]
    exact ifB_dec (fun _ => dmd_of (inB hi) (ifB_dec (fun _ => h) (fun c => absurd (show (4096 : Int) < ((List.length (rd itS l i).2.1 : Nat) : Int) by omega) c))) (fun c => absurd (show (i : Int) < ((l.length : Nat) : Int) by omega) c)
/-- the first that is too long -/
theorem first_bad : ∀ {l : List Itm}, goodL l = false → ∃ j, j < l.length ∧ (∀ i, i < j → lenI (rd itS l i) ≤ 4096) ∧ ¬ lenI (rd itS l j) ≤ 4096
  | [], h => by cases h
  | x :: l, h => by
    by_cases c : lenI x ≤ 4096
    · have h2 : goodL l = false := by
        unfold goodL at h ⊢
        rw [List.all_cons, decTr c, Bool.true_and] at h; exact h
      obtain ⟨j, h3, h4, h5⟩ := first_bad h2
      refine ⟨j + 1, by rw [List.length_cons]; omega, fun i hi => ?_, h5⟩
      cases i with
      | zero => exact c
      | succ i => exact h4 i (by omega)
    · exact ⟨0, by rw [List.length_cons]; omega, fun i hi => absurd hi (Nat.not_lt_zero i), c⟩
theorem good_rd {l : List Itm} (h : goodL l = true) {i : Nat} (hi : i < l.length) : lenI (rd itS l i) ≤ 4096 := by
  unfold goodL at h
  rw [List.all_eq_true] at h
  rw [rd_at hi]
  exact of_decide_eq_true (h _ (List.getElem_mem hi))
set_option maxRecDepth 20000 in
theorem good_take {l : List Itm} {j : Nat} (h : ∀ i, i < j → lenI (rd itS l i) ≤ 4096) : (encL (l.take j)).length ≤ j * 4100 := by
  induction j with
  | zero => exact Nat.le_refl 0
  | succ j ih =>
    by_cases c : j < l.length
    · have h1 := ih (fun i hi => h i (by omega))
      have h2 := h j (by omega)
      have h3 := (hdrB_len (rd itS l j)).2
      rw [take_nextI c, encL_app, List.length_append, encL_one, encB_len]; omega
    · have h1 := ih (fun i hi => h i (by omega))
      rw [List.take_of_length_le (by omega)] at h1 ⊢
      omega
set_option maxRecDepth 20000 in
theorem loopdw : ∀ x Kr Kx, Qdw x Kr Kx → ∃ n, untl (W D0 Try.f18.ntmps (LTab.look Ldw) (bodyAt bdw 5)) Idw ldw odw n x Kr Kx := by
  rintro x Kr Kx ⟨l, ex, hl, hK⟩
  cases hg : goodL l with
  | true =>
    rw [hg] at hK
    have hK : Kx.1 (optL (encL l), ()) := hK
    have key := untl_up (F := W D0 Try.f18.ntmps (LTab.look Ldw) (bodyAt bdw 5)) (l := Idw) (lr := ldw) (lx := odw) (Kr := Kr) (Kx := Kx) (st := fun i => (optL (encL (l.take i)), l, ((l.length : Nat) : Int), (i : Int), ())) l.length (fun i hi Kn hn => ?_) (fun Kn => ?_)
    · rw [ex]; exact key
    · have h1 := good_take (l := l) (j := i) (fun k hk => good_rd hg (by omega))
      rw [take_nextI hi, encL_app, encL_one] at hn
      exact round_good _ l i hi hl (by omega) (good_rd hg hi) hn
    · rw [List.take_length]
      cases h : encL l with
      | nil =>
        rw [h] at hK
        show roundT _ Idw ldw odw (none, l, _, _, ()) Kn Kr Kx
        rw [rounddwn]
        exact ifB_dec (fun c => absurd c (by omega)) (fun _ => hK)
      | cons o out =>
        rw [h] at hK
        show roundT _ Idw ldw odw (some (o :: out), l, _, _, ()) Kn Kr Kx
        rw [rounddws]
        exact ifB_dec (fun c => absurd c (by omega)) (fun _ => ⟨⟨rfl, rfl⟩, hK⟩)
  | false =>
    rw [hg] at hK
    have hK : Kr ([], 2, ()) := hK
    obtain ⟨j, hj, hgj, hbad⟩ := first_bad hg
    have key := untl_up (F := W D0 Try.f18.ntmps (LTab.look Ldw) (bodyAt bdw 5)) (l := Idw) (lr := ldw) (lx := odw) (Kr := Kr) (Kx := Kx) (st := fun i => (optL (encL (l.take i)), l, ((l.length : Nat) : Int), (i : Int), ())) j (fun i hi Kn hn => ?_) (fun Kn => round_bad _ l j hj hbad hK)
    · rw [ex]; exact key
    · have h1 := good_take (l := l) (j := i) (fun k hk => hgj k (by omega))
      rw [take_nextI (by omega), encL_app, encL_one] at hn
      exact round_good _ l i (by omega) hl (by omega) (hgj i hi) hn
noncomputable def wrF : HA [.v (.sl itS)] → RT := fun xs => .ret (.tup [.val (.sl u8S) (wrB xs.1), .val i64S (wrE xs.1)])
theorem nrm_w1 (n : Int) : nrmS [.sl u8S, i64S] (.tup [.cell .nilS, .val i64S n]) = .tup [.val (.sl u8S) [], .val i64S n] := rfl
theorem nrm_w2 (b : List (BitVec 8)) (n : Int) : nrmS [.sl u8S, i64S] (.tup [.val (.sl u8S) b, .val i64S n]) = .tup [.val (.sl u8S) b, .val i64S n] := rfl
set_option maxRecDepth 20000 in
theorem write_fw (l : List Itm) : FW D0 Try.f18.ntmps (LTab.look Ldw) Try.f18 (argsOf [.sl itS] (l, ())) (fun r => nrmS [.sl u8S, i64S] r = .tup [.val (.sl u8S) (wrB l), .val i64S (wrE l)]) := by
  rw [fwDWrite]
  refine ifB_dec (fun c => ?_) (fun c => ⟨l, rfl, by omega, ?_⟩)
  · have e : wrO l = false := by unfold wrO; rw [decFa (show ¬ l.length ≤ 200 by omega)]; rfl
    rw [nrm_w1]
    unfold wrB wrE
    rw [e]; rfl
  · have e : wrO l = goodL l := by unfold wrO; rw [decTr (show l.length ≤ 200 by omega)]; rfl
    unfold wrB wrE
    rw [e]
    cases goodL l with
    | false => exact nrm_w2 [] 2
    | true =>
      show optB (optL (encL l)) _ _
      cases h : encL l with
      | nil => exact nrm_w1 0
      | cons o out =>
        show nrmS [.sl u8S, i64S] (.tup [.val (.sl u8S) (List.take (o :: out).length (List.drop 0 (o :: out))), .val i64S 0]) = .tup [.val (.sl u8S) (o :: out), .val i64S 0]
        rw [drop0_take _ _ rfl, nrm_w2]
theorem write_ok : COK Try.prog GL 18 (conA [.v (.sl itS)] wrF) :=
  conA_ok (fun xs _ _ => PC_of_fwn [.sl u8S, i64S] (t := Ldw) shA_ok CNil mixed Try.func18 (c := bdw) rfl (by kernel_rfl) (by kernel_rfl)
    (loopsOK (by kernel_rfl) (LTCons (loop_of shA_ok CNil mixed (loopsOK (by kernel_rfl) (LTCons (noLoop (by kernel_rfl)) LTNil)) (by kernel_rfl) loopdw) LTNil)) rfl (write_fw xs.1)) (fun _ => rfl)
end Go.Proofs.Ytkookenoedbadaa
