import Derived.Test.YtonlmamfggfanaaDoorB0
namespace Go.Proofs.YtonlmamfggfanaaDoor
open Go.Ty

/-! ## Pieces of bytes -/
def cutP : List (BitVec 8) × List (List (BitVec 8)) → Int → List (BitVec 8) × List (List (BitVec 8)) := fun s n =>
  bif decide (n < 0) || decide (((List.length s.1 : Nat) : Int) < n) then s else (s.1.drop n.toNat, s.2 ++ [s.1.take n.toNat])
def cutsP (p : List (BitVec 8)) (cuts : List Int) : List (BitVec 8) × List (List (BitVec 8)) := cuts.foldl cutP (p, [])
def pcs (p : List (BitVec 8)) (cuts : List Int) : List (List (BitVec 8)) := (cutsP p cuts).2 ++ [(cutsP p cuts).1]
theorem cutP_flat (s : List (BitVec 8) × List (List (BitVec 8))) (n : Int) : (cutP s n).2.flatten ++ (cutP s n).1 = s.2.flatten ++ s.1 := by
  unfold cutP
  cases decide (n < 0) || decide (((List.length s.1 : Nat) : Int) < n) with
  | true => rfl
  | false => show (s.2 ++ [s.1.take n.toNat]).flatten ++ s.1.drop n.toNat = _; rw [List.flatten_append, List.append_assoc]; simp
theorem cutP_len (s : List (BitVec 8) × List (List (BitVec 8))) (n : Int) : (cutP s n).2.length ≤ s.2.length + 1 := by
  unfold cutP
  cases decide (n < 0) || decide (((List.length s.1 : Nat) : Int) < n) with
  | true => exact Nat.le_succ _
  | false => show (s.2 ++ [_]).length ≤ _; rw [List.length_append]; exact Nat.le_refl _
theorem cutP_rest (s : List (BitVec 8) × List (List (BitVec 8))) (n : Int) : (cutP s n).1.length ≤ s.1.length := by
  unfold cutP
  cases decide (n < 0) || decide (((List.length s.1 : Nat) : Int) < n) with
  | true => exact Nat.le_refl _
  | false => show (s.1.drop n.toNat).length ≤ _; rw [List.length_drop]; omega
theorem folds_flat : ∀ (cuts : List Int) (s : List (BitVec 8) × List (List (BitVec 8))), (cuts.foldl cutP s).2.flatten ++ (cuts.foldl cutP s).1 = s.2.flatten ++ s.1
  | [], _ => rfl
  | n :: r, s => by rw [List.foldl_cons, folds_flat r, cutP_flat]
theorem folds_len : ∀ (cuts : List Int) (s : List (BitVec 8) × List (List (BitVec 8))), (cuts.foldl cutP s).2.length ≤ s.2.length + cuts.length
  | [], _ => Nat.le_refl _
  | n :: r, s => by
    rw [List.foldl_cons]
    have h1 := folds_len r (cutP s n)
    have h2 := cutP_len s n
    rw [List.length_cons]; omega
theorem pcs_flat (p : List (BitVec 8)) (cuts : List Int) : (pcs p cuts).flatten = p := by
  unfold pcs
  rw [List.flatten_append]
  have := folds_flat cuts (p, [])
  have e : [(cutsP p cuts).1].flatten = (cutsP p cuts).1 := by simp
  rw [e]
  exact this
theorem pcs_len (p : List (BitVec 8)) (cuts : List Int) : (pcs p cuts).length ≤ cuts.length + 1 := by
  unfold pcs
  have := folds_len cuts (p, [])
  rw [List.length_append]
  show (cutsP p cuts).2.length + 1 ≤ _
  have h : (cutsP p cuts).2.length ≤ 0 + cuts.length := this
  omega
theorem len_flat {x : List (BitVec 8)} : ∀ {l : List (List (BitVec 8))}, x ∈ l → x.length ≤ l.flatten.length
  | [], h => by cases h
  | y :: l, h => by
    rw [List.flatten_cons, List.length_append]
    rcases List.mem_cons.1 h with rfl | h
    · omega
    · have := len_flat h; omega
theorem pcs_each {p : List (BitVec 8)} {cuts : List Int} {x : List (BitVec 8)} (h : x ∈ pcs p cuts) : x.length ≤ p.length := by
  have := len_flat h
  rw [pcs_flat] at this; exact this
noncomputable abbrev C0 : Go.Ty.Cx := mkX Tryd.prog GL shA []
noncomputable abbrev Ip3 : List It := [.v 0 (.sl u8S), .g 5 2001 (.sl u8S), .v 8 (.sl i64S), .v 9 i64S, .v 10 i64S]
noncomputable abbrev op3 : List (Nat × List It) := [(0, [.v 0 (.sl u8S), .g 5 2001 (.sl u8S)])]
noncomputable def bp3 : Code := Tryd.f18.body.getD .skip
noncomputable def Qp3 : LQ Ip3 [] op3 := fun x _ Kx => ∃ (p : List (BitVec 8)) (cuts : List Int), x = (p, none, cuts, ((cuts.length : Nat) : Int), (0 : Int), ()) ∧ p.length ≤ 140737488355328 ∧ cuts.length ≤ 5864062014800 ∧ Kx.1 ((cutsP p cuts).1, optL (cutsP p cuts).2, ())
noncomputable abbrev Lp3 : LTab := [(3, ptL Ip3 [] op3 Qp3)]
theorem roundp3n (p : List (BitVec 8)) (cuts : List Int) (m i : Int) (Kn : HI Ip3 → Prop) (Kr : HI [] → Prop) (Kx : HP op3) : roundT (W C0 Tryd.f18.ntmps (LTab.look Lp3) (bodyAt bp3 3)) Ip3 [] op3 (p, none, cuts, m, i, ()) Kn Kr Kx =
 (  ifB (decide (i < m))
    (dmd (decide (0 ≤ i) && decide (i < ((cuts.length : Nat) : Int)))
      (ifB (decide (rd (Sh.int IntKind.i64) cuts i.toNat < 0))
        (Kn (p, none, cuts, m, IntKind.i64.wrap (i + 1), PUnit.unit))
        (ifB (decide (((p.length : Nat) : Int) < rd (Sh.int IntKind.i64) cuts i.toNat))
          (Kn (p, none, cuts, m, IntKind.i64.wrap (i + 1), PUnit.unit))
          (dmd (decide (0 ≤ rd (Sh.int IntKind.i64) cuts i.toNat))
            (dmd
              (Nat.ble 0 (Int.toNat (rd (Sh.int IntKind.i64) cuts i.toNat)) &&
                (Int.toNat (rd (Sh.int IntKind.i64) cuts i.toNat)).ble p.length)
              (ifB
                ((List.take 1
                        (List.drop 0
                          ((List.replicate 1 []).set 0
                            (List.drop 0 (List.take (Int.toNat (rd (Sh.int IntKind.i64) cuts i.toNat)) p))))).length.beq
                  0)
                (dmd (decide (0 ≤ rd (Sh.int IntKind.i64) cuts i.toNat))
                  (dmd ((Int.toNat (rd (Sh.int IntKind.i64) cuts i.toNat)).ble p.length && p.length.ble p.length)
                    (Kn
                      (List.drop (Int.toNat (rd (Sh.int IntKind.i64) cuts i.toNat)) (List.take p.length p), none, cuts, m,
                        IntKind.i64.wrap (i + 1), PUnit.unit))))
                (dmd
                  (((List.take 1
                            (List.drop 0
                              ((List.replicate 1 []).set 0
                                (List.drop 0 (List.take (Int.toNat (rd (Sh.int IntKind.i64) cuts i.toNat)) p))))).length *
                        24).ble
                    140737488355328)
                  (dmd (decide (0 ≤ rd (Sh.int IntKind.i64) cuts i.toNat))
                    (dmd ((Int.toNat (rd (Sh.int IntKind.i64) cuts i.toNat)).ble p.length && p.length.ble p.length)
                      ((0 = 0 ∧
                          (List.take 1
                                (List.drop 0
                                  ((List.replicate 1 []).set 0
                                    (List.drop 0
                                      (List.take (Int.toNat (rd (Sh.int IntKind.i64) cuts i.toNat)) p))))).length =
                            (List.take 1
                                (List.drop 0
                                  ((List.replicate 1 []).set 0
                                    (List.drop 0
                                      (List.take (Int.toNat (rd (Sh.int IntKind.i64) cuts i.toNat)) p))))).length) ∧
                        Kn
                          (List.drop (Int.toNat (rd (Sh.int IntKind.i64) cuts i.toNat)) (List.take p.length p),
                            some
                              (List.take 1
                                (List.drop 0
                                  ((List.replicate 1 []).set 0
                                    (List.drop 0 (List.take (Int.toNat (rd (Sh.int IntKind.i64) cuts i.toNat)) p))))),
                            cuts, m, IntKind.i64.wrap (i + 1), PUnit.unit)))))))))))
    (Kx.1 (p, none, PUnit.unit))) := by kernel_rfl
theorem roundp3s (p : List (BitVec 8)) (out : List (List (BitVec 8))) (cuts : List Int) (m i : Int) (Kn : HI Ip3 → Prop) (Kr : HI [] → Prop) (Kx : HP op3) : roundT (W C0 Tryd.f18.ntmps (LTab.look Lp3) (bodyAt bp3 3)) Ip3 [] op3 (p, some out, cuts, m, i, ()) Kn Kr Kx =
 (  ifB (decide (i < m))
    (dmd (decide (0 ≤ i) && decide (i < ((cuts.length : Nat) : Int)))
      (ifB (decide (rd (Sh.int IntKind.i64) cuts i.toNat < 0))
        ((0 = 0 ∧ out.length = out.length) ∧ Kn (p, some out, cuts, m, IntKind.i64.wrap (i + 1), PUnit.unit))
        (ifB (decide (((p.length : Nat) : Int) < rd (Sh.int IntKind.i64) cuts i.toNat))
          ((0 = 0 ∧ out.length = out.length) ∧ Kn (p, some out, cuts, m, IntKind.i64.wrap (i + 1), PUnit.unit))
          (dmd (decide (0 ≤ rd (Sh.int IntKind.i64) cuts i.toNat))
            (dmd
              (Nat.ble 0 (Int.toNat (rd (Sh.int IntKind.i64) cuts i.toNat)) &&
                (Int.toNat (rd (Sh.int IntKind.i64) cuts i.toNat)).ble p.length)
              (dmd
                (out.length.beq out.length &&
                  ((out.length +
                          (List.take 1
                              (List.drop 0
                                ((List.replicate 1 []).set 0
                                  (List.drop 0
                                    (List.take (Int.toNat (rd (Sh.int IntKind.i64) cuts i.toNat)) p))))).length) *
                        24).ble
                    140737488355328)
                (dmd (decide (0 ≤ rd (Sh.int IntKind.i64) cuts i.toNat))
                  (dmd ((Int.toNat (rd (Sh.int IntKind.i64) cuts i.toNat)).ble p.length && p.length.ble p.length)
                    ((0 = 0 ∧
                        out.length +
                            (List.take 1
                                (List.drop 0
                                  ((List.replicate 1 []).set 0
                                    (List.drop 0
                                      (List.take (Int.toNat (rd (Sh.int IntKind.i64) cuts i.toNat)) p))))).length =
                          (out.append
                              (List.take 1
                                (List.drop 0
                                  ((List.replicate 1 []).set 0
                                    (List.drop 0
                                      (List.take (Int.toNat (rd (Sh.int IntKind.i64) cuts i.toNat)) p)))))).length) ∧
                      Kn
                        (List.drop (Int.toNat (rd (Sh.int IntKind.i64) cuts i.toNat)) (List.take p.length p),
                          some
                            (out.append
                              (List.take 1
                                (List.drop 0
                                  ((List.replicate 1 []).set 0
                                    (List.drop 0 (List.take (Int.toNat (rd (Sh.int IntKind.i64) cuts i.toNat)) p)))))),
                          cuts, m, IntKind.i64.wrap (i + 1), PUnit.unit))))))))))
    ((0 = 0 ∧ out.length = out.length) ∧ Kx.1 (p, some out, PUnit.unit))) := by kernel_rfl
theorem fwPieces (p : Sh.T (.sl u8S)) (cuts : Sh.T (.sl i64S)) (P : SV → Prop) : FW C0 Tryd.f18.ntmps (LTab.look Lp3) Tryd.f18 (argsOf [.sl u8S, .sl i64S] (p, cuts, ())) P =
 (  Qp3 (p, none, cuts, (((List.length cuts) : Nat) : Int), 0, PUnit.unit) (fun _ => False)
    (fun x =>
      optB x.2.1
        (ifB ((List.take 1 (List.drop 0 ((List.replicate 1 []).set 0 x.1))).length.beq 0) (P (SV.av (AV.cell Cel.nilS)))
          (dmd (((List.take 1 (List.drop 0 ((List.replicate 1 []).set 0 x.1))).length * 24).ble 140737488355328)
            (P
              (SV.av
                (AV.val (Sh.int IntKind.u8).sl.sl
                  (List.take (List.take 1 (List.drop 0 ((List.replicate 1 []).set 0 x.1))).length
                    (List.drop 0 (List.take 1 (List.drop 0 ((List.replicate 1 []).set 0 x.1))))))))))
        fun xs =>
        dmd
          (xs.length.beq xs.length &&
            ((xs.length + (List.take 1 (List.drop 0 ((List.replicate 1 []).set 0 x.1))).length) * 24).ble 140737488355328)
          (P
            (SV.av
              (AV.val (Sh.int IntKind.u8).sl.sl
                (List.take (xs.length + (List.take 1 (List.drop 0 ((List.replicate 1 []).set 0 x.1))).length)
                  (List.drop 0 (xs.append (List.take 1 (List.drop 0 ((List.replicate 1 []).set 0 x.1))))))))),
      PUnit.unit)) := by kernel_rfl
theorem oneL (x : List (BitVec 8)) : List.take 1 (List.drop 0 ((List.replicate 1 ([] : List (BitVec 8))).set 0 x)) = [x] := rfl
theorem round3 (p : List (BitVec 8)) (out : List (List (BitVec 8))) (cuts : List Int) (i : Nat) (hi : i < cuts.length) (hc : cuts.length ≤ 5864062014800) (ho : out.length ≤ i) {Kn : HI Ip3 → Prop} {Kr : HI [] → Prop} {Kx : HP op3}
    (h : Kn ((cutP (p, out) (rd i64S cuts i)).1, optL (cutP (p, out) (rd i64S cuts i)).2, cuts, ((cuts.length : Nat) : Int), ((i + 1 : Nat) : Int), ())) :
    roundT (W C0 Tryd.f18.ntmps (LTab.look Lp3) (bodyAt bp3 3)) Ip3 [] op3 (p, optL out, cuts, ((cuts.length : Nat) : Int), (i : Int), ()) Kn Kr Kx := by
  unfold cutP at h
  have e1 : IntKind.i64.wrap ((i : Int) + 1) = ((i + 1 : Nat) : Int) := i64w (by omega) (by omega)
  cases out with
  | nil =>
    show roundT _ Ip3 [] op3 (p, none, cuts, _, _, ()) Kn Kr Kx
    rw [roundp3n, e1, Int.toNat_natCast, oneL]
    generalize hn : rd i64S cuts i = n at h
    obtain ⟨n, rfl⟩ : ∃ m : Int, m = n := ⟨n, rfl⟩
    refine ifB_of (fun _ => dmd_of (inB hi) (ifB_of (fun c => ?_) (fun c => ifB_of (fun d => ?_) (fun d => ?_)))) (fun c => absurd (of_decide_eq_false c) (by omega))
    · rw [c] at h; exact h
    · rw [c, d] at h; exact h
    · rw [c, d] at h
      have c : ¬ @LT.lt Int _ n 0 := of_decide_eq_false c
      have d : ¬ @LT.lt Int _ ((p.length : Nat) : Int) n := of_decide_eq_false d
      refine dmd_of (decTr (show @LE.le Int _ 0 n by omega)) (dmd_of (andT rfl (bleT (by omega))) (ifB_of (fun z => by cases z) (fun _ => dmd_of (bleT ?_) (dmd_of (decTr (show @LE.le Int _ 0 n by omega)) (dmd_of (andT (bleT (by omega)) (bleT (Nat.le_refl _))) ⟨⟨rfl, rfl⟩, ?_⟩)))))
      · show 1 * 24 ≤ _
        omega
      · rw [List.take_length, List.drop_zero]; exact h
  | cons o out =>
    show roundT _ Ip3 [] op3 (p, some (o :: out), cuts, _, _, ()) Kn Kr Kx
    rw [roundp3s, e1, Int.toNat_natCast, oneL]
    generalize hn : rd i64S cuts i = n at h
    obtain ⟨n, rfl⟩ : ∃ m : Int, m = n := ⟨n, rfl⟩
    refine ifB_of (fun _ => dmd_of (inB hi) (ifB_of (fun c => ?_) (fun c => ifB_of (fun d => ?_) (fun d => ?_)))) (fun c => absurd (of_decide_eq_false c) (by omega))
    · rw [c] at h; exact ⟨⟨rfl, rfl⟩, h⟩
    · rw [c, d] at h; exact ⟨⟨rfl, rfl⟩, h⟩
    · rw [c, d] at h
      have c : ¬ @LT.lt Int _ n 0 := of_decide_eq_false c
      have d : ¬ @LT.lt Int _ ((p.length : Nat) : Int) n := of_decide_eq_false d
      refine dmd_of (decTr (show @LE.le Int _ 0 n by omega)) (dmd_of (andT rfl (bleT (by omega))) (dmd_of (andT (Nat.beq_refl _) (bleT ?_)) (dmd_of (decTr (show @LE.le Int _ 0 n by omega)) (dmd_of (andT (bleT (by omega)) (bleT (Nat.le_refl _))) ⟨⟨rfl, ?_⟩, ?_⟩))))
      · show ((o :: out).length + 1) * 24 ≤ _
        omega
      · show (o :: out).length + 1 = ((o :: out) ++ [_]).length
        rw [List.length_append]; rfl
      · rw [List.take_length, List.drop_zero]; exact h
theorem rd_i64 {x : List Int} {j : Nat} (h : j < x.length) : rd i64S x j = x[j] := rd_at h
theorem loop3 : ∀ x Kr Kx, Qp3 x Kr Kx → ∃ n, untl (W C0 Tryd.f18.ntmps (LTab.look Lp3) (bodyAt bp3 3)) Ip3 [] op3 n x Kr Kx := by
  rintro x Kr Kx ⟨p, cuts, ex, hp, hc, hK⟩
  have key := untl_up (F := W C0 Tryd.f18.ntmps (LTab.look Lp3) (bodyAt bp3 3)) (l := Ip3) (lr := []) (lx := op3) (Kr := Kr) (Kx := Kx) (st := fun i => ((cutsP p (cuts.take i)).1, optL (cutsP p (cuts.take i)).2, cuts, ((cuts.length : Nat) : Int), (i : Int), ())) cuts.length (fun i hi Kn hn => ?_) (fun Kn => ?_)
  · rw [ex]; exact key
  · have e : cutsP p (cuts.take (i + 1)) = cutP ((cutsP p (cuts.take i)).1, (cutsP p (cuts.take i)).2) (rd i64S cuts i) := by
      unfold cutsP
      rw [List.take_add_one, rd_i64 hi, List.getElem?_eq_getElem hi, List.foldl_append]; rfl
    have hl : (cutsP p (cuts.take i)).2.length ≤ i := by
      have : (cutsP p (cuts.take i)).2.length ≤ 0 + (cuts.take i).length := folds_len (cuts.take i) (p, [])
      rw [List.length_take] at this; omega
    rw [e] at hn
    exact round3 _ _ cuts i hi hc hl hn
  · rw [List.take_length]
    cases h : (cutsP p cuts).2 with
    | nil =>
      rw [h] at hK
      show roundT _ Ip3 [] op3 (_, none, cuts, _, _, ()) Kn Kr Kx
      rw [roundp3n]
      exact ifB_of (fun c => absurd (of_decide_eq_true c) (by omega)) (fun _ => hK)
    | cons o out =>
      rw [h] at hK
      show roundT _ Ip3 [] op3 (_, some (o :: out), cuts, _, _, ()) Kn Kr Kx
      rw [roundp3s]
      exact ifB_of (fun c => absurd (of_decide_eq_true c) (by omega)) (fun _ => ⟨⟨rfl, rfl⟩, hK⟩)
noncomputable def pcsF : HA [.v (.sl u8S), .v (.sl i64S)] → RT := fun xs => .dem (Nat.ble (List.length xs.1) 140737488355328) (.dem (Nat.ble (List.length xs.2.1) 5864062014800) (.ret (.av (.val (.sl (.sl u8S)) (pcs xs.1 xs.2.1)))))
theorem pieces_fw (p : List (BitVec 8)) (cuts : List Int) (hp : p.length ≤ 140737488355328) (hc : cuts.length ≤ 5864062014800) : FW C0 Tryd.f18.ntmps (LTab.look Lp3) Tryd.f18 (argsOf [.sl u8S, .sl i64S] (p, cuts, ())) (fun r => r = .av (.val (.sl (.sl u8S)) (pcs p cuts))) := by
  rw [fwPieces]
  refine ⟨p, cuts, rfl, hp, hc, ?_⟩
  have hl : (cutsP p cuts).2.length ≤ 0 + cuts.length := folds_len cuts (p, [])
  unfold pcs
  cases h : (cutsP p cuts).2 with
  | nil =>
    exact dmd_of (b := Nat.ble (1 * 24) 140737488355328) rfl rfl
  | cons o out =>
    rw [h] at hl
    refine dmd_of (andT (Nat.beq_refl _) (bleT ?_)) ?_
    · show ((o :: out).length + 1) * 24 ≤ _
      omega
    · show SV.av (AV.val (.sl (.sl u8S)) (List.take ((o :: out).length + 1) (List.drop 0 ((o :: out) ++ [(cutsP p cuts).1])))) = _
      rw [drop0_take _ _ (by rw [List.length_append]; rfl)]
theorem pieces_ok : COK Tryd.prog GL 18 (conA [.v (.sl u8S), .v (.sl i64S)] pcsF) :=
  conA_ok (fun xs _ hc => PC_of_fw (t := Lp3) shA_ok CNil mixed Tryd.func18 (c := bp3) rfl (by kernel_rfl) (by kernel_rfl)
    (loopsOK (by kernel_rfl) (LTCons (loop_of shA_ok CNil mixed (loopsOK (by kernel_rfl) (LTCons (noLoop (by kernel_rfl)) LTNil)) (by kernel_rfl) loop3) LTNil)) rfl (pieces_fw xs.1 xs.2.1 (Nat.le_of_ble_eq_true hc.1) (Nat.le_of_ble_eq_true hc.2.1))) (fun _ => rfl)
end Go.Proofs.YtonlmamfggfanaaDoor
