import Derived.Test.YtkookenoedbadaaDb
namespace Go.Proofs.Ytkookenoedbadaa
open Go.Ty

/-! ## Items read -/
def rdF : Nat → List (BitVec 8) → List Itm → List Itm × Int
  | 0, _, acc => (acc, 0)
  | k + 1, b, acc => bif decide (b.length = 0) then (acc, 0) else bif decide (acc.length = 200) then ([], 2) else bif !decide (fstE b = 0) then ([], fstE b) else rdF k (b.drop (fstN b)) (acc ++ [fstX b])
def rdD (b : List (BitVec 8)) : List Itm × Int := bif decide (65536 < b.length) then ([], 2) else rdF (b.length + 1) b []
theorem rdF_err : ∀ (k : Nat) (b : List (BitVec 8)) (acc : List Itm), (rdF k b acc).2 ≠ 0 → (rdF k b acc).1 = []
  | 0, _, _, h => absurd rfl h
  | k + 1, b, acc, h => by
    unfold rdF at h ⊢
    by_cases c : b.length = 0
    · rw [decTr c] at h; exact absurd rfl h
    · rw [decFa c] at h ⊢
      by_cases d : acc.length = 200
      · rw [decTr d]; rfl
      · rw [decFa d] at h ⊢
        by_cases e : fstE b = 0
        · rw [decTr e] at h ⊢; exact rdF_err k _ _ h
        · rw [decFa e]; rfl
noncomputable def D2c : CTab := (48, conA [.v (.sl u8S)] fstF) :: []
noncomputable abbrev D2 : Go.Ty.Cx := mkX Try.prog GL shA D2c
theorem D2_ok : ∀ p ∈ D2c, COK Try.prog GL p.1 p.2 := CCons first_ok CNil
abbrev Idr : List It := [.v 0 (.sl u8S), .g 4 2000 itS]
abbrev odr : List (Nat × List It) := [(0, [.g 4 2000 itS])]
abbrev ldr : List It := [.v 2 (.sl itS), .v 3 i64S]
noncomputable def Qdr : LQ Idr ldr odr := fun x Kr Kx => ∃ b : List (BitVec 8), x = (b, none, ()) ∧ b.length ≤ 65536 ∧ ifB (decide ((rdF (b.length + 1) b []).2 = 0)) (Kx.1 (optL (rdF (b.length + 1) b []).1, ())) (Kr ([], (rdF (b.length + 1) b []).2, ()))
noncomputable def bdr : Code := Try.f34.body.getD .skip
noncomputable abbrev Ldr : LTab := [(4, ptL Idr ldr odr Qdr)]
theorem rounddrn (b : List (BitVec 8)) (Kn : HI Idr → Prop) (Kr : HI ldr → Prop) (Kx : HP odr) : roundT (W D2 Try.f34.ntmps (LTab.look Ldr) (bodyAt bdr 4)) Idr ldr odr (b, none, ()) Kn Kr Kx =
 (  ifB (decide (0 < ((b.length : Nat) : Int)))
    (dmd (b.length.ble 140737488355328)
      (ifB (!decide (fstE b = 0)) (Kr ([], fstE b, PUnit.unit))
        (dmd (decide (0 ≤ (((fstN b) : Nat) : Int)))
          (dmd (((((fstN b) : Nat) : Int)).toNat.ble b.length && b.length.ble b.length)
            ((0 = 0 ∧ 1 = 1) ∧ Kn (List.drop ((((fstN b) : Nat) : Int)).toNat (List.take b.length b), some [fstX b], PUnit.unit))))))
    (Kx.1 (none, PUnit.unit))) := by kernel_rfl
theorem rounddrs (b : List (BitVec 8)) (o : List (Sh.T itS)) (Kn : HI Idr → Prop) (Kr : HI ldr → Prop) (Kx : HP odr) : roundT (W D2 Try.f34.ntmps (LTab.look Ldr) (bodyAt bdr 4)) Idr ldr odr (b, some o, ()) Kn Kr Kx =
 (  ifB (decide (0 < ((b.length : Nat) : Int)))
    (ifB (decide (((o.length : Nat) : Int) = 200)) (Kr ([], 2, PUnit.unit))
      (dmd (b.length.ble 140737488355328)
        (ifB (!decide (fstE b = 0)) (Kr ([], fstE b, PUnit.unit))
          (dmd (o.length.beq o.length && ((o.length + 1) * 32).ble 140737488355328)
            (dmd (decide (0 ≤ (((fstN b) : Nat) : Int)))
              (dmd (((((fstN b) : Nat) : Int)).toNat.ble b.length && b.length.ble b.length)
                ((0 = 0 ∧ o.length + 1 = (o.append [fstX b]).length) ∧
                  Kn (List.drop ((((fstN b) : Nat) : Int)).toNat (List.take b.length b), some (o.append [fstX b]), PUnit.unit))))))))
    ((0 = 0 ∧ o.length = o.length) ∧ Kx.1 (some o, PUnit.unit))) := by kernel_rfl
theorem fwRead (b : Sh.T (.sl u8S)) (P : SV → Prop) : FW D2 Try.f34.ntmps (LTab.look Ldr) Try.f34 (argsOf [.sl u8S] (b, ())) P =
 (  ifB (decide (65536 < (((List.length b) : Nat) : Int))) (P (SV.tup [AV.cell Cel.nilS, AV.val (Sh.int IntKind.i64) 2]))
    (Qdr (b, none, PUnit.unit)
      (fun x =>
        P
          (SV.tup
            [AV.val ((Sh.int IntKind.u8).pair ((Sh.int IntKind.u8).sl.pair Sh.unit)).sl x.1,
              AV.val (Sh.int IntKind.i64) x.2.1]))
      (fun x =>
        optB x.1 (P (SV.tup [AV.cell Cel.nilS, AV.val (Sh.int IntKind.i64) 0])) fun xs =>
          P
            (SV.tup
              [AV.val ((Sh.int IntKind.u8).pair ((Sh.int IntKind.u8).sl.pair Sh.unit)).sl
                  (List.take xs.length (List.drop 0 xs)),
                AV.val (Sh.int IntKind.i64) 0]),
        PUnit.unit))) := by kernel_rfl
set_option maxRecDepth 20000 in
theorem round_end (acc : List Itm) {b : List (BitVec 8)} (hb : b.length = 0) {Kn : HI Idr → Prop} {Kr : HI ldr → Prop} {Kx : HP odr} (h : Kx.1 (optL acc, ())) :
    roundT (W D2 Try.f34.ntmps (LTab.look Ldr) (bodyAt bdr 4)) Idr ldr odr (b, optL acc, ()) Kn Kr Kx := by
  cases acc with
  | nil =>
    show roundT _ Idr ldr odr (b, none, ()) Kn Kr Kx
    rw [rounddrn]
    exact ifB_dec (fun c => absurd c (by omega)) (fun _ => h)
  | cons o acc =>
    show roundT _ Idr ldr odr (b, some (o :: acc), ()) Kn Kr Kx
    rw [rounddrs]
    exact ifB_dec (fun c => absurd c (by omega)) (fun _ => ⟨⟨rfl, rfl⟩, h⟩)
set_option maxRecDepth 20000 in
theorem round_go (acc : List Itm) (b : List (BitVec 8)) (hb : ¬ b.length = 0) (hl : b.length ≤ 65536) (ha : acc.length ≤ 200) {Kn : HI Idr → Prop} {Kr : HI ldr → Prop} {Kx : HP odr}
    (h : ifB (decide (acc.length = 200)) (Kr ([], 2, ())) (ifB (!decide (fstE b = 0)) (Kr ([], fstE b, ())) (Kn (b.drop (fstN b), optL (acc ++ [fstX b]), ())))) :
    roundT (W D2 Try.f34.ntmps (LTab.look Ldr) (bodyAt bdr 4)) Idr ldr odr (b, optL acc, ()) Kn Kr Kx := by
  have ht : List.take b.length b = b := List.take_length
  cases acc with
  | nil =>
    show roundT _ Idr ldr odr (b, none, ()) Kn Kr Kx
    have h : ifB (!decide (fstE b = 0)) (Kr ([], fstE b, ())) (Kn (b.drop (fstN b), some [fstX b], ())) := h
    rw [rounddrn, Int.toNat_natCast, ht]
    refine ifB_dec (fun _ => dmd_of (bleT (by omega)) ?_) (fun c => absurd (show (0 : Int) < ((b.length : Nat) : Int) by omega) c)
    by_cases d : fstE b = 0
    · rw [decTr d] at h ⊢
      obtain ⟨h1, h2, _⟩ := fst_ok d
      exact dmd_of (andT (bleT h2) (bleT (Nat.le_refl _))) ⟨⟨rfl, rfl⟩, h⟩
    · rw [decFa d] at h ⊢; exact h
  | cons o acc =>
    show roundT _ Idr ldr odr (b, some (o :: acc), ()) Kn Kr Kx
    rw [rounddrs, Int.toNat_natCast, ht]
    refine ifB_dec (fun _ => ?_) (fun c => absurd (show (0 : Int) < ((b.length : Nat) : Int) by omega) c)
    by_cases e : (o :: acc).length = 200
    · rw [decTr e] at h
      exact ifB_dec (fun _ => h) (fun c => absurd (show (((o :: acc).length : Nat) : Int) = 200 by omega) c)
    · rw [decFa e] at h
      have h : ifB (!decide (fstE b = 0)) (Kr ([], fstE b, ())) (Kn (b.drop (fstN b), optL ((o :: acc) ++ [fstX b]), ())) := h
      refine ifB_dec (fun c => absurd c (by omega)) (fun _ => dmd_of (bleT (by omega)) ?_)
      by_cases d : fstE b = 0
      · rw [decTr d] at h ⊢
        obtain ⟨h1, h2, _⟩ := fst_ok d
        refine dmd_of (andT (Nat.beq_refl _) (bleT (by omega))) (dmd_of (decTr (by omega)) (dmd_of (andT (bleT h2) (bleT (Nat.le_refl _))) ⟨⟨rfl, ?_⟩, h⟩))
        show (o :: acc).length + 1 = ((o :: acc) ++ [fstX b]).length
        rw [List.length_append]; rfl
      · rw [decFa d] at h ⊢; exact h
theorem loopdr : ∀ x Kr Kx, Qdr x Kr Kx → ∃ n, untl (W D2 Try.f34.ntmps (LTab.look Ldr) (bodyAt bdr 4)) Idr ldr odr n x Kr Kx := by
  rintro x Kr Kx ⟨b, ex, hb, hK⟩
  have key : ∀ (k : Nat) (b : List (BitVec 8)) (acc : List Itm), b.length < k → b.length ≤ 65536 → acc.length ≤ 200 → ifB (decide ((rdF k b acc).2 = 0)) (Kx.1 (optL (rdF k b acc).1, ())) (Kr ([], (rdF k b acc).2, ())) →
      untl (W D2 Try.f34.ntmps (LTab.look Ldr) (bodyAt bdr 4)) Idr ldr odr k (b, optL acc, ()) Kr Kx := by
    intro k
    induction k with
    | zero => intro b acc h; exact absurd h (Nat.not_lt_zero _)
    | succ k ih =>
      intro b acc h1 h2 h3 h
      rw [untl_succ]
      unfold rdF at h
      by_cases c : b.length = 0
      · rw [decTr c] at h
        exact round_end acc c h
      · rw [decFa c] at h
        refine round_go acc b c h2 h3 ?_
        by_cases d : acc.length = 200
        · rw [decTr d] at h ⊢; exact h
        · rw [decFa d] at h ⊢
          by_cases e : fstE b = 0
          · rw [decTr e] at h ⊢
            obtain ⟨h4, h5, _⟩ := fst_ok e
            exact ih _ _ (by rw [List.length_drop]; omega) (by rw [List.length_drop]; omega) (by rw [List.length_append]; show acc.length + 1 ≤ 200; omega) h
          · rw [decFa e] at h ⊢
            have h : ifB (decide (fstE b = 0)) (Kx.1 (optL [], ())) (Kr ([], fstE b, ())) := h
            rw [decFa e] at h; exact h
  rw [ex]
  exact ⟨_, key (b.length + 1) b [] (by omega) hb (by decide) hK⟩
noncomputable def rdRF : HA [.v (.sl u8S)] → RT := fun xs => .ret (.tup [.val (.sl itS) (rdD xs.1).1, .val i64S (rdD xs.1).2])
theorem nrm_r1 (n : Int) : nrmS [.sl itS, i64S] (.tup [.cell .nilS, .val i64S n]) = .tup [.val (.sl itS) [], .val i64S n] := rfl
theorem nrm_r2 (b : List Itm) (n : Int) : nrmS [.sl itS, i64S] (.tup [.val (.sl itS) b, .val i64S n]) = .tup [.val (.sl itS) b, .val i64S n] := rfl
set_option maxRecDepth 20000 in
theorem read_fw (b : List (BitVec 8)) : FW D2 Try.f34.ntmps (LTab.look Ldr) Try.f34 (argsOf [.sl u8S] (b, ())) (fun r => nrmS [.sl itS, i64S] r = .tup [.val (.sl itS) (rdD b).1, .val i64S (rdD b).2]) := by
  rw [fwRead]
  unfold rdD
  refine ifB_dec (fun c => ?_) (fun c => ?_)
  · rw [cond_dec (show 65536 < b.length by omega)]
    exact nrm_r1 2
  · rw [cond_ndec (show ¬ 65536 < b.length by omega)]
    have herr := rdF_err (b.length + 1) b []
    refine ⟨b, rfl, by omega, ?_⟩
    generalize rdF (b.length + 1) b [] = r at *
    obtain ⟨l, e⟩ := r
    by_cases h : e = 0
    · rw [decTr h]
      have h : e = 0 := h
      subst h
      show optB (optL l) _ _
      cases l with
      | nil => exact nrm_r1 0
      | cons o l =>
        show nrmS [.sl itS, i64S] (.tup [.val (.sl itS) (List.take (o :: l).length (List.drop 0 (o :: l))), .val i64S 0]) = .tup [.val (.sl itS) (o :: l), .val i64S 0]
        rw [drop0_take _ _ rfl, nrm_r2]
    · rw [decFa h]
      have hl : l = [] := herr h
      subst hl
      exact nrm_r2 [] e
theorem read_ok : COK Try.prog GL 34 (conA [.v (.sl u8S)] rdRF) :=
  conA_ok (fun xs _ _ => PC_of_fwn [.sl itS, i64S] (t := Ldr) shA_ok D2_ok mixed Try.func34 (c := bdr) rfl (by kernel_rfl) (by kernel_rfl)
    (loopsOK (by kernel_rfl) (LTCons (loop_of shA_ok D2_ok mixed (loopsOK (by kernel_rfl) (LTCons (noLoop (by kernel_rfl)) LTNil)) (by kernel_rfl) loopdr) LTNil)) rfl (read_fw xs.1)) (fun _ => rfl)

/-! ## The same items -/
noncomputable def D3c : CTab := (19, conT [.sl u8S, .sl u8S] equalF) :: []
noncomputable abbrev D3 : Go.Ty.Cx := mkX Try.prog GL shA D3c
theorem D3_ok : ∀ p ∈ D3c, COK Try.prog GL p.1 p.2 := CCons equal_ok CNil
abbrev Isi : List It := [.v 0 (.sl itS), .v 1 (.sl itS), .v 12 i64S, .v 13 i64S]
abbrev osi : List (Nat × List It) := [(0, [])]
abbrev lsi : List It := [.v 4 .bool]
noncomputable def Qsi : LQ Isi lsi osi := fun x Kr Kx => ∃ l m : List Itm, x = (l, m, ((l.length : Nat) : Int), (0 : Int), ()) ∧ (l.length = m.length ∧ l.length ≤ 140737488355328) ∧ ifB (teq (.sl itS) l m) (Kx.1 ()) (Kr (false, ()))
noncomputable def bsi : Code := Try.f21.body.getD .skip
noncomputable abbrev Lsi : LTab := [(4, ptL Isi lsi osi Qsi)]
theorem roundsi (l m : List (Sh.T itS)) (k i : Int) (Kn : HI Isi → Prop) (Kr : HI lsi → Prop) (Kx : HP osi) : roundT (W D3 Try.f21.ntmps (LTab.look Lsi) (bodyAt bsi 4)) Isi lsi osi (l, m, k, i, ()) Kn Kr Kx =
 (  ifB (decide (i < k))
    (dmd (decide (0 ≤ i) && decide (i < ((l.length : Nat) : Int)))
      (dmd (decide (0 ≤ i) && decide (i < ((m.length : Nat) : Int)))
        (ifB
          (!decide
              ((rd ((Sh.int IntKind.u8).pair ((Sh.int IntKind.u8).sl.pair Sh.unit)) l i.toNat).1 =
                (rd ((Sh.int IntKind.u8).pair ((Sh.int IntKind.u8).sl.pair Sh.unit)) m i.toNat).1))
          (Kr (false, PUnit.unit))
          (dmd (decide (0 ≤ i) && decide (i < ((l.length : Nat) : Int)))
            (dmd (decide (0 ≤ i) && decide (i < ((m.length : Nat) : Int)))
              (ifB
                (!teq (Sh.int IntKind.u8).sl
                    (rd ((Sh.int IntKind.u8).pair ((Sh.int IntKind.u8).sl.pair Sh.unit)) l i.toNat).2.1
                    (rd ((Sh.int IntKind.u8).pair ((Sh.int IntKind.u8).sl.pair Sh.unit)) m i.toNat).2.1)
                (Kr (false, PUnit.unit)) (Kn (l, m, k, IntKind.i64.wrap (i + 1), PUnit.unit))))))))
    (Kx.1 PUnit.unit)) := by kernel_rfl
theorem fwSameI (l : Sh.T (.sl itS)) (m : Sh.T (.sl itS)) (P : SV → Prop) : FW D3 Try.f21.ntmps (LTab.look Lsi) Try.f21 (argsOf [.sl itS, .sl itS] (l, m, ())) P =
 (  ifB (!decide ((((List.length l) : Nat) : Int) = (((List.length m) : Nat) : Int))) (P (SV.av (AV.val Sh.bool false)))
    (Qsi (l, m, (((List.length l) : Nat) : Int), 0, PUnit.unit) (fun x => P (SV.av (AV.val Sh.bool x.1)))
      (fun _ => P (SV.av (AV.val Sh.bool true)), PUnit.unit))) := by kernel_rfl
theorem fwPrefix (a : Sh.T (.sl u8S)) (b : Sh.T (.sl u8S)) (P : SV → Prop) : FW D3 Try.f20.ntmps (LTab.look []) Try.f20 (argsOf [.sl u8S, .sl u8S] (a, b, ())) P =
 (  ifB (decide ((((List.length b) : Nat) : Int) ≤ (((List.length a) : Nat) : Int)))
    (dmd (decide (0 ≤ (((List.length b) : Nat) : Int)))
      (dmd (Nat.ble 0 ((((List.length b) : Nat) : Int)).toNat && ((((List.length b) : Nat) : Int)).toNat.ble (List.length a))
        (P (SV.av (AV.val Sh.bool (teq (Sh.int IntKind.u8).sl (List.drop 0 (List.take ((((List.length b) : Nat) : Int)).toNat a)) b))))))
    (P (SV.av (AV.val Sh.bool false)))) := by kernel_rfl
theorem itm_ext {x y : Itm} (h1 : x.1 = y.1) (h2 : teq (.sl u8S) x.2.1 y.2.1 = true) : x = y := by
  obtain ⟨a, b, ⟨⟩⟩ := x
  obtain ⟨c, d, ⟨⟩⟩ := y
  have h1 : a = c := h1
  have h2 : b = d := teq_iff.1 h2
  rw [h1, h2]
theorem first_diff : ∀ {l m : List Itm}, l.length = m.length → l ≠ m → ∃ j, j < l.length ∧ (∀ i, i < j → rd itS l i = rd itS m i) ∧ rd itS l j ≠ rd itS m j
  | [], [], _, h => absurd rfl h
  | [], _ :: _, h, _ => by simp at h
  | _ :: _, [], h, _ => by simp at h
  | x :: l, y :: m, hl, h => by
    by_cases c : x = y
    · subst c
      obtain ⟨j, h1, h2, h3⟩ := first_diff (l := l) (m := m) (by simpa using hl) (fun e => h (by rw [e]))
      refine ⟨j + 1, by rw [List.length_cons]; omega, fun i hi => ?_, h3⟩
      cases i with
      | zero => rfl
      | succ i => exact h2 i (by omega)
    · exact ⟨0, by rw [List.length_cons]; omega, fun i hi => absurd hi (Nat.not_lt_zero i), c⟩
theorem round_same (l m : List Itm) (i : Nat) (hi : i < l.length) (hl : l.length = m.length) (hn : l.length ≤ 140737488355328) (he : rd itS l i = rd itS m i) {Kn : HI Isi → Prop} {Kr : HI lsi → Prop} {Kx : HP osi} (h : Kn (l, m, ((l.length : Nat) : Int), ((i + 1 : Nat) : Int), ())) :
    roundT (W D3 Try.f21.ntmps (LTab.look Lsi) (bodyAt bsi 4)) Isi lsi osi (l, m, ((l.length : Nat) : Int), (i : Int), ()) Kn Kr Kx := by
  rw [roundsi, i64w (a := (i : Int) + 1) (n := i + 1) (by omega) (by omega), Int.toNat_natCast]
  have e1 : (rd itS l i).1 = (rd itS m i).1 := by rw [he]
  have e2 : teq (.sl u8S) (rd itS l i).2.1 (rd itS m i).2.1 = true := teq_of (by rw [he])
  refine ifB_dec (fun _ => dmd_of (inB hi) (dmd_of (inB (by omega)) (ifB_neg (fun c => absurd e1 c) (fun _ => dmd_of (inB hi) (dmd_of (inB (by omega)) ?_))))) (fun c => absurd (show (i : Int) < ((l.length : Nat) : Int) by omega) c)
  show ifB (!teq (.sl u8S) (rd itS l i).2.1 (rd itS m i).2.1) _ _
  rw [e2]; exact h
theorem round_diff (l m : List Itm) (i : Nat) (hi : i < l.length) (hl : l.length = m.length) (he : rd itS l i ≠ rd itS m i) {Kn : HI Isi → Prop} {Kr : HI lsi → Prop} {Kx : HP osi} (h : Kr (false, ())) :
    roundT (W D3 Try.f21.ntmps (LTab.look Lsi) (bodyAt bsi 4)) Isi lsi osi (l, m, ((l.length : Nat) : Int), (i : Int), ()) Kn Kr Kx := by
  rw [roundsi, Int.toNat_natCast]
  refine ifB_dec (fun _ => dmd_of (inB hi) (dmd_of (inB (by omega)) (ifB_neg (fun _ => h) (fun c => dmd_of (inB hi) (dmd_of (inB (by omega)) ?_))))) (fun c => absurd (show (i : Int) < ((l.length : Nat) : Int) by omega) c)
  show ifB (!teq (.sl u8S) (rd itS l i).2.1 (rd itS m i).2.1) _ _
  cases e : teq (.sl u8S) (rd itS l i).2.1 (rd itS m i).2.1 with
  | false => exact h
  | true => exact absurd (itm_ext c e) he
theorem loopsi : ∀ x Kr Kx, Qsi x Kr Kx → ∃ n, untl (W D3 Try.f21.ntmps (LTab.look Lsi) (bodyAt bsi 4)) Isi lsi osi n x Kr Kx := by
  rintro x Kr Kx ⟨l, m, ex, ⟨hl, hn⟩, hK⟩
  by_cases h : l = m
  · subst h
    rw [teq_self (s := .sl itS)] at hK
    have hK : Kx.1 () := hK
    have key := untl_up (F := W D3 Try.f21.ntmps (LTab.look Lsi) (bodyAt bsi 4)) (l := Isi) (lr := lsi) (lx := osi) (Kr := Kr) (Kx := Kx) (st := fun i => (l, l, ((l.length : Nat) : Int), (i : Int), ())) l.length (fun i hi Kn h => round_same l l i hi hl hn rfl h) (fun Kn => ?_)
    · rw [ex]; exact key
    · rw [roundsi]
      exact ifB_dec (fun c => absurd c (by omega)) (fun _ => hK)
  · rw [teq_ne (s := .sl itS) h] at hK
    have hK : Kr (false, ()) := hK
    obtain ⟨j, h1, h2, h3⟩ := first_diff hl h
    have key := untl_up (F := W D3 Try.f21.ntmps (LTab.look Lsi) (bodyAt bsi 4)) (l := Isi) (lr := lsi) (lx := osi) (Kr := Kr) (Kx := Kx) (st := fun i => (l, m, ((l.length : Nat) : Int), (i : Int), ())) j (fun i hi Kn h => round_same l m i (by omega) hl hn (h2 i hi) h) (fun Kn => round_diff l m j h1 hl h3 hK)
    rw [ex]; exact key
noncomputable def sameIF : HA [.v (.sl itS), .v (.sl itS)] → RT := fun xs => .dem (Nat.ble (List.length xs.1) 140737488355328) (.ret (.av (.val .bool (teq (.sl itS) xs.1 xs.2.1))))
theorem sameI_fw (l m : List Itm) (hn : l.length ≤ 140737488355328) : FW D3 Try.f21.ntmps (LTab.look Lsi) Try.f21 (argsOf [.sl itS, .sl itS] (l, m, ())) (fun r => r = .av (.val .bool (teq (.sl itS) l m))) := by
  rw [fwSameI]
  refine ifB_neg (fun c => ?_) (fun c => ⟨l, m, rfl, ⟨by omega, hn⟩, ?_⟩)
  · rw [teq_ne (s := .sl itS) (fun e => c (by rw [e]))]
  · cases teq (.sl itS) l m with
    | true => rfl
    | false => rfl
theorem sameI_ok : COK Try.prog GL 21 (conA [.v (.sl itS), .v (.sl itS)] sameIF) :=
  conA_ok (fun xs _ hc => PC_of_fw (t := Lsi) shA_ok D3_ok mixed Try.func21 (c := bsi) rfl (by kernel_rfl) (by kernel_rfl)
    (loopsOK (by kernel_rfl) (LTCons (loop_of shA_ok D3_ok mixed (loopsOK (by kernel_rfl) (LTCons (noLoop (by kernel_rfl)) LTNil)) (by kernel_rfl) loopsi) LTNil)) rfl (sameI_fw xs.1 xs.2.1 (Nat.le_of_ble_eq_true hc.1))) (fun _ => rfl)
def prefB (a b : List (BitVec 8)) : Bool := decide (b.length ≤ a.length) && teq (.sl u8S) (List.take b.length a) b
noncomputable def prefF : HA [.v (.sl u8S), .v (.sl u8S)] → RT := fun xs => .ret (.av (.val .bool (prefB xs.1 xs.2.1)))
theorem prefix_fw (a b : List (BitVec 8)) : FW D3 Try.f20.ntmps (LTab.look []) Try.f20 (argsOf [.sl u8S, .sl u8S] (a, b, ())) (fun r => r = .av (.val .bool (prefB a b))) := by
  rw [fwPrefix]
  unfold prefB
  simp only [Int.toNat_natCast, List.drop_zero]
  refine ifB_dec (fun c => dmd_of (decTr (by omega)) (dmd_of (andT rfl (bleT (by omega))) ?_)) (fun c => ?_)
  · rw [decTr (show b.length ≤ a.length by omega), Bool.true_and]
  · rw [decFa (show ¬ b.length ≤ a.length by omega), Bool.false_and]
theorem prefix_ok : COK Try.prog GL 20 (conA [.v (.sl u8S), .v (.sl u8S)] prefF) :=
  conA_ok (fun xs _ _ => PC_of_fw (t := []) shA_ok D3_ok mixed Try.func20 (c := Try.f20.body.getD .skip) rfl (by kernel_rfl) (by kernel_rfl) loopsNil rfl (prefix_fw xs.1 xs.2.1)) (fun _ => rfl)
end Go.Proofs.Ytkookenoedbadaa
