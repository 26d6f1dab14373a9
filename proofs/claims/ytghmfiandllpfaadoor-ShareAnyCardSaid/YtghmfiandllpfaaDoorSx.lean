import Derived.Test.YtghmfiandllpfaaDoorSf
namespace Go.Proofs.YtghmfiandllpfaaDoor
open Go.Ty

noncomputable def isX (l : List Shr) (s : Shr) (i : Nat) : Bool := teq shS s (rd shS l i)
noncomputable def idxX (l : List Shr) (s : Shr) : Int := match firstN (isX l s) l.length with
  | some j => (j : Int)
  | none => -1
noncomputable def conB (l : List Shr) (s : Shr) : Bool := decide (0 ≤ idxX l s)
theorem conB_no {l : List Shr} {s : Shr} (h : conB l s = false) {j : Nat} (hj : j < l.length) : rd shS l j ≠ s := by
  intro e
  have h := of_decide_eq_false h
  unfold idxX at h
  cases hf : firstN (isX l s) l.length with
  | some i => rw [hf] at h; exact h (Int.natCast_nonneg _)
  | none =>
    have h3 := first_none hf j hj
    unfold isX at h3
    rw [teq_of e.symm] at h3; cases h3
noncomputable abbrev Z0 : Go.Ty.Cx := mkX Tryd.prog GL shA []
abbrev Iix : List It := [.v 0 (.sl shS), .p 3 2000 shS, .v 7 i64S, .v 8 i64S]
noncomputable def Qix : LQ Iix [.v 4 i64S] [(0, [])] := fun z Kr Kx => ∃ (l : List Shr) (s : Shr), z = (l, s, ((l.length : Nat) : Int), (0 : Int), ()) ∧ l.length ≤ 1000000 ∧ (∀ j : Nat, firstN (isX l s) l.length = some j → Kr ((j : Int), ())) ∧ (firstN (isX l s) l.length = none → Kx.1 ())
noncomputable def bix : Code := Tryd.f71.body.getD .skip
noncomputable abbrev Lix : LTab := [(2, ptL Iix [.v 4 i64S] [(0, [])] Qix)]
theorem roundix (l : List Shr) (s : Shr) (m i : Int) (Kn : HI Iix → Prop) (Kr : HI [.v 4 i64S] → Prop) (Kx : HP [(0, [])]) : roundT (W Z0 Tryd.f71.ntmps (LTab.look Lix) (bodyAt bix 2)) Iix [.v 4 i64S] [(0, [])] (l, s, m, i, ()) Kn Kr Kx =
 (  ifB (decide (i < m))
 (dmd (decide (0 ≤ i) && decide (i < ((l.length : Nat) : Int)))
 (ifB
 (teq shS s
 (rd shS l i.toNat))
 (Kr (i, PUnit.unit)) (Kn (l, s, m, IntKind.i64.wrap (i + 1), PUnit.unit))))
 (Kx.1 PUnit.unit)) := by kernel_rfl
theorem fwIdx (l : Sh.T (.sl shS)) (s : Sh.T (shS)) (P : SV → Prop) : FW Z0 Tryd.f71.ntmps (LTab.look Lix) Tryd.f71 (argsOf [.sl shS, shS] (l, s, ())) P =
 (  Qix (l, s, (((List.length l) : Nat) : Int), 0, PUnit.unit) (fun x => P (SV.av (AV.val (Sh.int IntKind.i64) x.1)))
 (fun _ => P (SV.av (AV.val (Sh.int IntKind.i64) (-1))), PUnit.unit)) := by kernel_rfl
theorem loopix : ∀ z Kr Kx, Qix z Kr Kx → ∃ n, untl (W Z0 Tryd.f71.ntmps (LTab.look Lix) (bodyAt bix 2)) Iix [.v 4 i64S] [(0, [])] n z Kr Kx := by
  rintro z Kr Kx ⟨l, s, ez, hl, hr, hn⟩
  rw [ez]
  have go : ∀ (i : Nat), i < l.length → ∀ Kn : HI Iix → Prop, (isX l s i = true → Kr ((i : Int), ())) → (isX l s i = false → Kn (l, s, ((l.length : Nat) : Int), ((i + 1 : Nat) : Int), ())) →
      roundT (W Z0 Tryd.f71.ntmps (LTab.look Lix) (bodyAt bix 2)) Iix [.v 4 i64S] [(0, [])] (l, s, ((l.length : Nat) : Int), (i : Int), ()) Kn Kr Kx := fun i hi Kn h1 h2 => by
    refine (roundix l s _ _ Kn Kr Kx).mpr ?_
    rw [i64w (a := (i : Int) + 1) (n := i + 1) (by omega) (by omega), Int.toNat_natCast]
    exact ifB_dec (fun _ => dmd_of (inB hi) (ifB_of h1 h2)) (fun c => absurd (show (i : Int) < ((l.length : Nat) : Int) by omega) c)
  cases hf : firstN (isX l s) l.length with
  | some j =>
    obtain ⟨h1, h2, h3⟩ := first_some hf
    refine untl_up (F := W Z0 Tryd.f71.ntmps (LTab.look Lix) (bodyAt bix 2)) (l := Iix) (lr := [.v 4 i64S]) (lx := [(0, [])]) (Kr := Kr) (Kx := Kx) (st := fun i => (l, s, ((l.length : Nat) : Int), (i : Int), ())) j (fun i hi Kn hK => ?_) (fun Kn => ?_)
    · exact go i (by omega) Kn (fun c => by rw [h3 i hi] at c; cases c) (fun _ => hK)
    · exact go j h1 Kn (fun _ => hr j hf) (fun c => by rw [h2] at c; cases c)
  | none =>
    have h3 := first_none hf
    refine untl_up (F := W Z0 Tryd.f71.ntmps (LTab.look Lix) (bodyAt bix 2)) (l := Iix) (lr := [.v 4 i64S]) (lx := [(0, [])]) (Kr := Kr) (Kx := Kx) (st := fun i => (l, s, ((l.length : Nat) : Int), (i : Int), ())) l.length (fun i hi Kn hK => ?_) (fun Kn => ?_)
    · exact go i hi Kn (fun c => by rw [h3 i hi] at c; cases c) (fun _ => hK)
    · refine (roundix l s _ _ Kn Kr Kx).mpr ?_
      exact ifB_dec (fun c => absurd c (by omega)) (fun _ => hn hf)
theorem idx_fw (l : List Shr) (s : Shr) (hl : l.length ≤ 1000000) : FW Z0 Tryd.f71.ntmps (LTab.look Lix) Tryd.f71 (argsOf [.sl shS, shS] (l, s, ())) (fun r => r = .av (.val i64S (idxX l s))) := by
  rw [fwIdx]
  refine ⟨l, s, rfl, hl, fun j hj => ?_, fun hn => ?_⟩
  · unfold idxX; rw [hj]
  · unfold idxX; rw [hn]
theorem idx_ok : COK Tryd.prog GL 71 (conS [.v (.sl shS), .v shS] fun xs => .dem (Nat.ble (List.length xs.1) 1000000) (.ret (.av (.val i64S (idxX xs.1 xs.2.1))))) :=
  conS_ok (fun xs _ hc => PC_of_fw (t := Lix) shA_ok CNil mixed Tryd.func71 (c := bix) rfl (by kernel_rfl) (by kernel_rfl)
    (loopsOK (by kernel_rfl) (LTCons (loop_of shA_ok CNil mixed (loopsOK (by kernel_rfl) (LTCons (noLoop (by kernel_rfl)) LTNil)) (by kernel_rfl) loopix) LTNil)) rfl (idx_fw xs.1 xs.2.1 (Nat.le_of_ble_eq_true hc.1))) (fun _ => rfl)
noncomputable def Z1c : CTab := (71, conS [.v (.sl shS), .v shS] fun xs => .dem (Nat.ble (List.length xs.1) 1000000) (.ret (.av (.val i64S (idxX xs.1 xs.2.1))))) :: []
noncomputable abbrev Z1 : Go.Ty.Cx := mkX Tryd.prog GL shA Z1c
theorem Z1_ok : ∀ p ∈ Z1c, COK Tryd.prog GL p.1 p.2 := CCons idx_ok CNil
theorem fwCon (l : Sh.T (.sl shS)) (s : Sh.T (shS)) (P : SV → Prop) : FW Z1 Tryd.f47.ntmps (LTab.look []) Tryd.f47 (argsOf [.sl shS, shS] (l, s, ())) P =
 (  dmd ((List.length l).ble 1000000) (P (SV.av (AV.val Sh.bool (decide (0 ≤ idxX l s)))))) := by kernel_rfl
theorem con_ok : COK Tryd.prog GL 47 (conS [.v (.sl shS), .v shS] fun xs => .dem (Nat.ble (List.length xs.1) 1000000) (.ret (.av (.val .bool (conB xs.1 xs.2.1))))) :=
  conS_ok (fun xs _ hc => PC_of_fw (t := []) shA_ok Z1_ok mixed Tryd.func47 (c := Tryd.f47.body.getD .skip) rfl (by kernel_rfl) (by kernel_rfl) loopsNil rfl ((fwCon xs.1 xs.2.1 _).mpr (dmd_of hc.1 rfl))) (fun _ => rfl)
noncomputable def Z2c : CTab := (47, conS [.v (.sl shS), .v shS] fun xs => .dem (Nat.ble (List.length xs.1) 1000000) (.ret (.av (.val .bool (conB xs.1 xs.2.1))))) :: []
noncomputable abbrev Z2 : Go.Ty.Cx := mkX Tryd.prog GL shA Z2c
theorem Z2_ok : ∀ p ∈ Z2c, COK Tryd.prog GL p.1 p.2 := CCons con_ok CNil
def dI (d : List Int) (i : Nat) : Int := rd i64S d i
noncomputable def okC (l : List Shr) (k : Int) (d : List Int) (o : List Shr) (i : Nat) : Bool := decide (0 ≤ dI d i) && (decide (dI d i < ((l.length : Nat) : Int)) && (decide (((o.length : Nat) : Int) < k) && !conB o (rd shS l (dI d i).toNat)))
noncomputable def upC (l : List Shr) (k : Int) (d : List Int) (o : List Shr) (i : Nat) : List Shr := bif okC l k d o i then o ++ [rd shS l (dI d i).toNat] else o
noncomputable def chL (l : List Shr) (k : Int) (d : List Int) : Nat → List Shr
  | 0 => []
  | i + 1 => upC l k d (chL l k d i) i
theorem upC_len {l : List Shr} {k : Int} {d : List Int} {o : List Shr} {i : Nat} (h : o.length ≤ k.toNat) : (upC l k d o i).length ≤ k.toNat := by
  unfold upC
  cases hb : okC l k d o i with
  | false => exact h
  | true =>
    have h3 := of_decide_eq_true (andB (andB (andB hb).2).2).1
    show (o ++ [_]).length ≤ _
    rw [List.length_append]
    show o.length + 1 ≤ _
    omega
theorem ch_len (l : List Shr) (k : Int) (d : List Int) : ∀ i, (chL l k d i).length ≤ k.toNat
  | 0 => Nat.zero_le _
  | i + 1 => upC_len (ch_len l k d i)
abbrev Ich : List It := [.v 0 (.sl shS), .v 2 i64S, .g 7 2000 shS, .v 10 (.sl i64S), .v 11 i64S, .v 12 i64S]
abbrev och : List (Nat × List It) := [(0, [.g 7 2000 shS])]
noncomputable def stC (l : List Shr) (k : Int) (o : Option (List Shr)) (d : List Int) (i : Int) : HI Ich := (l, k, o, d, ((d.length : Nat) : Int), i, ())
noncomputable def Qch : LQ Ich [] och := fun z _ Kx => ∃ (l : List Shr) (k : Int) (d : List Int), z = stC l k none d 0 ∧ (d.length ≤ 140737488355328 ∧ k ≤ 1000) ∧ ∀ o, o = chL l k d d.length → Kx.1 (optL o, ())
noncomputable def bch : Code := Tryd.f15.body.getD .skip
noncomputable abbrev Lch : LTab := [(3, ptL Ich [] och Qch)]
theorem roundchn (l : List Shr) (k : Int) (d : List Int) (m i : Int) (Kn : HI Ich → Prop) (Kr : HI [] → Prop) (Kx : HP och) : roundT (W Z2 Tryd.f15.ntmps (LTab.look Lch) (bodyAt bch 3)) Ich [] och (l, k, none, d, m, i, ()) Kn Kr Kx =
 (  ifB (decide (i < m))
 (dmd (decide (0 ≤ i) && decide (i < ((d.length : Nat) : Int)))
 (ifB (decide (0 ≤ rd (Sh.int IntKind.i64) d i.toNat))
 (ifB (decide (rd (Sh.int IntKind.i64) d i.toNat < ((l.length : Nat) : Int)))
 (ifB (decide (0 < k))
 (dmd
 (decide (0 ≤ rd (Sh.int IntKind.i64) d i.toNat) && decide (rd (Sh.int IntKind.i64) d i.toNat < ((l.length : Nat) : Int)))
 (ifB
 (!conB []
 (rd shS l
 (Int.toNat (rd (Sh.int IntKind.i64) d i.toNat))))
 (dmd
 (decide (0 ≤ rd (Sh.int IntKind.i64) d i.toNat) &&
 decide (rd (Sh.int IntKind.i64) d i.toNat < ((l.length : Nat) : Int)))
 (ifB
 ((List.take 1
 (List.drop 0
 ((List.replicate 1 (Sh.dft shS)).set 0
 (rd shS l
 (Int.toNat (rd (Sh.int IntKind.i64) d i.toNat)))))).length.beq
 0)
 (Kn (l, k, none, d, m, IntKind.i64.wrap (i + 1), PUnit.unit))
 (dmd
 (((List.take 1
 (List.drop 0
 ((List.replicate 1 (Sh.dft shS)).set 0
 (rd shS l
 (Int.toNat (rd (Sh.int IntKind.i64) d i.toNat)))))).length *
 40).ble
 140737488355328)
 ((0 = 0 ∧
 (List.take 1
 (List.drop 0
 ((List.replicate 1 (Sh.dft shS)).set 0
 (rd shS l
 (Int.toNat (rd (Sh.int IntKind.i64) d i.toNat)))))).length =
 (List.take 1
 (List.drop 0
 ((List.replicate 1 (Sh.dft shS)).set 0
 (rd shS l
 (Int.toNat (rd (Sh.int IntKind.i64) d i.toNat)))))).length) ∧
 Kn
 (l, k,
 some
 (List.take 1
 (List.drop 0
 ((List.replicate 1 (Sh.dft shS)).set 0
 (rd shS l
 (Int.toNat (rd (Sh.int IntKind.i64) d i.toNat)))))),
 d, m, IntKind.i64.wrap (i + 1), PUnit.unit)))))
 (Kn (l, k, none, d, m, IntKind.i64.wrap (i + 1), PUnit.unit))))
 (Kn (l, k, none, d, m, IntKind.i64.wrap (i + 1), PUnit.unit)))
 (Kn (l, k, none, d, m, IntKind.i64.wrap (i + 1), PUnit.unit)))
 (Kn (l, k, none, d, m, IntKind.i64.wrap (i + 1), PUnit.unit))))
 (Kx.1 (none, PUnit.unit))) := by kernel_rfl
theorem roundchs (l : List Shr) (k : Int) (o : List Shr) (d : List Int) (m i : Int) (Kn : HI Ich → Prop) (Kr : HI [] → Prop) (Kx : HP och) : roundT (W Z2 Tryd.f15.ntmps (LTab.look Lch) (bodyAt bch 3)) Ich [] och (l, k, some o, d, m, i, ()) Kn Kr Kx =
 (  ifB (decide (i < m))
 (dmd (decide (0 ≤ i) && decide (i < ((d.length : Nat) : Int)))
 (ifB (decide (0 ≤ rd (Sh.int IntKind.i64) d i.toNat))
 (ifB (decide (rd (Sh.int IntKind.i64) d i.toNat < ((l.length : Nat) : Int)))
 (ifB (decide (((o.length : Nat) : Int) < k))
 (dmd
 (decide (0 ≤ rd (Sh.int IntKind.i64) d i.toNat) && decide (rd (Sh.int IntKind.i64) d i.toNat < ((l.length : Nat) : Int)))
 (dmd ((List.take o.length (List.drop 0 o)).length.ble 1000000)
 (ifB
 (!conB (List.take o.length (List.drop 0 o))
 (rd shS l
 (Int.toNat (rd (Sh.int IntKind.i64) d i.toNat))))
 (dmd
 (decide (0 ≤ rd (Sh.int IntKind.i64) d i.toNat) &&
 decide (rd (Sh.int IntKind.i64) d i.toNat < ((l.length : Nat) : Int)))
 (dmd
 (o.length.beq o.length &&
 ((o.length +
 (List.take 1
 (List.drop 0
 ((List.replicate 1 (Sh.dft shS)).set 0
 (rd shS l
 (Int.toNat (rd (Sh.int IntKind.i64) d i.toNat)))))).length) *
 40).ble
 140737488355328)
 ((0 = 0 ∧
 o.length +
 (List.take 1
 (List.drop 0
 ((List.replicate 1 (Sh.dft shS)).set 0
 (rd shS l
 (Int.toNat (rd (Sh.int IntKind.i64) d i.toNat)))))).length =
 (o.append
 (List.take 1
 (List.drop 0
 ((List.replicate 1 (Sh.dft shS)).set 0
 (rd shS l
 (Int.toNat (rd (Sh.int IntKind.i64) d i.toNat))))))).length) ∧
 Kn
 (l, k,
 some
 (o.append
 (List.take 1
 (List.drop 0
 ((List.replicate 1 (Sh.dft shS)).set 0
 (rd shS l
 (Int.toNat (rd (Sh.int IntKind.i64) d i.toNat))))))),
 d, m, IntKind.i64.wrap (i + 1), PUnit.unit))))
 ((0 = 0 ∧ o.length = o.length) ∧ Kn (l, k, some o, d, m, IntKind.i64.wrap (i + 1), PUnit.unit)))))
 ((0 = 0 ∧ o.length = o.length) ∧ Kn (l, k, some o, d, m, IntKind.i64.wrap (i + 1), PUnit.unit)))
 ((0 = 0 ∧ o.length = o.length) ∧ Kn (l, k, some o, d, m, IntKind.i64.wrap (i + 1), PUnit.unit)))
 ((0 = 0 ∧ o.length = o.length) ∧ Kn (l, k, some o, d, m, IntKind.i64.wrap (i + 1), PUnit.unit))))
 ((0 = 0 ∧ o.length = o.length) ∧ Kx.1 (some o, PUnit.unit))) := by kernel_rfl
theorem fwChos (l : Sh.T (.sl shS)) (d : Sh.T (.sl i64S)) (k : Sh.T (i64S)) (P : SV → Prop) : FW Z2 Tryd.f15.ntmps (LTab.look Lch) Tryd.f15 (argsOf [.sl shS, .sl i64S, i64S] (l, d, k, ())) P =
 (  Qch (l, k, none, d, (((List.length d) : Nat) : Int), 0, PUnit.unit) (fun _ => False)
 (fun x =>
 optB x.1 (P (SV.av (AV.cell Cel.nilS))) fun xs =>
 P
 (SV.av
 (AV.val shS.sl
 (List.take xs.length (List.drop 0 xs)))),
 PUnit.unit)) := by kernel_rfl
theorem inI {a : Int} {n : Nat} (h0 : 0 ≤ a) (h1 : a < ((n : Nat) : Int)) : (decide ((0 : Int) ≤ a) && decide (a < ((n : Nat) : Int))) = true := andT (decTr h0) (decTr h1)
theorem roundCh (l : List Shr) (k : Int) (d : List Int) (o : List Shr) (i : Nat) (hi : i < d.length) (hd : d.length ≤ 140737488355328) (ho : o.length ≤ 1000) (Kn : HI Ich → Prop) (Kr : HI [] → Prop) (Kx : HP och)
    (h : Kn (stC l k (optL (upC l k d o i)) d ((i + 1 : Nat) : Int))) : roundT (W Z2 Tryd.f15.ntmps (LTab.look Lch) (bodyAt bch 3)) Ich [] och (stC l k (optL o) d (i : Int)) Kn Kr Kx := by
  have ew : IntKind.i64.wrap ((i : Int) + 1) = ((i + 1 : Nat) : Int) := i64w (by omega) (by omega)
  have er : rd (Sh.int IntKind.i64) d i = dI d i := rfl
  have hlt : ¬ ¬ (i : Int) < ((d.length : Nat) : Int) := fun c => c (by omega)
  unfold upC okC at h
  generalize hx : rd shS l (dI d i).toNat = x at h
  cases o with
  | nil =>
    refine (roundchn l k d _ _ Kn Kr Kx).mpr ?_
    rw [one_set, Int.toNat_natCast, ew, er, hx]
    generalize dI d i = a at *
    refine ifB_dec (fun _ => dmd_of (inB hi) (ifB_dec (fun c1 => ?_) (fun c1 => ?_))) (fun c => absurd c hlt)
    · refine ifB_dec (fun c2 => ?_) (fun c2 => ?_)
      · refine ifB_dec (fun c3 => dmd_of (inI c1 c2) ?_) (fun c3 => ?_)
        · have c3 : ((([] : List Shr).length : Nat) : Int) < k := c3
          refine ifB_of (fun cb => dmd_of (inI c1 c2) (ifB_of (fun c => absurd (show false = true from c) (by decide)) (fun _ => dmd_of rfl ⟨⟨rfl, rfl⟩, ?_⟩))) (fun cb => ?_)
          · rw [decTr c1, decTr c2, decTr c3, cb] at h; exact h
          · rw [decTr c1, decTr c2, decTr c3, cb] at h; exact h
        · have c3 : ¬ ((([] : List Shr).length : Nat) : Int) < k := c3
          rw [decTr c1, decTr c2, decFa c3] at h; exact h
      · rw [decTr c1, decFa c2] at h; exact h
    · rw [decFa c1] at h; exact h
  | cons y q =>
    have eo : optL (y :: q) = some (y :: q) := rfl
    have ha : ∀ z : Shr, optL ((y :: q) ++ [z]) = some ((y :: q) ++ [z]) := fun _ => rfl
    generalize y :: q = p at *
    rw [eo]
    refine (roundchs l k p d _ _ Kn Kr Kx).mpr ?_
    rw [one_set, Int.toNat_natCast, ew, er, hx, drop0_take p _ rfl]
    generalize dI d i = a at *
    refine ifB_dec (fun _ => dmd_of (inB hi) (ifB_dec (fun c1 => ?_) (fun c1 => ?_))) (fun c => absurd c hlt)
    · refine ifB_dec (fun c2 => ?_) (fun c2 => ?_)
      · refine ifB_dec (fun c3 => dmd_of (inI c1 c2) (dmd_of (bleT (by omega)) ?_)) (fun c3 => ?_)
        · have c3 : ((p.length : Nat) : Int) < k := c3
          refine ifB_of (fun cb => dmd_of (inI c1 c2) (dmd_of (andT (Nat.beq_refl _) (bleT (by show (p.length + 1) * 40 ≤ _; omega))) ⟨⟨rfl, List.length_append.symm⟩, ?_⟩)) (fun cb => ⟨⟨rfl, rfl⟩, ?_⟩)
          · rw [decTr c1, decTr c2, decTr c3, cb] at h
            have h : Kn (stC l k (optL (p ++ [x])) d ((i + 1 : Nat) : Int)) := h
            rw [ha] at h; exact h
          · rw [decTr c1, decTr c2, decTr c3, cb] at h
            have h : Kn (stC l k (optL p) d ((i + 1 : Nat) : Int)) := h
            rw [eo] at h; exact h
        · have c3 : ¬ ((p.length : Nat) : Int) < k := c3
          rw [decTr c1, decTr c2, decFa c3] at h
          have h : Kn (stC l k (optL p) d ((i + 1 : Nat) : Int)) := h
          rw [eo] at h; exact ⟨⟨rfl, rfl⟩, h⟩
      · rw [decTr c1, decFa c2] at h
        have h : Kn (stC l k (optL p) d ((i + 1 : Nat) : Int)) := h
        rw [eo] at h; exact ⟨⟨rfl, rfl⟩, h⟩
    · rw [decFa c1] at h
      have h : Kn (stC l k (optL p) d ((i + 1 : Nat) : Int)) := h
      rw [eo] at h; exact ⟨⟨rfl, rfl⟩, h⟩
theorem loopch : ∀ z Kr Kx, Qch z Kr Kx → ∃ n, untl (W Z2 Tryd.f15.ntmps (LTab.look Lch) (bodyAt bch 3)) Ich [] och n z Kr Kx := by
  rintro z Kr Kx ⟨l, k, d, ez, ⟨hd, hk⟩, hK⟩
  rw [ez]
  refine untl_up (F := W Z2 Tryd.f15.ntmps (LTab.look Lch) (bodyAt bch 3)) (l := Ich) (lr := []) (lx := och) (Kr := Kr) (Kx := Kx) (st := fun i => stC l k (optL (chL l k d i)) d (i : Int)) d.length (fun i hi Kn h => ?_) (fun Kn => ?_)
  · have := ch_len l k d i
    exact roundCh l k d _ i hi hd (by omega) Kn Kr Kx h
  · have hK := hK _ rfl
    generalize chL l k d d.length = o at *
    cases o with
    | nil =>
      refine (roundchn l k d _ _ Kn Kr Kx).mpr ?_
      exact ifB_dec (fun c => absurd c (by omega)) (fun _ => hK)
    | cons y q =>
      refine (roundchs l k (y :: q) d _ _ Kn Kr Kx).mpr ?_
      exact ifB_dec (fun c => absurd c (by omega)) (fun _ => ⟨⟨rfl, rfl⟩, hK⟩)
noncomputable def chO (l : List Shr) (d : List Int) (k : Int) : List Shr := chL l k d d.length
theorem chos_fw (l : List Shr) (d : List Int) (k : Int) (hd : d.length ≤ 140737488355328) (hk : k ≤ 1000) : FW Z2 Tryd.f15.ntmps (LTab.look Lch) Tryd.f15 (argsOf [.sl shS, .sl i64S, i64S] (l, d, k, ())) (fun r => nrmS [.sl shS] r = .av (.val (.sl shS) (chO l d k))) := by
  rw [fwChos]
  refine ⟨l, k, d, rfl, ⟨hd, hk⟩, fun o ho => ?_⟩
  unfold chO
  rw [← ho]
  cases o with
  | nil => exact rfl
  | cons y q =>
    show nrmS [.sl shS] (.av (.val (.sl shS) (List.take (y :: q).length (List.drop 0 (y :: q))))) = _
    rw [drop0_take (y :: q) _ rfl]; rfl
theorem chos_ok : COK Tryd.prog GL 15 (conA [.v (.sl shS), .v (.sl i64S), .v i64S] fun xs => .dem (Nat.ble (List.length xs.2.1) 140737488355328) (.dem (decide ((xs.2.2.1 : Int) ≤ 1000)) (.ret (.av (.val (.sl shS) (chO xs.1 xs.2.1 xs.2.2.1)))))) :=
  conA_ok (fun xs _ hc => PC_of_fwn (t := Lch) [.sl shS] shA_ok Z2_ok mixed Tryd.func15 (c := bch) rfl (by kernel_rfl) (by kernel_rfl)
    (loopsOK (by kernel_rfl) (LTCons (loop_of shA_ok Z2_ok mixed (loopsOK (by kernel_rfl) (LTCons (noLoop (by kernel_rfl)) LTNil)) (by kernel_rfl) loopch) LTNil)) rfl (chos_fw xs.1 xs.2.1 xs.2.2.1 (Nat.le_of_ble_eq_true hc.1) (of_decide_eq_true hc.2.1))) (fun _ => rfl)
end Go.Proofs.YtghmfiandllpfaaDoor
