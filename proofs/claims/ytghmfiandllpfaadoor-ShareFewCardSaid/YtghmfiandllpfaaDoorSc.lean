import Derived.Test.YtghmfiandllpfaaDoorSa
import Derived.Test.YtghmfiandllpfaaDoorLag
import Derived.Test.YtghmfiandllpfaaDoorFn
namespace Go.Proofs.YtghmfiandllpfaaDoor
open Go.Ty

abbrev shS : Sh := .pair i64S (.pair numS .unit)
abbrev Shr : Type := shS.T
def Xi (l : List Shr) (i : Nat) : Int := (rd shS l i).1
def Yi (l : List Shr) (i : Nat) : List (BitVec 64) := (rd shS l i).2.1
noncomputable def C0c : CTab := (19, conT [] fun _ => .av (.val numS (wordsN 4 Lb.LL))) :: (18, conT [numS, numS] Lb.cmpF) :: (22, conT [numS, numS] Lb.addLF) :: (23, conT [numS] Lb.negLF) :: (24, conT [numS, numS] Lb.mulLF) :: (25, conT [numS] Lb.invLF) :: []
noncomputable abbrev C0 : Go.Ty.Cx := mkX Tryd.prog GL shA C0c
theorem C0_ok : ∀ p ∈ C0c, COK Tryd.prog GL p.1 p.2 := CCons Lb.L_ok (CCons Lb.cmp_ok (CCons Lb.addL_ok (CCons Lb.negL_ok (CCons Lb.mulL_ok (CCons Lb.invL_ok CNil)))))
theorem fwNum (n : Sh.T (i64S)) (P : SV → Prop) : FW C0 Tryd.f46.ntmps (LTab.look []) Tryd.f46 (argsOf [i64S] (n, ())) P =
 (  P (SV.av (AV.val (Sh.arr 4 (Sh.int IntKind.u64)) ((List.replicate 4 0#64).set 0 (BitVec.ofInt 64 n))))) := by kernel_rfl
theorem num_word {n : Int} (h0 : 0 ≤ n) (h1 : n ≤ 255) : (List.replicate 4 0#64).set 0 (BitVec.ofInt 64 n) = wordsN 4 n.toNat := by
  obtain ⟨m, rfl⟩ := Int.eq_ofNat_of_zero_le h0
  have hm : m < 256 := by omega
  rw [BitVec.ofInt_natCast, Int.toNat_natCast, wordsN_eq]
  have key : ∀ k : Fin 256, (List.replicate 4 0#64).set 0 (BitVec.ofNat 64 k.val) = wordsC 4 k.val := by decide +kernel
  exact key ⟨m, hm⟩
theorem num_ok : COK Tryd.prog GL 46 (conA [.v i64S] fun xs => .dem (decide ((0 : Int) ≤ xs.1) && decide ((xs.1 : Int) ≤ 255)) (.ret (.av (.val numS (wordsN 4 (Int.toNat xs.1)))))) :=
  conA_ok (fun xs _ hc => PC_of_fw (t := []) shA_ok C0_ok mixed Tryd.func46 (c := Tryd.f46.body.getD .skip) rfl (by kernel_rfl) (by kernel_rfl) loopsNil rfl ((fwNum xs.1 _).mpr (by
    obtain ⟨h1, h2⟩ := andB hc.1
    rw [num_word (of_decide_eq_true h1) (of_decide_eq_true h2)]; rfl))) (fun _ => rfl)
noncomputable def thr (l : List Shr) : Nat → List Bool
  | 0 => List.replicate 256 false
  | i + 1 => (thr l i).set (Xi l i).toNat true
theorem thr_len (l : List Shr) : ∀ i, (thr l i).length = 256
  | 0 => List.length_replicate
  | i + 1 => by
    show ((thr l i).set _ true).length = 256
    rw [List.length_set, thr_len l i]
theorem thr_at (l : List Shr) {k : Nat} (hk : k < 256) : ∀ i, (rd .bool (thr l i) k = true ↔ ∃ j, j < i ∧ (Xi l j).toNat = k)
  | 0 => by
    have : rd .bool (thr l 0) k = false := by
      rw [rd_at (by rw [thr_len]; exact hk)]
      simp only [thr, List.getElem_replicate]
    rw [this]
    exact ⟨fun h => (by cases h), fun ⟨j, h, _⟩ => (by omega)⟩
  | i + 1 => by
    have ih := thr_at l hk i
    rw [rd_at (by rw [thr_len]; exact hk)] at ih
    rw [rd_at (by rw [thr_len]; exact hk)]
    show ((thr l i).set (Xi l i).toNat true)[k]'(by rw [List.length_set, thr_len]; exact hk) = true ↔ _
    rw [List.getElem_set]
    by_cases e : (Xi l i).toNat = k
    · rw [if_pos e]
      exact ⟨fun _ => ⟨i, Nat.lt_succ_self _, e⟩, fun _ => rfl⟩
    · rw [if_neg e, ih]
      exact ⟨fun ⟨j, h1, h2⟩ => ⟨j, by omega, h2⟩, fun ⟨j, h1, h2⟩ => ⟨j, by
        rcases Nat.lt_succ_iff_lt_or_eq.1 h1 with h | h
        · exact h
        · subst h; exact absurd h2 e, h2⟩⟩
noncomputable def badB (l : List Shr) (i : Nat) : Bool := decide (Xi l i < 1) || (decide (255 < Xi l i) || (decide (0 ≤ Lb.cmpI (valN (Yi l i)) (valN (wordsN 4 Lb.LL))) || rd .bool (thr l i) (Xi l i).toNat))
noncomputable def okP (l : List Shr) : Bool := (firstN (badB l) l.length).isNone
/-- shares that may be -/
def GoodP (l : List Shr) : Prop := (∀ i, i < l.length → 1 ≤ Xi l i ∧ Xi l i ≤ 255 ∧ valN (Yi l i) < Lb.LL) ∧ ∀ i j, i < j → j < l.length → Xi l i ≠ Xi l j
theorem cmp_L (n : Nat) : (0 ≤ Lb.cmpI n (valN (wordsN 4 Lb.LL))) ↔ ¬ n < Lb.LL := by
  rw [Lb.LL_val]
  rcases Lb.cmpI_cases n Lb.LL with ⟨h, e⟩ | ⟨h, e⟩ | ⟨h, e⟩ <;> rw [e]
  · exact ⟨fun c => absurd c (by decide), fun c => absurd h c⟩
  · exact ⟨fun _ => by omega, fun _ => by decide⟩
  · exact ⟨fun _ => by omega, fun _ => by decide⟩
theorem bad_false {l : List Shr} {i : Nat} : badB l i = false ↔ (1 ≤ Xi l i ∧ Xi l i ≤ 255 ∧ valN (Yi l i) < Lb.LL) ∧ ∀ j, j < i → (Xi l j).toNat ≠ (Xi l i).toNat := by
  unfold badB
  simp only [Bool.or_eq_false_iff, decide_eq_false_iff_not, cmp_L, Decidable.not_not]
  constructor
  · rintro ⟨h1, h2, h3, h4⟩
    refine ⟨⟨by omega, by omega, h3⟩, fun j hj e => ?_⟩
    have := (thr_at l (k := (Xi l i).toNat) (by omega) i).2 ⟨j, hj, e⟩
    rw [h4] at this; cases this
  · rintro ⟨⟨h1, h2, h3⟩, h4⟩
    refine ⟨by omega, by omega, h3, ?_⟩
    cases hb : rd .bool (thr l i) (Xi l i).toNat with
    | false => rfl
    | true =>
      obtain ⟨j, hj, e⟩ := (thr_at l (k := (Xi l i).toNat) (by omega) i).1 hb
      exact absurd e (h4 j hj)
theorem okP_iff {l : List Shr} : okP l = true ↔ GoodP l := by
  unfold okP
  constructor
  · intro h
    have hn : firstN (badB l) l.length = none := Option.isNone_iff_eq_none.1 h
    have hb := first_none hn
    refine ⟨fun i hi => (bad_false.1 (hb i hi)).1, fun i j hij hj e => ?_⟩
    exact (bad_false.1 (hb j hj)).2 i hij (by rw [e])
  · intro h
    cases hf : firstN (badB l) l.length with
    | none => rfl
    | some i =>
      obtain ⟨h1, h2, _⟩ := first_some hf
      have : badB l i = false := bad_false.2 ⟨h.1 i h1, fun j hj e => h.2 j i hj h1 (by
        have a := (h.1 i h1).1
        have b := (h.1 j (by omega)).1
        omega)⟩
      rw [h2] at this; cases this
def outB_ (l : List Shr) (x : Int) : Bool := decide (((List.length l : Nat) : Int) = 0) || (decide (x < 0) || decide (255 < x))
noncomputable def chkE (l : List Shr) (x : Int) : Int := bif decide (20 < ((List.length l : Nat) : Int)) then 2 else bif outB_ l x then 1 else bif okP l then 0 else 1
theorem chk_0 {l : List Shr} {x : Int} (h : chkE l x = 0) : l.length ≤ 20 ∧ 0 < l.length ∧ (0 ≤ x ∧ x ≤ 255) ∧ GoodP l := by
  unfold chkE outB_ at h
  by_cases a : 20 < ((List.length l : Nat) : Int)
  · rw [decTr a] at h; cases h
  by_cases b : ((List.length l : Nat) : Int) = 0
  · rw [decFa a, decTr b] at h; cases h
  by_cases c : x < 0
  · rw [decFa a, decFa b, decTr c] at h; cases h
  by_cases d : 255 < x
  · rw [decFa a, decFa b, decFa c, decTr d] at h; cases h
  cases e : okP l with
  | false => rw [decFa a, decFa b, decFa c, decFa d, e] at h; cases h
  | true => exact ⟨by omega, by omega, ⟨by omega, by omega⟩, okP_iff.1 e⟩
theorem chk_of {l : List Shr} {x : Int} (h1 : l.length ≤ 20) (h2 : 0 < l.length) (h3 : 0 ≤ x) (h4 : x ≤ 255) (h5 : GoodP l) : chkE l x = 0 := by
  unfold chkE outB_
  rw [decFa (by omega), decFa (by omega), decFa (by omega), decFa (by omega), okP_iff.2 h5]; rfl
/-- nothing but how many, where, and whether they may be -/
abbrev Ick : List It := [.p 5 2000 (.arr 256 .bool), .v 22 (.sl shS), .v 23 i64S, .v 24 i64S]
noncomputable def Qck : LQ Ick [.v 4 i64S] [(0, [])] := fun z Kr Kx => ∃ l : List Shr, z = (List.replicate 256 false, l, ((l.length : Nat) : Int), (0 : Int), ()) ∧ l.length ≤ 20 ∧ (okP l = true → Kx.1 ()) ∧ (okP l = false → Kr ((1 : Int), ()))
noncomputable def bck : Code := Tryd.f48.body.getD .skip
noncomputable abbrev Lck : LTab := [(7, ptL Ick [.v 4 i64S] [(0, [])] Qck)]
theorem roundck (h : List Bool) (l : List (Sh.T shS)) (m i : Int) (Kn : HI Ick → Prop) (Kr : HI [.v 4 i64S] → Prop) (Kx : HP [(0, [])]) : roundT (W C0 Tryd.f48.ntmps (LTab.look Lck) (bodyAt bck 7)) Ick [.v 4 i64S] [(0, [])] (h, l, m, i, ()) Kn Kr Kx =
 (  ifB (decide (i < m))
 (dmd (decide (0 ≤ i) && decide (i < ((l.length : Nat) : Int)))
 (ifB (decide ((rd ((Sh.int IntKind.i64).pair ((Sh.arr 4 (Sh.int IntKind.u64)).pair Sh.unit)) l i.toNat).1 < 1))
 (Kr (1, PUnit.unit))
 (ifB (decide (255 < (rd ((Sh.int IntKind.i64).pair ((Sh.arr 4 (Sh.int IntKind.u64)).pair Sh.unit)) l i.toNat).1))
 (Kr (1, PUnit.unit))
 (ifB
 (decide
 (0 ≤
 Lb.cmpI
 (valN (rd ((Sh.int IntKind.i64).pair ((Sh.arr 4 (Sh.int IntKind.u64)).pair Sh.unit)) l i.toNat).2.1)
 (valN (wordsN 4 Lb.LL))))
 (Kr (1, PUnit.unit))
 (dmd
 (decide (0 ≤ (rd ((Sh.int IntKind.i64).pair ((Sh.arr 4 (Sh.int IntKind.u64)).pair Sh.unit)) l i.toNat).1) &&
 decide
 ((rd ((Sh.int IntKind.i64).pair ((Sh.arr 4 (Sh.int IntKind.u64)).pair Sh.unit)) l i.toNat).1 < 256))
 (ifB
 (rd Sh.bool h
 (Int.toNat (rd ((Sh.int IntKind.i64).pair ((Sh.arr 4 (Sh.int IntKind.u64)).pair Sh.unit)) l i.toNat).1))
 (Kr (1, PUnit.unit))
 (dmd
 (decide
 (0 ≤ (rd ((Sh.int IntKind.i64).pair ((Sh.arr 4 (Sh.int IntKind.u64)).pair Sh.unit)) l i.toNat).1) &&
 decide
 ((rd ((Sh.int IntKind.i64).pair ((Sh.arr 4 (Sh.int IntKind.u64)).pair Sh.unit)) l i.toNat).1 < 256))
 (Kn
 (h.set
 (Int.toNat
 (rd ((Sh.int IntKind.i64).pair ((Sh.arr 4 (Sh.int IntKind.u64)).pair Sh.unit)) l i.toNat).1)
 true,
 l, m, IntKind.i64.wrap (i + 1), PUnit.unit)))))))))
 (Kx.1 PUnit.unit)) := by kernel_rfl
theorem fwCheck (l : Sh.T (.sl shS)) (x : Sh.T (i64S)) (P : SV → Prop) : FW C0 Tryd.f48.ntmps (LTab.look Lck) Tryd.f48 (argsOf [.sl shS, i64S] (l, x, ())) P =
 (  ifB (decide (20 < (((List.length l) : Nat) : Int))) (P (SV.av (AV.val (Sh.int IntKind.i64) 2)))
 (ifB (decide ((((List.length l) : Nat) : Int) = 0)) (P (SV.av (AV.val (Sh.int IntKind.i64) 1)))
 (ifB (decide (x < 0)) (P (SV.av (AV.val (Sh.int IntKind.i64) 1)))
 (ifB (decide (255 < x)) (P (SV.av (AV.val (Sh.int IntKind.i64) 1)))
 (Qck (List.replicate 256 false, l, (((List.length l) : Nat) : Int), 0, PUnit.unit)
 (fun x => P (SV.av (AV.val (Sh.int IntKind.i64) x.1)))
 (fun _ => P (SV.av (AV.val (Sh.int IntKind.i64) 0)), PUnit.unit)))))) := by kernel_rfl
theorem roundC (l : List Shr) (i : Nat) (hi : i < l.length) (hl : l.length ≤ 20) (Kn : HI Ick → Prop) (Kr : HI [.v 4 i64S] → Prop) (Kx : HP [(0, [])]) (h1 : badB l i = false → Kn (thr l (i + 1), l, ((l.length : Nat) : Int), ((i + 1 : Nat) : Int), ())) (h2 : badB l i = true → Kr ((1 : Int), ())) :
    roundT (W C0 Tryd.f48.ntmps (LTab.look Lck) (bodyAt bck 7)) Ick [.v 4 i64S] [(0, [])] (thr l i, l, ((l.length : Nat) : Int), (i : Int), ()) Kn Kr Kx := by
  have e1 : thr l (i + 1) = (thr l i).set (Xi l i).toNat true := rfl
  rw [e1] at h1
  have key : ∀ (X : Int) (Y : List (BitVec 64)) (h : List Bool) (p q : Prop), ((decide (X < 1) || (decide (255 < X) || (decide (0 ≤ Lb.cmpI (valN Y) (valN (wordsN 4 Lb.LL))) || rd .bool h X.toNat))) = false → p) → ((decide (X < 1) || (decide (255 < X) || (decide (0 ≤ Lb.cmpI (valN Y) (valN (wordsN 4 Lb.LL))) || rd .bool h X.toNat))) = true → q) →
      ifB (decide (X < 1)) q (ifB (decide (255 < X)) q (ifB (decide (0 ≤ Lb.cmpI (valN Y) (valN (wordsN 4 Lb.LL)))) q (dmd (decide (0 ≤ X) && decide (X < 256)) (ifB (rd .bool h X.toNat) q (dmd (decide (0 ≤ X) && decide (X < 256)) p))))) := by
    intro X Y h p q hp hq
    refine ifB_dec (fun a => hq (by rw [decTr a]; rfl)) (fun a => ifB_dec (fun b => hq (by rw [decFa a, decTr b]; rfl)) (fun b => ifB_dec (fun c => hq (by rw [decFa a, decFa b, decTr c]; rfl)) (fun c => ?_)))
    have hd : (decide (0 ≤ X) && decide (X < 256)) = true := andT (decTr (by omega)) (decTr (by omega))
    exact dmd_of hd (ifB_of (fun d => hq (by rw [decFa a, decFa b, decFa c, d]; rfl)) (fun d => dmd_of hd (hp (by rw [decFa a, decFa b, decFa c, d]; rfl))))
  refine (roundck _ _ _ _ Kn Kr Kx).mpr ?_
  rw [i64w (a := (i : Int) + 1) (n := i + 1) (by omega) (by omega), Int.toNat_natCast]
  exact ifB_dec (fun _ => dmd_of (inB hi) (key (Xi l i) (Yi l i) (thr l i) _ _ h1 h2)) (fun c => absurd (show (i : Int) < ((l.length : Nat) : Int) by omega) c)
theorem loopck : ∀ z Kr Kx, Qck z Kr Kx → ∃ n, untl (W C0 Tryd.f48.ntmps (LTab.look Lck) (bodyAt bck 7)) Ick [.v 4 i64S] [(0, [])] n z Kr Kx := by
  rintro z Kr Kx ⟨l, ez, hl, hn, hr⟩
  rw [ez]
  unfold okP at hn hr
  cases hf : firstN (badB l) l.length with
  | some j =>
    obtain ⟨h1, h2, h3⟩ := first_some hf
    rw [hf] at hr
    refine untl_up (F := W C0 Tryd.f48.ntmps (LTab.look Lck) (bodyAt bck 7)) (l := Ick) (lr := [.v 4 i64S]) (lx := [(0, [])]) (Kr := Kr) (Kx := Kx) (st := fun i => (thr l i, l, ((l.length : Nat) : Int), (i : Int), ())) j (fun i hi Kn hK => ?_) (fun Kn => ?_)
    · exact roundC l i (by omega) hl Kn Kr Kx (fun _ => hK) (fun c => by rw [h3 i hi] at c; cases c)
    · exact roundC l j h1 hl Kn Kr Kx (fun c => by rw [h2] at c; cases c) (fun _ => hr rfl)
  | none =>
    have h3 := first_none hf
    rw [hf] at hn
    refine untl_up (F := W C0 Tryd.f48.ntmps (LTab.look Lck) (bodyAt bck 7)) (l := Ick) (lr := [.v 4 i64S]) (lx := [(0, [])]) (Kr := Kr) (Kx := Kx) (st := fun i => (thr l i, l, ((l.length : Nat) : Int), (i : Int), ())) l.length (fun i hi Kn hK => ?_) (fun Kn => ?_)
    · exact roundC l i hi hl Kn Kr Kx (fun _ => hK) (fun c => by rw [h3 i hi] at c; cases c)
    · refine (roundck _ _ _ _ Kn Kr Kx).mpr ?_
      exact ifB_dec (fun c => absurd c (by omega)) (fun _ => hn rfl)
theorem check_fw (l : List Shr) (x : Int) : FW C0 Tryd.f48.ntmps (LTab.look Lck) Tryd.f48 (argsOf [.sl shS, i64S] (l, x, ())) (fun r => r = .av (.val i64S (chkE l x))) := by
  rw [fwCheck]
  unfold chkE outB_
  refine ifB_dec (fun a => by rw [decTr a]; rfl) (fun a => ifB_dec (fun b => by rw [decFa a, decTr b]; rfl) (fun b => ifB_dec (fun c => by rw [decFa a, decFa b, decTr c]; rfl) (fun c => ifB_dec (fun d => by rw [decFa a, decFa b, decFa c, decTr d]; rfl) (fun d => ?_))))
  have a' : ¬ (20 : Int) < ((List.length l : Nat) : Int) := a
  rw [decFa a, decFa b, decFa c, decFa d]
  exact ⟨l, rfl, by omega, fun h => by rw [h]; rfl, fun h => by rw [h]; rfl⟩
theorem check_ok : COK Tryd.prog GL 48 (conA [.v (.sl shS), .v i64S] fun xs => .ret (.av (.val i64S (chkE xs.1 xs.2.1)))) :=
  conA_ok (fun xs _ _ => PC_of_fw (t := Lck) shA_ok C0_ok mixed Tryd.func48 (c := bck) rfl (by kernel_rfl) (by kernel_rfl)
    (loopsOK (by kernel_rfl) (LTCons (loop_of shA_ok C0_ok mixed (loopsOK (by kernel_rfl) (LTCons (noLoop (by kernel_rfl)) LTNil)) (by kernel_rfl) loopck) LTNil)) rfl (check_fw xs.1 xs.2.1)) (fun _ => rfl)
noncomputable def C1c : CTab := (46, conA [.v i64S] fun xs => .dem (decide ((0 : Int) ≤ xs.1) && decide ((xs.1 : Int) ≤ 255)) (.ret (.av (.val numS (wordsN 4 (Int.toNat xs.1)))))) :: (48, conA [.v (.sl shS), .v i64S] fun xs => .ret (.av (.val i64S (chkE xs.1 xs.2.1)))) :: C0c
noncomputable abbrev C1 : Go.Ty.Cx := mkX Tryd.prog GL shA C1c
theorem C1_ok : ∀ p ∈ C1c, COK Tryd.prog GL p.1 p.2 := CCons num_ok (CCons check_ok C0_ok)
end Go.Proofs.YtghmfiandllpfaaDoor
