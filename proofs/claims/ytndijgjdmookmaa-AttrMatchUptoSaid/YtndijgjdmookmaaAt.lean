import Derived.Test.YtndijgjdmookmaaEq
import Derived.Test.YtndijgjdmookmaaTyD
namespace Go.Proofs.Ytndijgjdmookmaa
open Go.Ty

/-! ## Attributes: what is found, what is matched -/
abbrev atS : Sh := .pair i64S (.pair (.sl u8S) .unit)
abbrev At : Type := atS.T
/-- at which place the first of a kind stands -/
def findN (k : Int) : List At → Option Nat
  | [] => none
  | x :: l => bif decide ((x.1 : Int) = k) then some 0 else (findN k l).map (· + 1)
def findI (l : List At) (k : Int) : Int := match findN k l with
  | some i => (i : Int)
  | none => -1
theorem findN_some {k : Int} : ∀ {l : List At} {i : Nat}, findN k l = some i → ∃ h : i < l.length, (l[i].1 : Int) = k ∧ ∀ j (_ : j < i) (h2 : j < l.length), (l[j].1 : Int) ≠ k
  | [], _, h => by cases h
  | x :: l, i, h => by
    unfold findN at h
    by_cases d : (x.1 : Int) = k
    · rw [decTr d] at h
      injection h with h; subst h
      exact ⟨Nat.zero_lt_succ _, d, fun j h => by omega⟩
    · rw [decFa d] at h
      obtain ⟨i', h1, rfl⟩ := Option.map_eq_some_iff.1 h
      obtain ⟨g1, g2, g3⟩ := findN_some h1
      refine ⟨Nat.succ_lt_succ g1, g2, fun j hj h2 => ?_⟩
      cases j with
      | zero => exact d
      | succ j => exact g3 j (by omega) (by simpa using h2)
theorem findN_none {k : Int} : ∀ {l : List At}, findN k l = none → ∀ j (h : j < l.length), (l[j].1 : Int) ≠ k
  | [], _, j, h => by simp at h
  | x :: l, h, j, hj => by
    unfold findN at h
    by_cases d : (x.1 : Int) = k
    · rw [decTr d] at h; cases h
    · rw [decFa d] at h
      have h1 : findN k l = none := Option.map_eq_none_iff.1 h
      cases j with
      | zero => exact d
      | succ j => exact findN_none h1 j (by simpa using hj)
theorem findI_lt (l : List At) (k : Int) : findI l k < ((l.length : Nat) : Int) := by
  unfold findI
  split
  · rename_i i h
    obtain ⟨h, _⟩ := findN_some h
    omega
  · omega
noncomputable abbrev A0 : Go.Ty.Cx := mkX Try.prog GL shA []
theorem fwFind1 (x : Ar.T (.v atS)) (k : Ar.T (.f i64S)) (P : SV → Prop) : FW A0 Try.f54.ntmps (LTab.look []) Try.f54 (argsA [.v atS, .f i64S] (x, k, ())) P =
 (  P (SV.av (AV.val Sh.bool (decide (x.1 = k))))) := by kernel_rfl
theorem find1_ok : COK Try.prog GL 54 (conA [.v atS, .f i64S] fun xs => .ret (.av (.val .bool (decide ((xs.1.1 : Int) = xs.2.1))))) :=
  conA_ok (fun xs _ _ => PC_of_fw (t := []) shA_ok CNil mixed Try.func54 (c := Try.f54.body.getD .skip) rfl (by kernel_rfl) (by kernel_rfl) loopsNil rfl ((fwFind1 xs.1 xs.2.1 _).mpr rfl)) (fun _ => rfl)
noncomputable def A1c : CTab := (54, conA [.v atS, .f i64S] fun xs => .ret (.av (.val .bool (decide ((xs.1.1 : Int) = xs.2.1))))) :: []
noncomputable abbrev A1 : Go.Ty.Cx := mkX Try.prog GL shA A1c
theorem A1_ok : ∀ p ∈ A1c, COK Try.prog GL p.1 p.2 := CCons find1_ok CNil
abbrev Iif : List It := [.v 0 (.sl atS), .c 1 54 [i64S], .v 7 i64S, .v 8 i64S]
noncomputable def Qif : LQ Iif [.v 4 i64S] [(0, [])] := fun x Kr Kx => ∃ (l : List At) (k : Int), x = (l, (k, ()), ((l.length : Nat) : Int), (0 : Int), ()) ∧ l.length < 9223372036854775807 ∧ (∀ i : Nat, findN k l = some i → Kr ((i : Int), ())) ∧ (findN k l = none → Kx.1 ())
noncomputable def bif_ : Code := Try.f53.body.getD .skip
noncomputable abbrev Lif : LTab := [(2, ptL Iif [.v 4 i64S] [(0, [])] Qif)]
theorem roundif (l : List (Sh.T atS)) (k m i : Int) (Kn : HI Iif → Prop) (Kr : HI [.v 4 i64S] → Prop) (Kx : HP [(0, [])]) : roundT (W A1 Try.f53.ntmps (LTab.look Lif) (bodyAt bif_ 2)) Iif [.v 4 i64S] [(0, [])] (l, (k, ()), m, i, ()) Kn Kr Kx =
 (  ifB (decide (i < m))
    (dmd (decide (0 ≤ i) && decide (i < ((l.length : Nat) : Int)))
      (ifB (decide ((rd ((Sh.int IntKind.i64).pair ((Sh.int IntKind.u8).sl.pair Sh.unit)) l i.toNat).1 = k))
        (Kr (i, PUnit.unit)) (Kn (l, (k, PUnit.unit), m, IntKind.i64.wrap (i + 1), PUnit.unit))))
    (Kx.1 PUnit.unit)) := by kernel_rfl
theorem fwIndexF (l : Ar.T (.v (.sl atS))) (k : Ar.T (.c 54 [i64S])) (P : SV → Prop) : FW A1 Try.f53.ntmps (LTab.look Lif) Try.f53 (argsA [.v (.sl atS), .c 54 [i64S]] (l, k, ())) P =
 (  Qif (l, (k.1, PUnit.unit), (((List.length l) : Nat) : Int), 0, PUnit.unit) (fun x => P (SV.av (AV.val (Sh.int IntKind.i64) x.1)))
    (fun _ => P (SV.av (AV.val (Sh.int IntKind.i64) (-1))), PUnit.unit)) := by kernel_rfl
theorem loopif : ∀ x Kr Kx, Qif x Kr Kx → ∃ n, untl (W A1 Try.f53.ntmps (LTab.look Lif) (bodyAt bif_ 2)) Iif [.v 4 i64S] [(0, [])] n x Kr Kx := by
  rintro x Kr Kx ⟨l, k, ex, hl, hr, hn⟩
  rw [ex]
  cases hf : findN k l with
  | some j =>
    obtain ⟨h1, h2, h3⟩ := findN_some hf
    refine untl_up (F := W A1 Try.f53.ntmps (LTab.look Lif) (bodyAt bif_ 2)) (l := Iif) (lr := [.v 4 i64S]) (lx := [(0, [])]) (Kr := Kr) (Kx := Kx) (st := fun i => (l, (k, ()), ((l.length : Nat) : Int), (i : Int), ())) j (fun i hi Kn hK => ?_) (fun Kn => ?_)
    · rw [roundif, i64w (a := (i : Int) + 1) (n := i + 1) (by omega) (by omega), Int.toNat_natCast]
      refine ifB_dec (fun _ => dmd_of (inB (by omega)) (ifB_dec (fun c => absurd c ?_) (fun _ => hK))) (fun c => absurd (show (i : Int) < ((l.length : Nat) : Int) by omega) c)
      rw [rd_at (by omega)]
      exact h3 i hi (by omega)
    · rw [roundif, Int.toNat_natCast]
      refine ifB_dec (fun _ => dmd_of (inB h1) (ifB_dec (fun _ => hr j hf) (fun c => absurd ?_ c))) (fun c => absurd (show (j : Int) < ((l.length : Nat) : Int) by omega) c)
      rw [rd_at h1]
      exact h2
  | none =>
    have h3 := findN_none hf
    refine untl_up (F := W A1 Try.f53.ntmps (LTab.look Lif) (bodyAt bif_ 2)) (l := Iif) (lr := [.v 4 i64S]) (lx := [(0, [])]) (Kr := Kr) (Kx := Kx) (st := fun i => (l, (k, ()), ((l.length : Nat) : Int), (i : Int), ())) l.length (fun i hi Kn hK => ?_) (fun Kn => ?_)
    · rw [roundif, i64w (a := (i : Int) + 1) (n := i + 1) (by omega) (by omega), Int.toNat_natCast]
      refine ifB_dec (fun _ => dmd_of (inB hi) (ifB_dec (fun c => absurd c ?_) (fun _ => hK))) (fun c => absurd (show (i : Int) < ((l.length : Nat) : Int) by omega) c)
      rw [rd_at hi]
      exact h3 i hi
    · rw [roundif]
      exact ifB_dec (fun c => absurd c (by omega)) (fun _ => hn hf)
theorem indexF_ok : COK Try.prog GL 53 (conA [.v (.sl atS), .c 54 [i64S]] fun xs => .dem (Nat.ble (List.length xs.1) 140737488355328) (.ret (.av (.val i64S (findI xs.1 xs.2.1.1))))) :=
  conA_ok (fun xs _ hc => PC_of_fw (t := Lif) shA_ok A1_ok mixed Try.func53 (c := bif_) rfl (by kernel_rfl) (by kernel_rfl)
    (loopsOK (by kernel_rfl) (LTCons (loop_of shA_ok A1_ok mixed (loopsOK (by kernel_rfl) (LTCons (noLoop (by kernel_rfl)) LTNil)) (by kernel_rfl) loopif) LTNil)) rfl ((fwIndexF xs.1 xs.2.1 _).mpr (by
      have hl := Nat.le_of_ble_eq_true hc.1
      refine ⟨xs.1, xs.2.1.1, rfl, by omega, fun i h => ?_, fun h => ?_⟩
      · unfold findI; rw [h]; rfl
      · unfold findI; rw [h]; rfl))) (fun _ => rfl)
noncomputable def A2c : CTab := (53, conA [.v (.sl atS), .c 54 [i64S]] fun xs => .dem (Nat.ble (List.length xs.1) 140737488355328) (.ret (.av (.val i64S (findI xs.1 xs.2.1.1))))) :: []
noncomputable abbrev A2 : Go.Ty.Cx := mkX Try.prog GL shA A2c
theorem A2_ok : ∀ p ∈ A2c, COK Try.prog GL p.1 p.2 := CCons indexF_ok CNil
theorem fwFindA (l : Sh.T (.sl atS)) (k : Sh.T (i64S)) (P : SV → Prop) : FW A2 Try.f42.ntmps (LTab.look []) Try.f42 (argsOf [.sl atS, i64S] (l, k, ())) P =
 (  dmd ((List.length l).ble 140737488355328) (P (SV.av (AV.val (Sh.int IntKind.i64) (findI l k))))) := by kernel_rfl
theorem findA_ok : COK Try.prog GL 42 (conA [.v (.sl atS), .v i64S] fun xs => .dem (Nat.ble (List.length xs.1) 140737488355328) (.ret (.av (.val i64S (findI xs.1 xs.2.1))))) :=
  conA_ok (fun xs _ hc => PC_of_fw (t := []) shA_ok A2_ok mixed Try.func42 (c := Try.f42.body.getD .skip) rfl (by kernel_rfl) (by kernel_rfl) loopsNil rfl ((fwFindA xs.1 xs.2.1 _).mpr (dmd_of hc.1 rfl))) (fun _ => rfl)
noncomputable def A3c : CTab := (42, conA [.v (.sl atS), .v i64S] fun xs => .dem (Nat.ble (List.length xs.1) 140737488355328) (.ret (.av (.val i64S (findI xs.1 xs.2.1))))) :: (24, conT [.sl u8S, .sl u8S] equalF) :: []
noncomputable abbrev A3 : Go.Ty.Cx := mkX Try.prog GL shA A3c
theorem A3_ok : ∀ p ∈ A3c, COK Try.prog GL p.1 p.2 := CCons findA_ok (CCons equal_ok CNil)

/-- has l what is asked? -/
def hasB (l : List At) (x : At) : Bool := match findN x.1 l with
  | some i => teq (.sl u8S) (rd atS l i).2.1 x.2.1
  | none => false
def matchB (l a : List At) : Bool := a.all (hasB l)
abbrev Iam : List It := [.v 0 (.sl atS), .v 8 (.sl atS), .v 9 i64S, .v 10 i64S]
noncomputable def Qam : LQ Iam [.v 4 .bool] [(0, [])] := fun x Kr Kx => ∃ (l a : List At), x = (l, a, ((a.length : Nat) : Int), (0 : Int), ()) ∧ (l.length ≤ 140737488355328 ∧ a.length ≤ 140737488355328) ∧ (matchB l a = true → Kx.1 ()) ∧ (matchB l a = false → Kr (false, ()))
noncomputable def bam : Code := Try.f27.body.getD .skip
noncomputable abbrev Lam : LTab := [(2, ptL Iam [.v 4 .bool] [(0, [])] Qam)]
theorem roundam (l a : List (Sh.T atS)) (m i : Int) (Kn : HI Iam → Prop) (Kr : HI [.v 4 .bool] → Prop) (Kx : HP [(0, [])]) : roundT (W A3 Try.f27.ntmps (LTab.look Lam) (bodyAt bam 2)) Iam [.v 4 .bool] [(0, [])] (l, a, m, i, ()) Kn Kr Kx =
 (  ifB (decide (i < m))
    (dmd (decide (0 ≤ i) && decide (i < ((a.length : Nat) : Int)))
      (dmd (l.length.ble 140737488355328)
        (ifB (decide (findI l (rd ((Sh.int IntKind.i64).pair ((Sh.int IntKind.u8).sl.pair Sh.unit)) a i.toNat).1 < 0))
          (Kr (false, PUnit.unit))
          (dmd
            (decide (0 ≤ findI l (rd ((Sh.int IntKind.i64).pair ((Sh.int IntKind.u8).sl.pair Sh.unit)) a i.toNat).1) &&
              decide
                (findI l (rd ((Sh.int IntKind.i64).pair ((Sh.int IntKind.u8).sl.pair Sh.unit)) a i.toNat).1 < ((l.length : Nat) : Int)))
            (ifB
              (!teq (Sh.int IntKind.u8).sl
                  (rd ((Sh.int IntKind.i64).pair ((Sh.int IntKind.u8).sl.pair Sh.unit)) l
                        (findI l
                            (rd ((Sh.int IntKind.i64).pair ((Sh.int IntKind.u8).sl.pair Sh.unit)) a i.toNat).1).toNat).2.1
                  (rd ((Sh.int IntKind.i64).pair ((Sh.int IntKind.u8).sl.pair Sh.unit)) a i.toNat).2.1)
              (Kr (false, PUnit.unit)) (Kn (l, a, m, IntKind.i64.wrap (i + 1), PUnit.unit)))))))
    (Kx.1 PUnit.unit)) := by kernel_rfl
theorem fwMatchA (l : Sh.T (.sl atS)) (a : Sh.T (.sl atS)) (P : SV → Prop) : FW A3 Try.f27.ntmps (LTab.look Lam) Try.f27 (argsOf [.sl atS, .sl atS] (l, a, ())) P =
 (  Qam (l, a, (((List.length a) : Nat) : Int), 0, PUnit.unit) (fun x => P (SV.av (AV.val Sh.bool x.1)))
    (fun _ => P (SV.av (AV.val Sh.bool true)), PUnit.unit)) := by kernel_rfl
theorem hasB_step (l : List At) (x : At) (p q : Prop) (h1 : hasB l x = true → p) (h2 : hasB l x = false → q) :
    ifB (decide (findI l x.1 < 0)) q (dmd (decide (0 ≤ findI l x.1) && decide (findI l x.1 < ((l.length : Nat) : Int))) (ifB (!teq (.sl u8S) (rd atS l (findI l x.1).toNat).2.1 x.2.1) q p)) := by
  have hlt := findI_lt l x.1
  unfold hasB at h1 h2
  unfold findI at hlt ⊢
  cases hf : findN x.1 l with
  | none =>
    rw [hf] at h1 h2
    exact ifB_dec (fun _ => h2 rfl) (fun c => absurd (show (-1 : Int) < 0 by decide) c)
  | some i =>
    rw [hf] at h1 h2 hlt
    refine ifB_dec (fun c => absurd (show ((i : Nat) : Int) < 0 from c) (by omega)) (fun _ => dmd_of (andT (decTr (show (0 : Int) ≤ ((i : Nat) : Int) by omega)) (decTr hlt)) ?_)
    refine ifB_of (fun c => h2 ?_) (fun c => h1 ?_)
    · simpa using c
    · simpa using c
theorem any_at {α : Type} {f : α → Bool} : ∀ {a : List α}, a.all f = false → ∃ j, ∃ h : j < a.length, f a[j] = false ∧ ∀ i (_ : i < j) (h2 : i < a.length), f a[i] = true
  | [], h => by cases h
  | x :: a, h => by
    cases hx : f x with
    | false => exact ⟨0, Nat.zero_lt_succ _, hx, fun i h => by omega⟩
    | true =>
      have h : a.all f = false := by simpa [hx] using h
      obtain ⟨j, h1, h2, h3⟩ := any_at h
      refine ⟨j + 1, Nat.succ_lt_succ h1, h2, fun i hi h4 => ?_⟩
      cases i with
      | zero => exact hx
      | succ i => exact h3 i (by omega) (by simpa using h4)
theorem loopam : ∀ x Kr Kx, Qam x Kr Kx → ∃ n, untl (W A3 Try.f27.ntmps (LTab.look Lam) (bodyAt bam 2)) Iam [.v 4 .bool] [(0, [])] n x Kr Kx := by
  rintro x Kr Kx ⟨l, a, ex, ⟨hl, ha⟩, hn, hr⟩
  rw [ex]
  have bl := bleT hl
  cases hf : matchB l a with
  | false =>
    obtain ⟨j, h1, h2, h3⟩ := any_at hf
    refine untl_up (F := W A3 Try.f27.ntmps (LTab.look Lam) (bodyAt bam 2)) (l := Iam) (lr := [.v 4 .bool]) (lx := [(0, [])]) (Kr := Kr) (Kx := Kx) (st := fun i => (l, a, ((a.length : Nat) : Int), (i : Int), ())) j (fun i hi Kn hK => ?_) (fun Kn => ?_)
    · rw [roundam, i64w (a := (i : Int) + 1) (n := i + 1) (by omega) (by omega), Int.toNat_natCast]
      refine ifB_dec (fun _ => dmd_of (inB (by omega)) (dmd_of bl (hasB_step l (rd atS a i) _ _ (fun _ => hK) (fun c => ?_)))) (fun c => absurd (show (i : Int) < ((a.length : Nat) : Int) by omega) c)
      rw [rd_at (by omega), h3 i hi (by omega)] at c
      cases c
    · rw [roundam, Int.toNat_natCast]
      refine ifB_dec (fun _ => dmd_of (inB h1) (dmd_of bl (hasB_step l (rd atS a j) _ _ (fun c => ?_) (fun _ => hr hf)))) (fun c => absurd (show (j : Int) < ((a.length : Nat) : Int) by omega) c)
      rw [rd_at h1, h2] at c
      cases c
  | true =>
    have h3 := List.all_eq_true.1 hf
    refine untl_up (F := W A3 Try.f27.ntmps (LTab.look Lam) (bodyAt bam 2)) (l := Iam) (lr := [.v 4 .bool]) (lx := [(0, [])]) (Kr := Kr) (Kx := Kx) (st := fun i => (l, a, ((a.length : Nat) : Int), (i : Int), ())) a.length (fun i hi Kn hK => ?_) (fun Kn => ?_)
    · rw [roundam, i64w (a := (i : Int) + 1) (n := i + 1) (by omega) (by omega), Int.toNat_natCast]
      refine ifB_dec (fun _ => dmd_of (inB hi) (dmd_of bl (hasB_step l (rd atS a i) _ _ (fun _ => hK) (fun c => ?_)))) (fun c => absurd (show (i : Int) < ((a.length : Nat) : Int) by omega) c)
      rw [rd_at hi, h3 _ (List.getElem_mem hi)] at c
      cases c
    · rw [roundam]
      exact ifB_dec (fun c => absurd c (by omega)) (fun _ => hn hf)
noncomputable def matF : HA [.v (.sl atS), .v (.sl atS)] → RT := fun xs => .dem (Nat.ble (List.length xs.1) 140737488355328) (.dem (Nat.ble (List.length xs.2.1) 140737488355328) (.ret (.av (.val .bool (matchB xs.1 xs.2.1)))))
theorem match_ok : COK Try.prog GL 27 (conA [.v (.sl atS), .v (.sl atS)] fun xs => .dem (Nat.ble (List.length xs.1) 140737488355328) (.dem (Nat.ble (List.length xs.2.1) 140737488355328) (.ret (.av (.val .bool (matchB xs.1 xs.2.1)))))) :=
  conA_ok (fun xs _ hc => PC_of_fw (t := Lam) shA_ok A3_ok mixed Try.func27 (c := bam) rfl (by kernel_rfl) (by kernel_rfl)
    (loopsOK (by kernel_rfl) (LTCons (loop_of shA_ok A3_ok mixed (loopsOK (by kernel_rfl) (LTCons (noLoop (by kernel_rfl)) LTNil)) (by kernel_rfl) loopam) LTNil)) rfl ((fwMatchA xs.1 xs.2.1 _).mpr
      ⟨xs.1, xs.2.1, rfl, ⟨Nat.le_of_ble_eq_true hc.1, Nat.le_of_ble_eq_true hc.2.1⟩, fun h => by rw [h]; rfl, fun h => by rw [h]; rfl⟩)) (fun _ => rfl)
noncomputable def A4c : CTab := (27, conA [.v (.sl atS), .v (.sl atS)] fun xs => .dem (Nat.ble (List.length xs.1) 140737488355328) (.dem (Nat.ble (List.length xs.2.1) 140737488355328) (.ret (.av (.val .bool (matchB xs.1 xs.2.1)))))) :: []
noncomputable abbrev A4 : Go.Ty.Cx := mkX Try.prog GL shA A4c
theorem A4_ok : ∀ p ∈ A4c, COK Try.prog GL p.1 p.2 := CCons match_ok CNil

/-! ## The law -/
theorem hasB_iff {l : List At} {x : At} : hasB l x = true ↔ ∃ i, findN x.1 l = some i ∧ (rd atS l i).2.1 = x.2.1 := by
  unfold hasB
  cases hf : findN x.1 l with
  | none => simp
  | some i => simp [teq_iff]
theorem match_trans {l a b : List At} (h1 : matchB l a = true) (h2 : matchB a b = true) : matchB l b = true := by
  unfold matchB at *
  rw [List.all_eq_true] at *
  intro x hx
  obtain ⟨i, g1, g2⟩ := hasB_iff.1 (h2 x hx)
  obtain ⟨q1, q2, _⟩ := findN_some g1
  have hy := h1 _ (List.getElem_mem q1)
  obtain ⟨j, k1, k2⟩ := hasB_iff.1 hy
  rw [q2] at k1
  rw [rd_at q1] at g2
  exact hasB_iff.2 ⟨j, k1, k2.trans g2⟩
theorem match_app (l a b : List At) : matchB l (a ++ b) = (matchB l a && matchB l b) := List.all_append
theorem fwAttrM (l : Sh.T (.sl atS)) (a : Sh.T (.sl atS)) (b : Sh.T (.sl atS)) (P : SV → Prop) : FW A4 Try.f7.ntmps (LTab.look []) Try.f7 (argsOf [.sl atS, .sl atS, .sl atS] (l, a, b, ())) P =
 (  ifB ((List.length a).beq 0)
    (ifB ((List.length b).beq 0)
      (dmd ((List.length l).ble 140737488355328)
        (ifB (!matchB l []) (P (SV.av (AV.val Sh.bool false)))
          (dmd ((List.length l).ble 140737488355328)
            (dmd ((List.length l).ble 140737488355328)
              (dmd ((List.length a).ble 140737488355328)
                (ifB (matchB l a)
                  (dmd ((List.length l).ble 140737488355328)
                    (dmd ((List.length b).ble 140737488355328)
                      (ifB (!teq Sh.bool (matchB l []) (matchB l b)) (P (SV.av (AV.val Sh.bool false)))
                        (dmd ((List.length l).ble 140737488355328)
                          (dmd ((List.length a).ble 140737488355328)
                            (ifB (!matchB l a) (P (SV.av (AV.val Sh.bool true)))
                              (dmd ((List.length a).ble 140737488355328)
                                (dmd ((List.length b).ble 140737488355328)
                                  (ifB (!matchB a b) (P (SV.av (AV.val Sh.bool true)))
                                    (dmd ((List.length l).ble 140737488355328)
                                      (dmd ((List.length b).ble 140737488355328)
                                        (P (SV.av (AV.val Sh.bool (matchB l b)))))))))))))))
                  (ifB (!teq Sh.bool (matchB l []) false) (P (SV.av (AV.val Sh.bool false)))
                    (dmd ((List.length l).ble 140737488355328)
                      (dmd ((List.length a).ble 140737488355328)
                        (ifB (!matchB l a) (P (SV.av (AV.val Sh.bool true)))
                          (dmd ((List.length a).ble 140737488355328)
                            (dmd ((List.length b).ble 140737488355328)
                              (ifB (!matchB a b) (P (SV.av (AV.val Sh.bool true)))
                                (dmd ((List.length l).ble 140737488355328)
                                  (dmd ((List.length b).ble 140737488355328)
                                    (P (SV.av (AV.val Sh.bool (matchB l b)))))))))))))))))))
      (dmd ((List.length b * 32).ble 140737488355328)
        (dmd ((List.length l).ble 140737488355328)
          (ifB (!matchB l []) (P (SV.av (AV.val Sh.bool false)))
            (dmd ((List.length l).ble 140737488355328)
              (dmd ((List.take (List.length b) (List.drop 0 b)).length.ble 140737488355328)
                (dmd ((List.length l).ble 140737488355328)
                  (dmd ((List.length a).ble 140737488355328)
                    (ifB (matchB l a)
                      (dmd ((List.length l).ble 140737488355328)
                        (dmd ((List.length b).ble 140737488355328)
                          (ifB (!teq Sh.bool (matchB l (List.take (List.length b) (List.drop 0 b))) (matchB l b))
                            (P (SV.av (AV.val Sh.bool false)))
                            (dmd ((List.length l).ble 140737488355328)
                              (dmd ((List.length a).ble 140737488355328)
                                (ifB (!matchB l a) (P (SV.av (AV.val Sh.bool true)))
                                  (dmd ((List.length a).ble 140737488355328)
                                    (dmd ((List.length b).ble 140737488355328)
                                      (ifB (!matchB a b) (P (SV.av (AV.val Sh.bool true)))
                                        (dmd ((List.length l).ble 140737488355328)
                                          (dmd ((List.length b).ble 140737488355328)
                                            (P (SV.av (AV.val Sh.bool (matchB l b)))))))))))))))
                      (ifB (!teq Sh.bool (matchB l (List.take (List.length b) (List.drop 0 b))) false)
                        (P (SV.av (AV.val Sh.bool false)))
                        (dmd ((List.length l).ble 140737488355328)
                          (dmd ((List.length a).ble 140737488355328)
                            (ifB (!matchB l a) (P (SV.av (AV.val Sh.bool true)))
                              (dmd ((List.length a).ble 140737488355328)
                                (dmd ((List.length b).ble 140737488355328)
                                  (ifB (!matchB a b) (P (SV.av (AV.val Sh.bool true)))
                                    (dmd ((List.length l).ble 140737488355328)
                                      (dmd ((List.length b).ble 140737488355328)
                                        (P (SV.av (AV.val Sh.bool (matchB l b))))))))))))))))))))))
    (dmd ((List.length a * 32).ble 140737488355328)
      (dmd ((List.length a).beq (List.length a) && ((List.length a + List.length b) * 32).ble 140737488355328)
        (dmd ((List.length l).ble 140737488355328)
          (ifB (!matchB l []) (P (SV.av (AV.val Sh.bool false)))
            (dmd ((List.length l).ble 140737488355328)
              (dmd
                ((List.take (List.length a + List.length b) (List.drop 0 (List.append a b))).length.ble 140737488355328)
                (dmd ((List.length l).ble 140737488355328)
                  (dmd ((List.length a).ble 140737488355328)
                    (ifB (matchB l a)
                      (dmd ((List.length l).ble 140737488355328)
                        (dmd ((List.length b).ble 140737488355328)
                          (ifB
                            (!teq Sh.bool
                                (matchB l (List.take (List.length a + List.length b) (List.drop 0 (List.append a b))))
                                (matchB l b))
                            (P (SV.av (AV.val Sh.bool false)))
                            (dmd ((List.length l).ble 140737488355328)
                              (dmd ((List.length a).ble 140737488355328)
                                (ifB (!matchB l a) (P (SV.av (AV.val Sh.bool true)))
                                  (dmd ((List.length a).ble 140737488355328)
                                    (dmd ((List.length b).ble 140737488355328)
                                      (ifB (!matchB a b) (P (SV.av (AV.val Sh.bool true)))
                                        (dmd ((List.length l).ble 140737488355328)
                                          (dmd ((List.length b).ble 140737488355328)
                                            (P (SV.av (AV.val Sh.bool (matchB l b)))))))))))))))
                      (ifB
                        (!teq Sh.bool
                            (matchB l (List.take (List.length a + List.length b) (List.drop 0 (List.append a b)))) false)
                        (P (SV.av (AV.val Sh.bool false)))
                        (dmd ((List.length l).ble 140737488355328)
                          (dmd ((List.length a).ble 140737488355328)
                            (ifB (!matchB l a) (P (SV.av (AV.val Sh.bool true)))
                              (dmd ((List.length a).ble 140737488355328)
                                (dmd ((List.length b).ble 140737488355328)
                                  (ifB (!matchB a b) (P (SV.av (AV.val Sh.bool true)))
                                    (dmd ((List.length l).ble 140737488355328)
                                      (dmd ((List.length b).ble 140737488355328)
                                        (P (SV.av (AV.val Sh.bool (matchB l b))))))))))))))))))))))) := by kernel_rfl
theorem attrM_fw (l a b : List At) (hl : l.length ≤ 1099511627776) (ha : a.length ≤ 1099511627776) (hb : b.length ≤ 1099511627776) : FW A4 Try.f7.ntmps (LTab.look []) Try.f7 (argsOf [.sl atS, .sl atS, .sl atS] (l, a, b, ())) (fun r => r = .av (.val .bool true)) := by
  have L := bleT (show l.length ≤ 140737488355328 by omega)
  have A := bleT (show a.length ≤ 140737488355328 by omega)
  have B := bleT (show b.length ≤ 140737488355328 by omega)
  have e1 : List.take (List.length b) (List.drop 0 b) = b := drop0_take _ _ rfl
  have e2 : List.take (List.length a + List.length b) (List.drop 0 (List.append a b)) = a ++ b := drop0_take (a ++ b) _ List.length_append.symm
  have C : Nat.ble (a ++ b).length 140737488355328 = true := bleT (by rw [List.length_append]; omega)
  rw [fwAttrM, e1, e2]
  have h0 : matchB l [] = true := rfl
  have dT : ∀ p : Prop, dmd true p = p := fun _ => rfl
  have F : Nat.beq a.length a.length = true := Nat.beq_refl _
  have G1 : Nat.ble (a.length * 32) 140737488355328 = true := bleT (by omega)
  have G2 : Nat.ble (b.length * 32) 140737488355328 = true := bleT (by omega)
  have G3 : Nat.ble ((a.length + b.length) * 32) 140737488355328 = true := bleT (by omega)
  have tr : matchB l a = true → matchB a b = true → matchB l b = true := match_trans
  have ap := match_app l a b
  simp only [L, A, B, C, F, G1, G2, G3, h0, dT, ap, Bool.not_true, ifB_false, Bool.and_self]
  have za : a.length = 0 → matchB l a = true := fun h => by rw [List.length_eq_zero_iff.1 h]; exact h0
  have zb : b.length = 0 → matchB l b = true := fun h => by rw [List.length_eq_zero_iff.1 h]; exact h0
  generalize matchB l a = x at *
  generalize matchB l b = y at *
  generalize matchB a b = z at *
  refine ifB_of (fun h => ?_) (fun h => ?_)
  · have za := za (Nat.eq_of_beq_eq_true h)
    subst za
    refine ifB_of (fun h => ?_) (fun h => ?_)
    · have zb := zb (Nat.eq_of_beq_eq_true h)
      subst zb
      cases z <;> simp [ifB, teq]
    · cases y <;> cases z <;> simp_all [ifB, teq]
  · cases x <;> cases y <;> cases z <;> simp_all [ifB, teq]
set_option maxRecDepth 20000 in
theorem walkAttrMatch (xs : HL [.sl atS, .sl atS, .sl atS]) (h : okHLB 17179869184 [.sl atS, .sl atS, .sl atS] xs) : PC (bx Try.prog GL) 7 (argsOf [.sl atS, .sl atS, .sl atS] xs) (.av (.val .bool true)) := by
  obtain ⟨l, a, b, ⟨⟩⟩ := xs
  have h1 : List.length l * 32 ≤ 17179869184 := h.1.1
  have h2 : List.length a * 32 ≤ 17179869184 := h.2.1.1
  have h3 : List.length b * 32 ≤ 17179869184 := h.2.2.1.1
  exact PC_of_fw (t := []) shA_ok A4_ok mixed Try.func7 (c := Try.f7.body.getD .skip) rfl (by kernel_rfl) (by kernel_rfl) loopsNil rfl (attrM_fw l a b (by omega) (by omega) (by omega))
end Go.Proofs.Ytndijgjdmookmaa
