import Derived.Test.YtndijgjdmookmaaDoorPn
import Derived.Test.YtndijgjdmookmaaDoorMs
namespace Go.Proofs.YtndijgjdmookmaaDoor
open Go.Ty

/-! ## Locks: what their methods do -/
theorem fwCloN (P : SV → Prop) : FW H0 Tryd.f46.ntmps (LTab.look []) Tryd.f46 [.av (.cell .nilS)] P =
 (  P (SV.av (AV.cell Cel.nilS))) := by kernel_rfl
theorem fwCloE (P : SV → Prop) : FW H0 Tryd.f46.ntmps (LTab.look []) Tryd.f46 [.av (.cell .emp)] P =
 (  P (SV.av (AV.val (Sh.int IntKind.u8).sl (List.take 0 (List.drop 0 ((List.replicate 0 0#8).append [])))))) := by kernel_rfl
theorem fwClo (p : Sh.T (.sl u8S)) (P : SV → Prop) : FW H0 Tryd.f46.ntmps (LTab.look []) Tryd.f46 (argsOf [.sl u8S] (p, ())) P =
 (  dmd (!(List.length p).beq 0)
    (dmd (((0 + List.length p) * 1).ble 140737488355328)
      (P
        (SV.av
          (AV.val (Sh.int IntKind.u8).sl
            (List.take (0 + List.length p) (List.drop 0 ((List.replicate 0 0#8).append p)))))))) := by kernel_rfl
set_option maxRecDepth 20000 in
theorem cloA_ok : COK Tryd.prog GL 46 (conA [.v (.sl u8S)] fun xs => .dem (Nat.ble (List.length xs.1) 140737488355328) (.ret (.av (.val (.sl u8S) xs.1)))) :=
  conA_ok (fun xs _ hc => by
    obtain ⟨p, ⟨⟩⟩ := xs
    have hp : Nat.ble (List.length p) 140737488355328 = true := hc.1
    show PC (bx Tryd.prog GL) 46 [.av (.val (.sl u8S) p)] (.av (.val (.sl u8S) p))
    cases p with
    | nil =>
      refine PC_none [] ?_ ?_
      · exact PC_of_fwn (t := []) [.sl u8S] shA_ok CNil mixed Tryd.func46 (c := Tryd.f46.body.getD .skip) rfl (by kernel_rfl) (by kernel_rfl) loopsNil rfl ((fwCloN _).mpr rfl)
      · exact PC_of_fw (t := []) shA_ok CNil mixed Tryd.func46 (c := Tryd.f46.body.getD .skip) rfl (by kernel_rfl) (by kernel_rfl) loopsNil rfl ((fwCloE _).mpr rfl)
    | cons a q =>
      refine PC_of_fw (args := argsOf [.sl u8S] (a :: q, ())) (t := []) shA_ok CNil mixed Tryd.func46 (c := Tryd.f46.body.getD .skip) rfl (by kernel_rfl) (by kernel_rfl) loopsNil rfl ((fwClo (a :: q) _).mpr ?_)
      refine dmd_of rfl (dmd_of (bleT (by have := Nat.le_of_ble_eq_true hp; omega)) ?_)
      rw [show (List.replicate 0 0#8).append (a :: q) = a :: q from rfl, drop0_take _ _ (Nat.zero_add _)]) (fun _ => rfl)
theorem sameS_ok : COK Tryd.prog GL 48 (conS [.v (.sl u8S), .v (.sl u8S)] sameF) :=
  conS_ok (fun xs _ hc => PC_of_fw (t := Lms) shA_ok CNil mixed Tryd.func48 (c := bms) rfl (by kernel_rfl) (by kernel_rfl)
    (loopsOK (by kernel_rfl) (LTCons (loop_of shA_ok CNil mixed (loopsOK (by kernel_rfl) (LTCons (noLoop (by kernel_rfl)) LTNil)) (by kernel_rfl) loopms) LTNil)) rfl (same_fw xs.1 xs.2.1 (Nat.le_of_ble_eq_true hc.1) (Nat.le_of_ble_eq_true hc.2.1))) (fun _ => rfl)
def rightB (p : List (BitVec 8)) : Bool := decide ((4 : Int) ≤ ((p.length : Nat) : Int)) && decide (((p.length : Nat) : Int) ≤ 16)
theorem fwPRight (p : Sh.T (.sl u8S)) (P : SV → Prop) : FW H0 Tryd.f49.ntmps (LTab.look []) Tryd.f49 (argsOf [.sl u8S] (p, ())) P =
 (  ifB (decide (4 ≤ (((List.length p) : Nat) : Int))) (P (SV.av (AV.val Sh.bool (decide ((((List.length p) : Nat) : Int) ≤ 16)))))
    (P (SV.av (AV.val Sh.bool false)))) := by kernel_rfl
theorem pright_ok : COK Tryd.prog GL 49 (conT [.sl u8S] fun xs => .av (.val .bool (rightB xs.1))) :=
  conT_ok (fun xs _ => PC_of_fw (t := []) shA_ok CNil mixed Tryd.func49 (c := Tryd.f49.body.getD .skip) rfl (by kernel_rfl) (by kernel_rfl) loopsNil rfl ((fwPRight xs.1 _).mpr (by
    unfold rightB
    exact ifB_dec (fun h => by rw [decTr h]; rfl) (fun h => by rw [decFa h]; rfl)))) (fun _ => rfl)
abbrev lkS : Sh := .pair (.sl u8S) (.pair (.pair b32S (.pair i64S .unit)) .unit)
abbrev Lok : Type := lkS.T
noncomputable def cloF : HA [.v (.sl u8S)] → RT := fun xs => .dem (Nat.ble (List.length xs.1) 140737488355328) (.ret (.av (.val (.sl u8S) xs.1)))
noncomputable def L0c : CTab := (47, conA [.v (.sl u8S), .v (.sl u8S)] strPF) :: (48, conS [.v (.sl u8S), .v (.sl u8S)] sameF) :: (49, conT [.sl u8S] fun xs => .av (.val .bool (rightB xs.1))) :: (46, conA [.v (.sl u8S)] fun xs => .dem (Nat.ble (List.length xs.1) 140737488355328) (.ret (.av (.val (.sl u8S) xs.1)))) :: []
noncomputable abbrev L0 : Go.Ty.Cx := mkX Tryd.prog GL shA L0c
theorem L0_ok : ∀ p ∈ L0c, COK Tryd.prog GL p.1 p.2 := CCons stretch_ok (CCons sameS_ok (CCons pright_ok (CCons cloA_ok CNil)))
noncomputable def okB (x : Lok) (p : List (BitVec 8)) : Bool := teq (.sl u8S) (stD x.1 p 8) x.2.1.1
def leftN (x : Lok) : Int := x.2.1.2.1
noncomputable def withL (x : Lok) (n : Int) : Lok := (x.1, (x.2.1.1, n, ()), ())
noncomputable def tryE (x : Lok) (p : List (BitVec 8)) : Int := bif decide (leftN x = 0) then 11 else bif okB x p then 0 else 10
noncomputable def tryG (x : Lok) (p : List (BitVec 8)) : Lok := bif decide (leftN x = 0) then x else bif okB x p then withL x 3 else withL x (IntKind.i64.wrap (leftN x - 1))
def resE (p : List (BitVec 8)) : Int := bif rightB p then 0 else 1
noncomputable def resG (x : Lok) (p : List (BitVec 8)) : Lok := bif rightB p then (x.1, (stD x.1 p 8, (3 : Int), ()), ()) else x
theorem fwTry (x : Lok) (p : List (BitVec 8)) (K : SV → Slot → Prop) : FWM L0 Tryd.f14.ntmps (LTab.look []) Tryd.f14 lkS x (argsOf [.sl u8S] (p, ())) K =
  ifB (decide (leftN x = 0)) (K (.av (.val i64S 11)) (.live ⟨.one lkS (.val lkS x), true⟩))
    (dmd ((List.length x.1).ble 140737488355328) (dmd (p.length.ble 140737488355328) (dmd ((List.take 32 (List.drop 0 (stD x.1 p 8))).length.ble 140737488355328) (dmd ((List.take 32 (List.drop 0 x.2.1.1)).length.ble 140737488355328)
      (ifB (!teq (.sl u8S) (List.take 32 (List.drop 0 (stD x.1 p 8))) (List.take 32 (List.drop 0 x.2.1.1)))
        (K (.av (.val i64S 10)) (.live ⟨.one lkS (.val lkS (x.1, (x.2.1.1, IntKind.i64.wrap (leftN x - 1), x.2.1.2.2), x.2.2)), true⟩))
        (K (.av (.val i64S 0)) (.live ⟨.one lkS (.val lkS (x.1, (x.2.1.1, 3, x.2.1.2.2), x.2.2)), true⟩))))))) := by kernel_rfl
theorem fwReset (x : Lok) (p : List (BitVec 8)) (K : SV → Slot → Prop) : FWM L0 Tryd.f16.ntmps (LTab.look []) Tryd.f16 lkS x (argsOf [.sl u8S] (p, ())) K =
  ifB (!rightB p) (K (.av (.val i64S 1)) (.live ⟨.one lkS (.val lkS x), true⟩))
    (dmd ((List.length x.1).ble 140737488355328) (dmd (p.length.ble 140737488355328) (K (.av (.val i64S 0)) (.live ⟨.one lkS (.val lkS (x.1, (stD x.1 p 8, 3, PUnit.unit), x.2.2)), true⟩)))) := by kernel_rfl
theorem fwKept (x : Lok) (K : SV → Slot → Prop) : FWM L0 Tryd.f18.ntmps (LTab.look []) Tryd.f18 lkS x [] K = K (.av (.val (.pair b32S (.pair i64S .unit)) x.2.1)) (.live ⟨.one lkS (.val lkS x), true⟩) := by kernel_rfl
theorem fwLeft (x : Lok) (K : SV → Slot → Prop) : FWM L0 Tryd.f15.ntmps (LTab.look []) Tryd.f15 lkS x [] K = K (.av (.val i64S (leftN x))) (.live ⟨.one lkS (.val lkS x), true⟩) := by kernel_rfl
theorem cp {α : Type} {b : Bool} {p q : α} (h : b = true) : (bif b then p else q) = p := by rw [h]; rfl
theorem cn {α : Type} {b : Bool} {p q : α} (h : b = false) : (bif b then p else q) = q := by rw [h]; rfl
theorem try_law (x : Lok) (hm : List.length x.2.1.1 = 32) (p : List (BitVec 8)) (h1 : Nat.ble (List.length x.1) 140737488355328 = true) (h2 : Nat.ble (List.length p) 140737488355328 = true) (K : SV → Slot → Prop) (h : K (.av (.val i64S (tryE x p))) (.live ⟨.one lkS (.val lkS (tryG x p)), true⟩)) :
    FWM L0 Tryd.f14.ntmps (LTab.look []) Tryd.f14 lkS x (argsOf [.sl u8S] (p, ())) K := by
  rw [fwTry]
  unfold tryE tryG at h
  have e1 : List.take 32 (List.drop 0 (stD x.1 p 8)) = stD x.1 p 8 := take_all (stD_len x.1 p 8).symm
  have e2 : List.take 32 (List.drop 0 x.2.1.1) = x.2.1.1 := take_all hm.symm
  rw [e1, e2]
  refine ifB_dec (fun d => ?_) (fun d => dmd_of h1 (dmd_of h2 (dmd_of (bleT (by rw [stD_len]; decide)) (dmd_of (bleT (by rw [hm]; decide)) ?_))))
  · rw [cp (decTr d), cp (decTr d)] at h; exact h
  · rw [cn (decFa d), cn (decFa d)] at h
    refine ifB_of (fun c => ?_) (fun c => ?_)
    · have c : okB x p = false := by unfold okB; simpa using c
      rw [cn c, cn c] at h; exact h
    · have c : okB x p = true := by unfold okB; simpa using c
      rw [cp c, cp c] at h; exact h
theorem reset_law (x : Lok) (p : List (BitVec 8)) (h1 : Nat.ble (List.length x.1) 140737488355328 = true) (h2 : Nat.ble (List.length p) 140737488355328 = true) (K : SV → Slot → Prop) (h : K (.av (.val i64S (resE p))) (.live ⟨.one lkS (.val lkS (resG x p)), true⟩)) :
    FWM L0 Tryd.f16.ntmps (LTab.look []) Tryd.f16 lkS x (argsOf [.sl u8S] (p, ())) K := by
  rw [fwReset]
  unfold resE resG at h
  refine ifB_of (fun c => ?_) (fun c => dmd_of h1 (dmd_of h2 ?_))
  · have c : rightB p = false := by simpa using c
    rw [cn c, cn c] at h; exact h
  · have c : rightB p = true := by simpa using c
    rw [cp c, cp c] at h; exact h
noncomputable def tryF (x : Lok) : HA [.v (.sl u8S)] → RT := fun xs => .dem (Nat.ble (List.length x.1) 140737488355328) (.dem (Nat.ble (List.length xs.1) 140737488355328) (.ret (.av (.val i64S (tryE x xs.1)))))
noncomputable def resF (x : Lok) : HA [.v (.sl u8S)] → RT := fun xs => .dem (Nat.ble (List.length x.1) 140737488355328) (.dem (Nat.ble (List.length xs.1) 140737488355328) (.ret (.av (.val i64S (resE xs.1)))))
theorem try_ok : COK Tryd.prog GL 14 (conG lkS [.v (.sl u8S)] (fun x xs => tryG x xs.1) fun x xs => .dem (Nat.ble (List.length x.1) 140737488355328) (.dem (Nat.ble (List.length xs.1) 140737488355328) (.ret (.av (.val i64S (tryE x xs.1)))))) :=
  conG_ok (fun x xs hw _ hc => FWM_pcg (LS := LTab.look []) (xok shA_ok) (consok L0_ok) mixed Tryd.func14 (c := Tryd.f14.body.getD .skip) rfl (by kernel_rfl) (by kernel_rfl) loopsNil (try_law x hw.2.1.1.1 xs.1 hc.1 hc.2.1 _ ⟨rfl, rfl⟩) rfl)
theorem reset_ok : COK Tryd.prog GL 16 (conG lkS [.v (.sl u8S)] (fun x xs => resG x xs.1) fun x xs => .dem (Nat.ble (List.length x.1) 140737488355328) (.dem (Nat.ble (List.length xs.1) 140737488355328) (.ret (.av (.val i64S (resE xs.1)))))) :=
  conG_ok (fun x xs _ _ hc => FWM_pcg (LS := LTab.look []) (xok shA_ok) (consok L0_ok) mixed Tryd.func16 (c := Tryd.f16.body.getD .skip) rfl (by kernel_rfl) (by kernel_rfl) loopsNil (reset_law x xs.1 hc.1 hc.2.1 _ ⟨rfl, rfl⟩) rfl)
theorem kept_ok : COK Tryd.prog GL 18 (conG lkS [] (fun x _ => x) fun x _ => .ret (.av (.val (.pair b32S (.pair i64S .unit)) x.2.1))) :=
  conG_ok (fun x _ _ _ _ => FWM_pcg (LS := LTab.look []) (xok shA_ok) (consok L0_ok) mixed Tryd.func18 (c := Tryd.f18.body.getD .skip) rfl (by kernel_rfl) (by kernel_rfl) loopsNil ((fwKept x _).mpr ⟨rfl, rfl⟩) rfl)
theorem left_ok : COK Tryd.prog GL 15 (conG lkS [] (fun x _ => x) fun x _ => .ret (.av (.val i64S (leftN x)))) :=
  conG_ok (fun x _ _ _ _ => FWM_pcg (LS := LTab.look []) (xok shA_ok) (consok L0_ok) mixed Tryd.func15 (c := Tryd.f15.body.getD .skip) rfl (by kernel_rfl) (by kernel_rfl) loopsNil ((fwLeft x _).mpr ⟨rfl, rfl⟩) rfl)
noncomputable def L1c : CTab := (14, conG lkS [.v (.sl u8S)] (fun x xs => tryG x xs.1) fun x xs => .dem (Nat.ble (List.length x.1) 140737488355328) (.dem (Nat.ble (List.length xs.1) 140737488355328) (.ret (.av (.val i64S (tryE x xs.1)))))) :: (16, conG lkS [.v (.sl u8S)] (fun x xs => resG x xs.1) fun x xs => .dem (Nat.ble (List.length x.1) 140737488355328) (.dem (Nat.ble (List.length xs.1) 140737488355328) (.ret (.av (.val i64S (resE xs.1)))))) :: L0c
noncomputable abbrev L1 : Go.Ty.Cx := mkX Tryd.prog GL shA L1c
theorem L1_ok : ∀ p ∈ L1c, COK Tryd.prog GL p.1 p.2 := CCons try_ok (CCons reset_ok L0_ok)

/-! ## Change, and what makes locks -/
noncomputable def chgE (x : Lok) (o p : List (BitVec 8)) : Int := bif rightB p then (bif decide (tryE x o = 0) then resE p else tryE x o) else 1
noncomputable def chgG (x : Lok) (o p : List (BitVec 8)) : Lok := bif rightB p then (bif decide (tryE x o = 0) then resG (tryG x o) p else tryG x o) else x
theorem tryG_salt (x : Lok) (p : List (BitVec 8)) : (tryG x p).1 = x.1 := by
  unfold tryG withL
  cases decide (leftN x = 0) <;> cases okB x p <;> rfl
theorem resG_salt (x : Lok) (p : List (BitVec 8)) : (resG x p).1 = x.1 := by
  unfold resG
  cases rightB p <;> rfl
theorem fwChange (x : Lok) (o p : List (BitVec 8)) (K : SV → Slot → Prop) : FWM L1 Tryd.f19.ntmps (LTab.look []) Tryd.f19 lkS x (argsOf [.sl u8S, .sl u8S] (o, p, ())) K =
  ifB (!rightB p) (K (.av (.val i64S 1)) (.live ⟨.one lkS (.val lkS x), true⟩))
    (dmd ((List.length x.1).ble 140737488355328) (dmd (o.length.ble 140737488355328)
      (ifB (!decide (tryE x o = 0)) (K (.av (.val i64S (tryE x o))) (.live ⟨.one lkS (.val lkS (tryG x o)), true⟩))
        (dmd ((List.length (tryG x o).1).ble 140737488355328) (dmd (p.length.ble 140737488355328) (K (.av (.val i64S (resE p))) (.live ⟨.one lkS (.val lkS (resG (tryG x o) p)), true⟩))))))) := by kernel_rfl
theorem change_law (x : Lok) (o p : List (BitVec 8)) (h1 : Nat.ble (List.length x.1) 140737488355328 = true) (h2 : Nat.ble (List.length o) 140737488355328 = true) (h3 : Nat.ble (List.length p) 140737488355328 = true) (K : SV → Slot → Prop)
    (h : K (.av (.val i64S (chgE x o p))) (.live ⟨.one lkS (.val lkS (chgG x o p)), true⟩)) : FWM L1 Tryd.f19.ntmps (LTab.look []) Tryd.f19 lkS x (argsOf [.sl u8S, .sl u8S] (o, p, ())) K := by
  rw [fwChange]
  unfold chgE chgG at h
  refine ifB_of (fun c => ?_) (fun c => dmd_of h1 (dmd_of h2 (ifB_neg (fun d => ?_) (fun d => dmd_of (by rw [tryG_salt]; exact h1) (dmd_of h3 ?_)))))
  · have c : rightB p = false := by simpa using c
    rw [cn c, cn c] at h; exact h
  · have c : rightB p = true := by simpa using c
    rw [cp c, cp c, cn (decFa d), cn (decFa d)] at h; exact h
  · have c : rightB p = true := by simpa using c
    rw [cp c, cp c, cp (decTr d), cp (decTr d)] at h; exact h
theorem change_ok : COK Tryd.prog GL 19 (conG lkS [.v (.sl u8S), .v (.sl u8S)] (fun x xs => chgG x xs.1 xs.2.1) fun x xs => .dem (Nat.ble (List.length x.1) 140737488355328) (.dem (Nat.ble (List.length xs.1) 140737488355328) (.dem (Nat.ble (List.length xs.2.1) 140737488355328) (.ret (.av (.val i64S (chgE x xs.1 xs.2.1))))))) :=
  conG_ok (fun x xs _ _ hc => FWM_pcg (LS := LTab.look []) (xok shA_ok) (consok L1_ok) mixed Tryd.func19 (c := Tryd.f19.body.getD .skip) rfl (by kernel_rfl) (by kernel_rfl) loopsNil (change_law x xs.1 xs.2.1 hc.1 hc.2.1 hc.2.2.1 _ ⟨rfl, rfl⟩) rfl)
noncomputable def newL (k p : List (BitVec 8)) : Lok := (k, (stD k p 8, (3 : Int), ()), ())
theorem fwLNew (k p : List (BitVec 8)) (K : List AV → NewV → Prop) : FWNE L1 Tryd.f13.ntmps (LTab.look []) Tryd.f13 (argsOf [.sl u8S, .sl u8S] (k, p, ())) K =
  dmd (k.length.ble 140737488355328) (dmd (k.length.ble 140737488355328) (dmd (p.length.ble 140737488355328)
    (ifB (!decide (resE p = 0)) (K [.val i64S (resE p)] none) (K [.val i64S 0] (some ⟨lkS, resG (k, (List.replicate 32 0#8, (0 : Int), ()), ()) p⟩))))) := by kernel_rfl
noncomputable def newLF : HA [.v (.sl u8S), .v (.sl u8S)] → NT := fun xs => .dem (Nat.ble (List.length xs.1) 140737488355328) (.dem (Nat.ble (List.length xs.2.1) 140737488355328)
  (.alt (rightB xs.2.1) (.ret [.val i64S 0] (some ⟨lkS, newL xs.1 xs.2.1⟩)) (.ret [.val i64S 1] none)))
theorem newLF_val (k p : List (BitVec 8)) : (newLF (k, p, ())).val = (bif rightB p then (([AV.val i64S 0] : List AV), (some ⟨lkS, newL k p⟩ : NewV)) else ([AV.val i64S 1], none)) := rfl
theorem lnew_ok : COK Tryd.prog GL 13 (conNE [.v (.sl u8S), .v (.sl u8S)] newLF) := conNE_ok fun xs _ hc => by
  obtain ⟨k, p, ⟨⟩⟩ := xs
  have h1 : Nat.ble (List.length k) 140737488355328 = true := hc.1
  have h2 : Nat.ble (List.length p) 140737488355328 = true := hc.2.1
  rw [newLF_val]
  cases hr : rightB p with
  | true =>
    show PCNE (bx Tryd.prog GL) 13 (argsOf [.sl u8S, .sl u8S] (k, p, ())) [AV.val i64S 0] (some ⟨lkS, newL k p⟩)
    refine FWNE_pc (l := [AV.val i64S 0]) (o := some ⟨lkS, newL k p⟩) (LS := LTab.look []) (xok shA_ok) (consok L1_ok) mixed Tryd.func13 (c := Tryd.f13.body.getD .skip) rfl (by kernel_rfl) (by kernel_rfl) loopsNil ((fwLNew k p _).mpr (dmd_of h1 (dmd_of h1 (dmd_of h2 ?_)))) (fun v hv => by rw [List.mem_singleton.1 hv]; rfl)
    have e : resE p = 0 := by unfold resE; rw [hr]; rfl
    refine ifB_neg (fun d => absurd e d) (fun _ => ⟨rfl, ?_⟩)
    unfold resG; rw [cp hr]; rfl
  | false =>
    show PCNE (bx Tryd.prog GL) 13 (argsOf [.sl u8S, .sl u8S] (k, p, ())) [AV.val i64S 1] none
    refine FWNE_pc (l := [AV.val i64S 1]) (o := none) (LS := LTab.look []) (xok shA_ok) (consok L1_ok) mixed Tryd.func13 (c := Tryd.f13.body.getD .skip) rfl (by kernel_rfl) (by kernel_rfl) loopsNil ((fwLNew k p _).mpr (dmd_of h1 (dmd_of h1 (dmd_of h2 ?_)))) (fun v hv => by rw [List.mem_singleton.1 hv]; rfl)
    have e : resE p = 1 := by unfold resE; rw [hr]; rfl
    refine ifB_neg (fun _ => ⟨by rw [e], rfl⟩) (fun d => by rw [e] at d; cases d)
abbrev klS : Sh := .pair b32S (.pair i64S .unit)
theorem fwLRest (k : List (BitVec 8)) (l : Sh.T klS) (K : List AV → NewV → Prop) : FWNE L1 Tryd.f17.ntmps (LTab.look []) Tryd.f17 (argsOf [.sl u8S, klS] (k, l, ())) K =
  ifB (decide (l.2.1 < 0)) (K [.val i64S 1] none) (ifB (decide (3 < l.2.1)) (K [.val i64S 1] none) (dmd (k.length.ble 140737488355328) (K [.val i64S 0] (some ⟨lkS, (k, l, ())⟩)))) := by kernel_rfl
def restI (n : Int) : Bool := decide ((0 : Int) ≤ n) && decide (n ≤ (3 : Int))
theorem restI_t {n : Int} (h : restI n = true) : ¬ n < 0 ∧ ¬ 3 < n := by
  obtain ⟨a, b⟩ := andB h
  have a := of_decide_eq_true a
  have b := of_decide_eq_true b
  omega
theorem restI_f {n : Int} (h : restI n = false) (c : ¬ n < 0) (d : ¬ 3 < n) : False := by
  unfold restI at h
  rw [decTr (show (0 : Int) ≤ n by omega), decTr (show n ≤ (3 : Int) by omega)] at h
  cases h
def restB (l : Sh.T klS) : Bool := restI l.2.1
noncomputable def restF : HA [.v (.sl u8S), .v klS] → NT := fun xs => .dem (Nat.ble (List.length xs.1) 140737488355328) (.alt (restB xs.2.1) (.ret [.val i64S 0] (some ⟨lkS, (xs.1, xs.2.1, ())⟩)) (.ret [.val i64S 1] none))
theorem restF_val (k : List (BitVec 8)) (l : Sh.T klS) : (restF (k, l, ())).val = (bif restB l then (([AV.val i64S 0] : List AV), (some ⟨lkS, (k, l, ())⟩ : NewV)) else ([AV.val i64S 1], none)) := rfl
theorem lrest_ok : COK Tryd.prog GL 17 (conNE [.v (.sl u8S), .v klS] restF) := conNE_ok fun xs _ hc => by
  obtain ⟨k, l, ⟨⟩⟩ := xs
  have h1 : Nat.ble (List.length k) 140737488355328 = true := hc.1
  rw [restF_val]
  cases hr : restB l with
  | true =>
    show PCNE (bx Tryd.prog GL) 17 (argsOf [.sl u8S, klS] (k, l, ())) [AV.val i64S 0] (some ⟨lkS, (k, l, ())⟩)
    refine FWNE_pc (l := [AV.val i64S 0]) (o := some ⟨lkS, (k, l, ())⟩) (LS := LTab.look []) (xok shA_ok) (consok L1_ok) mixed Tryd.func17 (c := Tryd.f17.body.getD .skip) rfl (by kernel_rfl) (by kernel_rfl) loopsNil ((fwLRest k l _).mpr ?_) (fun v hv => by rw [List.mem_singleton.1 hv]; rfl)
    obtain ⟨a, b⟩ := restI_t hr
    exact ifB_dec (fun c => absurd c a) (fun _ => ifB_dec (fun c => absurd c b) (fun _ => dmd_of h1 ⟨rfl, rfl⟩))
  | false =>
    show PCNE (bx Tryd.prog GL) 17 (argsOf [.sl u8S, klS] (k, l, ())) [AV.val i64S 1] none
    refine FWNE_pc (l := [AV.val i64S 1]) (o := none) (LS := LTab.look []) (xok shA_ok) (consok L1_ok) mixed Tryd.func17 (c := Tryd.f17.body.getD .skip) rfl (by kernel_rfl) (by kernel_rfl) loopsNil ((fwLRest k l _).mpr ?_) (fun v hv => by rw [List.mem_singleton.1 hv]; rfl)
    exact ifB_dec (fun _ => ⟨rfl, rfl⟩) (fun c => ifB_dec (fun _ => ⟨rfl, rfl⟩) (fun d => (restI_f hr c d).elim))
noncomputable def L2c : CTab := (13, conNE [.v (.sl u8S), .v (.sl u8S)] newLF) :: (17, conNE [.v (.sl u8S), .v klS] restF) ::
  (19, conG lkS [.v (.sl u8S), .v (.sl u8S)] (fun x xs => chgG x xs.1 xs.2.1) fun x xs => .dem (Nat.ble (List.length x.1) 140737488355328) (.dem (Nat.ble (List.length xs.1) 140737488355328) (.dem (Nat.ble (List.length xs.2.1) 140737488355328) (.ret (.av (.val i64S (chgE x xs.1 xs.2.1))))))) ::
  (18, conG lkS [] (fun x _ => x) fun x _ => .ret (.av (.val klS x.2.1))) :: (15, conG lkS [] (fun x _ => x) fun x _ => .ret (.av (.val i64S (leftN x)))) :: L1c
noncomputable abbrev L2 : Go.Ty.Cx := mkX Tryd.prog GL shA L2c
theorem L2_ok : ∀ p ∈ L2c, COK Tryd.prog GL p.1 p.2 := CCons lnew_ok (CCons lrest_ok (CCons change_ok (CCons kept_ok (CCons left_ok L1_ok))))
end Go.Proofs.YtndijgjdmookmaaDoor
