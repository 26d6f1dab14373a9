import Derived.Test.YtkookenoedbadaaB0
namespace Go.Proofs.Ytkookenoedbadaa
open Go.Ty

/-! ## Calls that clash -/
def wholeB (n : Int) : Bool := decide (2 ≤ n) && decide (n ≤ 7)
def clashB (a b : api_CallS.T) : Bool := wholeB a.1 || (wholeB b.1 || (!decide (a.1 = 1) && (!decide (b.1 = 1) && decide (a.2.1 = b.2.1))))
def workI (a : api_CallS.T) : Int := IntKind.i64.wrap (1 + mm false (IntKind.i64.wrap ((((List.length a.2.2.2.2.2.2.1 : Nat) : Int)).tdiv 64)) 8)
noncomputable abbrev U0 : Go.Ty.Cx := mkX Try.prog GL shA []
theorem fwWhole (n : Sh.T (i64S)) (P : SV → Prop) : FW U0 Try.f35.ntmps (LTab.look []) Try.f35 (argsOf [i64S] (n, ())) P =
 (  ifB (decide (n = 2)) (P (SV.av (AV.val Sh.bool true)))
    (ifB (decide (n = 3)) (P (SV.av (AV.val Sh.bool true)))
      (ifB (decide (n = 4)) (P (SV.av (AV.val Sh.bool true)))
        (ifB (decide (n = 5)) (P (SV.av (AV.val Sh.bool true)))
          (ifB (decide (n = 6)) (P (SV.av (AV.val Sh.bool true)))
            (ifB (decide (n = 7)) (P (SV.av (AV.val Sh.bool true))) (P (SV.av (AV.val Sh.bool false))))))))) := by kernel_rfl
theorem fwWork (a : Sh.T (api_CallS)) (P : SV → Prop) : FW U0 Try.f15.ntmps (LTab.look []) Try.f15 (argsOf [api_CallS] (a, ())) P =
 (  P
    (SV.av
      (AV.val (Sh.int IntKind.i64)
        (IntKind.i64.wrap (1 + mm false (IntKind.i64.wrap (((((List.length a.2.2.2.2.2.2.1) : Nat) : Int)).tdiv 64)) 8))))) := by kernel_rfl
theorem fwHC1 (a : Sh.T (api_CallS)) (P : SV → Prop) : FW U0 Try.f13.ntmps (LTab.look []) Try.f13 (argsOf [api_CallS] (a, ())) P =
 (  ifB (decide (2 ≤ a.1)) (P (SV.av (AV.val Sh.bool (decide (a.1 ≤ 7))))) (P (SV.av (AV.val Sh.bool false)))) := by kernel_rfl
theorem whole_no {n : Int} (h1 : ¬ n = 2) (h2 : ¬ n = 3) (h3 : ¬ n = 4) (h4 : ¬ n = 5) (h5 : ¬ n = 6) (h6 : ¬ n = 7) : wholeB n = false := by
  unfold wholeB
  by_cases c : 2 ≤ n
  · rw [decFa (show ¬ n ≤ 7 by omega), Bool.and_false]
  · rw [decFa c, Bool.false_and]
theorem whole_in {n : Int} (h1 : 2 ≤ n) (h2 : n ≤ 7) : wholeB n = true := by unfold wholeB; rw [decTr h1, decTr h2]; rfl
theorem whole_fw (n : Int) : FW U0 Try.f35.ntmps (LTab.look []) Try.f35 (argsOf [i64S] (n, ())) (fun r => r = .av (.val .bool (wholeB n))) := by
  rw [fwWhole]
  have y : ∀ {m : Int}, 2 ≤ m → m ≤ 7 → n = m → SV.av (.val .bool true) = SV.av (.val .bool (wholeB n)) := fun a b e => by rw [e, whole_in a b]
  exact ifB_dec (y (by decide) (by decide)) (fun h1 => ifB_dec (y (by decide) (by decide)) (fun h2 => ifB_dec (y (by decide) (by decide)) (fun h3 => ifB_dec (y (by decide) (by decide)) (fun h4 => ifB_dec (y (by decide) (by decide)) (fun h5 => ifB_dec (y (by decide) (by decide)) (fun h6 => by rw [whole_no h1 h2 h3 h4 h5 h6]))))))
theorem whole_ok : COK Try.prog GL 35 (conA [.v i64S] fun xs => .ret (.av (.val .bool (wholeB xs.1)))) :=
  conA_ok (fun xs _ _ => PC_of_fw (t := []) shA_ok CNil mixed Try.func35 (c := Try.f35.body.getD .skip) rfl (by kernel_rfl) (by kernel_rfl) loopsNil rfl (whole_fw xs.1)) (fun _ => rfl)
theorem work_ok : COK Try.prog GL 15 (conA [.v api_CallS] fun xs => .ret (.av (.val i64S (workI xs.1)))) :=
  conA_ok (fun xs _ _ => PC_of_fw (t := []) shA_ok CNil mixed Try.func15 (c := Try.f15.body.getD .skip) rfl (by kernel_rfl) (by kernel_rfl) loopsNil rfl ((fwWork xs.1 _).mpr rfl)) (fun _ => rfl)
theorem hc1_fw (a : api_CallS.T) : FW U0 Try.f13.ntmps (LTab.look []) Try.f13 (argsOf [api_CallS] (a, ())) (fun r => r = .av (.val .bool (wholeB a.1))) := by
  rw [fwHC1]
  unfold wholeB
  exact ifB_dec (fun h => by rw [decTr h, Bool.true_and]) (fun h => by rw [decFa h, Bool.false_and])
theorem hc1_ok : COK Try.prog GL 13 (conA [.v api_CallS] fun xs => .ret (.av (.val .bool (wholeB xs.1.1)))) :=
  conA_ok (fun xs _ _ => PC_of_fw (t := []) shA_ok CNil mixed Try.func13 (c := Try.f13.body.getD .skip) rfl (by kernel_rfl) (by kernel_rfl) loopsNil rfl (hc1_fw xs.1)) (fun _ => rfl)
noncomputable def U1c : CTab := (35, conA [.v i64S] fun xs => .ret (.av (.val .bool (wholeB xs.1)))) :: []
noncomputable abbrev U1 : Go.Ty.Cx := mkX Try.prog GL shA U1c
theorem U1_ok : ∀ p ∈ U1c, COK Try.prog GL p.1 p.2 := CCons whole_ok CNil
theorem fwClash (a : Sh.T (api_CallS)) (b : Sh.T (api_CallS)) (P : SV → Prop) : FW U1 Try.f14.ntmps (LTab.look []) Try.f14 (argsOf [api_CallS, api_CallS] (a, b, ())) P =
 (  ifB (wholeB a.1) (P (SV.av (AV.val Sh.bool true)))
    (ifB (wholeB b.1) (P (SV.av (AV.val Sh.bool true)))
      (ifB (!decide (a.1 = 1))
        (ifB (!decide (b.1 = 1)) (P (SV.av (AV.val Sh.bool (decide (a.2.1 = b.2.1))))) (P (SV.av (AV.val Sh.bool false))))
        (P (SV.av (AV.val Sh.bool false)))))) := by kernel_rfl
theorem clash_fw (a b : api_CallS.T) : FW U1 Try.f14.ntmps (LTab.look []) Try.f14 (argsOf [api_CallS, api_CallS] (a, b, ())) (fun r => r = .av (.val .bool (clashB a b))) := by
  rw [fwClash]
  unfold clashB
  cases wholeB a.1 with
  | true => rfl
  | false => cases wholeB b.1 with
    | true => rfl
    | false => exact ifB_neg (fun h => ifB_neg (fun k => by rw [decFa h, decFa k]; rfl) (fun k => by rw [decFa h, decTr k]; rfl)) (fun h => by rw [decTr h]; rfl)
theorem clash_ok : COK Try.prog GL 14 (conA [.v api_CallS, .v api_CallS] fun xs => .ret (.av (.val .bool (clashB xs.1 xs.2.1)))) :=
  conA_ok (fun xs _ _ => PC_of_fw (t := []) shA_ok U1_ok mixed Try.func14 (c := Try.f14.body.getD .skip) rfl (by kernel_rfl) (by kernel_rfl) loopsNil rfl (clash_fw xs.1 xs.2.1)) (fun _ => rfl)
noncomputable def U2c : CTab := (14, conA [.v api_CallS, .v api_CallS] fun xs => .ret (.av (.val .bool (clashB xs.1 xs.2.1)))) :: (15, conA [.v api_CallS] fun xs => .ret (.av (.val i64S (workI xs.1)))) :: (13, conA [.v api_CallS] fun xs => .ret (.av (.val .bool (wholeB xs.1.1)))) :: []
noncomputable abbrev U2 : Go.Ty.Cx := mkX Try.prog GL shA U2c
theorem U2_ok : ∀ p ∈ U2c, COK Try.prog GL p.1 p.2 := CCons clash_ok (CCons work_ok (CCons hc1_ok CNil))
theorem fwHallC (a : Sh.T (api_CallS)) (b : Sh.T (api_CallS)) (P : SV → Prop) : FW U2 Try.f3.ntmps (LTab.look []) Try.f3 (argsOf [api_CallS, api_CallS] (a, b, ())) P =
 (  ifB (!teq Sh.bool (clashB a b) (clashB b a)) (P (SV.av (AV.val Sh.bool false)))
    (ifB (wholeB a.1)
      (ifB (!clashB a b) (P (SV.av (AV.val Sh.bool false)))
        (ifB (decide (a.1 = 1))
          (ifB (!wholeB b.1)
            (ifB (clashB a b) (P (SV.av (AV.val Sh.bool false)))
              (ifB (decide (a.1 = 1)) (P (SV.av (AV.val Sh.bool true)))
                (ifB (clashB a a)
                  (ifB (decide (1 ≤ workI a)) (P (SV.av (AV.val Sh.bool (decide (workI a ≤ 9)))))
                    (P (SV.av (AV.val Sh.bool false))))
                  (P (SV.av (AV.val Sh.bool false))))))
            (ifB (decide (a.1 = 1)) (P (SV.av (AV.val Sh.bool true)))
              (ifB (clashB a a)
                (ifB (decide (1 ≤ workI a)) (P (SV.av (AV.val Sh.bool (decide (workI a ≤ 9)))))
                  (P (SV.av (AV.val Sh.bool false))))
                (P (SV.av (AV.val Sh.bool false))))))
          (ifB (decide (a.1 = 1)) (P (SV.av (AV.val Sh.bool true)))
            (ifB (clashB a a)
              (ifB (decide (1 ≤ workI a)) (P (SV.av (AV.val Sh.bool (decide (workI a ≤ 9)))))
                (P (SV.av (AV.val Sh.bool false))))
              (P (SV.av (AV.val Sh.bool false)))))))
      (ifB (decide (a.1 = 1))
        (ifB (!wholeB b.1)
          (ifB (clashB a b) (P (SV.av (AV.val Sh.bool false)))
            (ifB (decide (a.1 = 1)) (P (SV.av (AV.val Sh.bool true)))
              (ifB (clashB a a)
                (ifB (decide (1 ≤ workI a)) (P (SV.av (AV.val Sh.bool (decide (workI a ≤ 9)))))
                  (P (SV.av (AV.val Sh.bool false))))
                (P (SV.av (AV.val Sh.bool false))))))
          (ifB (decide (a.1 = 1)) (P (SV.av (AV.val Sh.bool true)))
            (ifB (clashB a a)
              (ifB (decide (1 ≤ workI a)) (P (SV.av (AV.val Sh.bool (decide (workI a ≤ 9)))))
                (P (SV.av (AV.val Sh.bool false))))
              (P (SV.av (AV.val Sh.bool false))))))
        (ifB (decide (a.1 = 1)) (P (SV.av (AV.val Sh.bool true)))
          (ifB (clashB a a)
            (ifB (decide (1 ≤ workI a)) (P (SV.av (AV.val Sh.bool (decide (workI a ≤ 9)))))
              (P (SV.av (AV.val Sh.bool false))))
            (P (SV.av (AV.val Sh.bool false)))))))) := by kernel_rfl
theorem clash_comm (a b : api_CallS.T) : clashB a b = clashB b a := by
  unfold clashB
  rw [show decide (b.2.1 = a.2.1) = decide (a.2.1 = b.2.1) from decide_eq_decide.2 eq_comm]
  cases wholeB a.1 <;> cases wholeB b.1 <;> cases decide (a.1 = 1) <;> cases decide (b.1 = 1) <;> rfl
theorem mm_le {x y : Int} : mm false x y ≤ y ∧ (0 ≤ x → 0 ≤ y → 0 ≤ mm false x y) := by
  unfold mm
  rw [cond_false]
  by_cases c : y < x
  · rw [decTr c]; exact ⟨Int.le_refl _, fun _ h => h⟩
  · rw [decFa c]; exact ⟨Int.not_lt.1 c, fun h _ => h⟩
theorem work_in (a : api_CallS.T) (h : List.length a.2.2.2.2.2.2.1 ≤ 140737488351232) : 1 ≤ workI a ∧ workI a ≤ 9 := by
  unfold workI
  generalize List.length a.2.2.2.2.2.2.1 = n at *
  have e : ((n : Nat) : Int).tdiv 64 = ((n / 64 : Nat) : Int) := rfl
  rw [e, i64n (n := n / 64) (by omega)]
  obtain ⟨h1, h2⟩ := mm_le (x := ((n / 64 : Nat) : Int)) (y := 8)
  have h3 := h2 (Int.natCast_nonneg _) (by decide)
  rw [IntWalk.i64_in _ (by omega)]
  omega
theorem hall_fw (a b : api_CallS.T) (h : List.length a.2.2.2.2.2.2.1 ≤ 140737488351232) : FW U2 Try.f3.ntmps (LTab.look []) Try.f3 (argsOf [api_CallS, api_CallS] (a, b, ())) (fun r => r = .av (.val .bool true)) := by
  rw [fwHallC]
  obtain ⟨w1, w2⟩ := work_in a h
  rw [clash_comm b a, teq_self (s := .bool), decTr w1, decTr w2]
  have hw : wholeB a.1 = true → clashB a b = true := fun h => by unfold clashB; rw [h]; rfl
  have hs : a.1 ≠ 1 → clashB a a = true := fun h => by
    unfold clashB
    rw [decFa h, decTr (show a.2.1 = a.2.1 from rfl)]
    cases wholeB a.1 <;> rfl
  have ho : a.1 = 1 → wholeB b.1 = false → clashB a b = false := fun h k => by
    have e : wholeB a.1 = false := by rw [h]; rfl
    unfold clashB
    rw [e, k, decTr h]; rfl
  by_cases c : a.1 = 1
  · have e : wholeB a.1 = false := by rw [c]; rfl
    rw [decTr c, e]
    cases k : wholeB b.1 with
    | false => rw [ho c k]; rfl
    | true => rfl
  · rw [decFa c, hs c]
    cases k : wholeB a.1 with
    | false => rfl
    | true => rw [hw k]; rfl
theorem walkHallClashing (xs : HL [api_CallS, api_CallS]) (h : okHL [api_CallS, api_CallS] xs) : PC (bx Try.prog GL) 3 (argsOf [api_CallS, api_CallS] xs) (.av (.val .bool true)) := by
  obtain ⟨a, b, ⟨⟩⟩ := xs
  exact PC_of_fw (t := []) shA_ok U2_ok mixed Try.func3 (c := Try.f3.body.getD .skip) rfl (by kernel_rfl) (by kernel_rfl) loopsNil rfl (hall_fw a b (by have h1 : List.length a.2.2.2.2.2.2.1 * 1 ≤ 140737488351232 := h.1.2.2.2.2.2.2.1.1; omega))
end Go.Proofs.Ytkookenoedbadaa
