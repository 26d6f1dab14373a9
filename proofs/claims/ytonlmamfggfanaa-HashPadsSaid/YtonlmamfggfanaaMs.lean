import Derived.Test.YtonlmamfggfanaaHp
import Derived.Test.YtonlmamfggfanaaEq
namespace Go.Proofs.Ytonlmamfggfanaa
open Go.Ty

/-! ## Same bytes -/
theorem wrap_zero (v : BitVec 64) : decide (IntKind.i64.wrap ((v.toNat : Nat) : Int) = 0) = decide (v = 0#64) := by
  have h := v.isLt
  have e : IntKind.i64.wrap ((v.toNat : Nat) : Int) = 0 ↔ v.toNat = 0 := by
    by_cases c : v.toNat < 9223372036854775808
    · rw [IntWalk.i64_in _ (by omega)]; omega
    · constructor
      · intro k
        have : IntKind.i64.wrap ((v.toNat : Nat) : Int) = ((v.toNat : Nat) : Int) - 18446744073709551616 := by
          simp only [IntKind.wrap, IntKind.signed, IntKind.bits, Bool.true_and, decide_eq_true_eq, show ((2 : Int) ^ (64 - 1)) = 9223372036854775808 from rfl]
          split <;> omega
        omega
      · intro k; omega
  refine decide_eq_decide.2 (e.trans ⟨fun k => BitVec.eq_of_toNat_eq k, fun k => by rw [k]; rfl⟩)
theorem of_wrap (v : BitVec 64) : BitVec.ofInt 64 (IntKind.i64.wrap ((v.toNat : Nat) : Int)) = v := by
  have h := v.isLt
  apply BitVec.eq_of_toNat_eq
  rw [BitVec.toNat_ofInt]
  by_cases c : v.toNat < 9223372036854775808
  · rw [IntWalk.i64_in _ (by omega)]; omega
  · have : IntKind.i64.wrap ((v.toNat : Nat) : Int) = ((v.toNat : Nat) : Int) - 18446744073709551616 := by
      simp only [IntKind.wrap, IntKind.signed, IntKind.bits, Bool.true_and, decide_eq_true_eq, show ((2 : Int) ^ (64 - 1)) = 9223372036854775808 from rfl]
      split <;> omega
    rw [this]; omega
theorem or_zero {x y : BitVec 64} : decide (x ||| y = 0#64) = (decide (x = 0#64) && decide (y = 0#64)) := by
  rw [← Bool.decide_and]
  exact decide_eq_decide.2 BitVec.or_eq_zero_iff
theorem xor_zero64 {x y : BitVec 64} : decide (x ^^^ y = 0#64) = decide (x = y) := decide_eq_decide.2 BitVec.xor_eq_zero_iff
theorem xor_byte (x y : BitVec 8) : decide (BitVec.ofInt 64 (((x ^^^ y).toNat : Nat) : Int) = 0#64) = decide (x = y) := by
  have e : decide (x ^^^ y = 0#8) = decide (x = y) := decide_eq_decide.2 BitVec.xor_eq_zero_iff
  rw [← e]
  refine decide_eq_decide.2 ⟨fun (h : BitVec.ofInt 64 (((x ^^^ y).toNat : Nat) : Int) = 0#64) => ?_, fun (h : x ^^^ y = 0#8) => by rw [h]; rfl⟩
  have h := congrArg BitVec.toNat h
  rw [BitVec.ofInt_natCast, BitVec.toNat_ofNat] at h
  have hx := (x ^^^ y).isLt
  exact BitVec.eq_of_toNat_eq (by show (x ^^^ y).toNat = 0; have h : (x ^^^ y).toNat % 2 ^ 64 = 0 := h; omega)
/-- so far alike -/
def alk (a b : List (BitVec 8)) : Nat → Bool
  | 0 => decide (a.length = b.length)
  | i + 1 => alk a b i && decide (rd u8S a i = rd u8S b i)
theorem alk_iff (a b : List (BitVec 8)) : ∀ n, alk a b n = true ↔ a.length = b.length ∧ ∀ i, i < n → rd u8S a i = rd u8S b i
  | 0 => by unfold alk; rw [decide_eq_true_eq]; exact ⟨fun h => ⟨h, fun i hi => absurd hi (Nat.not_lt_zero i)⟩, fun h => h.1⟩
  | n + 1 => by
    unfold alk
    rw [Bool.and_eq_true, decide_eq_true_eq, alk_iff a b n]
    constructor
    · rintro ⟨⟨h1, h2⟩, h3⟩
      refine ⟨h1, fun i hi => ?_⟩
      by_cases e : i = n
      · subst e; exact h3
      · exact h2 i (by omega)
    · rintro ⟨h1, h2⟩
      exact ⟨⟨h1, fun i hi => h2 i (by omega)⟩, h2 n (by omega)⟩
theorem alk_min (a b : List (BitVec 8)) : alk a b (min a.length b.length) = teq (.sl u8S) a b := by
  rw [Bool.eq_iff_iff, alk_iff, teq_iff]
  constructor
  · rintro ⟨h1, h2⟩
    exact rd8_ext h1 (fun i hi => h2 i (by omega))
  · intro h
    have h : a = b := h
    subst h
    exact ⟨rfl, fun _ _ => rfl⟩
def orV (a b : List (BitVec 8)) : Nat → BitVec 64
  | 0 => BitVec.ofInt 64 ((a.length : Nat) : Int) ^^^ BitVec.ofInt 64 ((b.length : Nat) : Int)
  | i + 1 => orV a b i ||| BitVec.ofInt 64 (((rd u8S a i ^^^ rd u8S b i).toNat : Nat) : Int)
theorem orV_zero {a b : List (BitVec 8)} (ha : a.length ≤ 140737488355328) (hb : b.length ≤ 140737488355328) : ∀ n, decide (orV a b n = 0#64) = alk a b n
  | 0 => by
    unfold orV alk
    rw [xor_zero64, BitVec.ofInt_natCast, BitVec.ofInt_natCast]
    refine decide_eq_decide.2 ⟨fun h => ?_, fun h => by rw [h]⟩
    have h := congrArg BitVec.toNat h
    rw [BitVec.toNat_ofNat, BitVec.toNat_ofNat] at h
    omega
  | n + 1 => by
    unfold orV alk
    rw [or_zero, orV_zero ha hb n, xor_byte]
abbrev Ims : List It := [.v 0 (.sl u8S), .v 1 (.sl u8S), .v 5 i64S, .v 16 i64S, .v 17 i64S]
abbrev oms : List (Nat × List It) := [(0, [.v 5 i64S])]
noncomputable def Qms : LQ Ims [] oms := fun x _ Kx => ∃ a b : List (BitVec 8), x = (a, b, IntKind.i64.wrap (((orV a b 0).toNat : Nat) : Int), ((min a.length b.length : Nat) : Int), (0 : Int), ()) ∧ (a.length ≤ 140737488355328 ∧ b.length ≤ 140737488355328) ∧ Kx.1 (IntKind.i64.wrap (((orV a b (min a.length b.length)).toNat : Nat) : Int), ())
noncomputable def bms : Code := Try.f5.body.getD .skip
noncomputable abbrev Lms : LTab := [(3, ptL Ims [] oms Qms)]
theorem roundms (a b : List (BitVec 8)) (d m i : Int) (Kn : HI Ims → Prop) (Kr : HI [] → Prop) (Kx : HP oms) : roundT (W H0 Try.f5.ntmps (LTab.look Lms) (bodyAt bms 3)) Ims [] oms (a, b, d, m, i, ()) Kn Kr Kx =
 (  ifB (decide (i < m))
    (dmd (decide (0 ≤ i) && decide (i < ((a.length : Nat) : Int)))
      (dmd (decide (0 ≤ i) && decide (i < ((b.length : Nat) : Int)))
        (Kn
          (a, b, ior IntKind.i64 d (((rd (Sh.int IntKind.u8) a i.toNat ^^^ rd (Sh.int IntKind.u8) b i.toNat).toNat : Nat) : Int), m,
            IntKind.i64.wrap (i + 1), PUnit.unit))))
    (Kx.1 (d, PUnit.unit))) := by kernel_rfl
theorem fwSame (a : Sh.T (.sl u8S)) (b : Sh.T (.sl u8S)) (P : SV → Prop) : FW H0 Try.f5.ntmps (LTab.look Lms) Try.f5 (argsOf [.sl u8S, .sl u8S] (a, b, ())) P =
 (  Qms
    (a, b, ixor IntKind.i64 (((List.length a) : Nat) : Int) (((List.length b) : Nat) : Int), mm false (((List.length a) : Nat) : Int) (((List.length b) : Nat) : Int), 0, PUnit.unit)
    (fun _ => False) (fun x => P (SV.av (AV.val Sh.bool (decide (x.1 = 0)))), PUnit.unit)) := by kernel_rfl
theorem loopms : ∀ x Kr Kx, Qms x Kr Kx → ∃ n, untl (W H0 Try.f5.ntmps (LTab.look Lms) (bodyAt bms 3)) Ims [] oms n x Kr Kx := by
  rintro x Kr Kx ⟨a, b, ex, ⟨ha, hb⟩, hK⟩
  have key := untl_up (F := W H0 Try.f5.ntmps (LTab.look Lms) (bodyAt bms 3)) (l := Ims) (lr := []) (lx := oms) (Kr := Kr) (Kx := Kx) (st := fun i => (a, b, IntKind.i64.wrap (((orV a b i).toNat : Nat) : Int), ((min a.length b.length : Nat) : Int), (i : Int), ())) (min a.length b.length) (fun i hi Kn hn => ?_) (fun Kn => ?_)
  · rw [ex]; exact key
  · rw [roundms, i64w (a := (i : Int) + 1) (n := i + 1) (by omega) (by omega), Int.toNat_natCast]
    refine ifB_of (fun _ => dmd_of (inB (by omega)) (dmd_of (inB (by omega)) ?_)) (fun c => absurd (of_decide_eq_false c) (by omega))
    show Kn (a, b, IntKind.i64.wrap (((BitVec.ofInt 64 (IntKind.i64.wrap (((orV a b i).toNat : Nat) : Int)) ||| BitVec.ofInt 64 (((rd u8S a i ^^^ rd u8S b i).toNat : Nat) : Int) : BitVec 64).toNat : Nat) : Int), _, _, ())
    rw [of_wrap]
    exact hn
  · rw [roundms]
    exact ifB_of (fun c => absurd (of_decide_eq_true c) (by omega)) (fun _ => hK)
theorem mm_min (a b : Nat) : mm false ((a : Nat) : Int) ((b : Nat) : Int) = ((min a b : Nat) : Int) := by
  unfold mm
  show (bif decide (((b : Nat) : Int) < ((a : Nat) : Int)) then ((b : Nat) : Int) else ((a : Nat) : Int)) = _
  by_cases h : b < a
  · rw [decTr (show ((b : Nat) : Int) < ((a : Nat) : Int) by omega), cond_true]; omega
  · rw [decFa (show ¬ ((b : Nat) : Int) < ((a : Nat) : Int) by omega), cond_false]; omega
noncomputable def sameF : HA [.v (.sl u8S), .v (.sl u8S)] → RT := fun xs => .dem (Nat.ble (List.length xs.1) 140737488355328) (.dem (Nat.ble (List.length xs.2.1) 140737488355328) (.ret (.av (.val .bool (teq (.sl u8S) xs.1 xs.2.1)))))
theorem same_fw (a b : List (BitVec 8)) (ha : a.length ≤ 140737488355328) (hb : b.length ≤ 140737488355328) : FW H0 Try.f5.ntmps (LTab.look Lms) Try.f5 (argsOf [.sl u8S, .sl u8S] (a, b, ())) (fun r => r = .av (.val .bool (teq (.sl u8S) a b))) := by
  rw [fwSame, mm_min]
  refine ⟨a, b, rfl, ⟨ha, hb⟩, ?_⟩
  show SV.av (.val .bool (decide (IntKind.i64.wrap (((orV a b (min a.length b.length)).toNat : Nat) : Int) = 0))) = _
  rw [wrap_zero, orV_zero ha hb, alk_min]
theorem same_ok : COK Try.prog GL 5 (conA [.v (.sl u8S), .v (.sl u8S)] sameF) :=
  conA_ok (fun xs _ hc => PC_of_fw (t := Lms) shA_ok CNil mixed Try.func5 (c := bms) rfl (by kernel_rfl) (by kernel_rfl)
    (loopsOK (by kernel_rfl) (LTCons (loop_of shA_ok CNil mixed (loopsOK (by kernel_rfl) (LTCons (noLoop (by kernel_rfl)) LTNil)) (by kernel_rfl) loopms) LTNil)) rfl (same_fw xs.1 xs.2.1 (Nat.le_of_ble_eq_true hc.1) (Nat.le_of_ble_eq_true hc.2.1))) (fun _ => rfl)
noncomputable def S1c : CTab := (5, conA [.v (.sl u8S), .v (.sl u8S)] sameF) :: []
noncomputable abbrev S1 : Go.Ty.Cx := mkX Try.prog GL shA S1c
theorem S1_ok : ∀ p ∈ S1c, COK Try.prog GL p.1 p.2 := CCons same_ok CNil
abbrev Imk : List It := [.v 0 (.sl u8S), .v 1 (.sl u8S), .v 5 .bool, .v 6 i64S]
abbrev omk : List (Nat × List It) := [(0, [.v 0 (.sl u8S), .v 1 (.sl u8S), .v 5 .bool])]
noncomputable def Qmk : LQ Imk [] omk := fun x _ Kx => ∃ a b : List (BitVec 8), x = (a, b, alk a b 0, (0 : Int), ()) ∧ (a.length ≤ 140737488355328 ∧ b.length ≤ 140737488355328) ∧ Kx.1 (a, b, teq (.sl u8S) a b, ())
noncomputable def bmk : Code := Try.f3.body.getD .skip
noncomputable abbrev Lmk : LTab := [(3, ptL Imk [] omk Qmk)]
theorem roundmk (a b : List (BitVec 8)) (d : Bool) (i : Int) (Kn : HI Imk → Prop) (Kr : HI [] → Prop) (Kx : HP omk) : roundT (W S1 Try.f3.ntmps (LTab.look Lmk) (bodyAt bmk 3)) Imk [] omk (a, b, d, i, ()) Kn Kr Kx =
 (  ifB (decide (i < ((a.length : Nat) : Int)))
    (ifB (decide (i < ((b.length : Nat) : Int)))
      (ifB d
        (dmd (decide (0 ≤ i) && decide (i < ((a.length : Nat) : Int)))
          (dmd (decide (0 ≤ i) && decide (i < ((b.length : Nat) : Int)))
            (Kn
              (a, b, decide (rd (Sh.int IntKind.u8) a i.toNat = rd (Sh.int IntKind.u8) b i.toNat),
                IntKind.i64.wrap (i + 1), PUnit.unit))))
        (Kn (a, b, false, IntKind.i64.wrap (i + 1), PUnit.unit)))
      (Kx.1 (a, b, d, PUnit.unit)))
    (Kx.1 (a, b, d, PUnit.unit))) := by kernel_rfl
theorem fwMacSame (a : Sh.T (.sl u8S)) (b : Sh.T (.sl u8S)) (P : SV → Prop) : FW S1 Try.f3.ntmps (LTab.look Lmk) Try.f3 (argsOf [.sl u8S, .sl u8S] (a, b, ())) P =
 (  Qmk (a, b, decide ((((List.length a) : Nat) : Int) = (((List.length b) : Nat) : Int)), 0, PUnit.unit) (fun _ => False)
    (fun x =>
      dmd ((List.length x.1).ble 140737488355328)
        (dmd ((List.length x.2.1).ble 140737488355328)
          (ifB (teq Sh.bool (teq (Sh.int IntKind.u8).sl x.1 x.2.1) x.2.2.1)
            (dmd ((List.length x.2.1).ble 140737488355328)
              (dmd ((List.length x.1).ble 140737488355328)
                (ifB (teq Sh.bool (teq (Sh.int IntKind.u8).sl x.2.1 x.1) x.2.2.1)
                  (dmd ((List.length x.1).ble 140737488355328)
                    (dmd ((List.length x.1).ble 140737488355328)
                      (P (SV.av (AV.val Sh.bool (teq (Sh.int IntKind.u8).sl x.1 x.1))))))
                  (P (SV.av (AV.val Sh.bool false))))))
            (P (SV.av (AV.val Sh.bool false))))),
      PUnit.unit)) := by kernel_rfl
theorem loopmk : ∀ x Kr Kx, Qmk x Kr Kx → ∃ n, untl (W S1 Try.f3.ntmps (LTab.look Lmk) (bodyAt bmk 3)) Imk [] omk n x Kr Kx := by
  rintro x Kr Kx ⟨a, b, ex, ⟨ha, hb⟩, hK⟩
  have key := untl_up (F := W S1 Try.f3.ntmps (LTab.look Lmk) (bodyAt bmk 3)) (l := Imk) (lr := []) (lx := omk) (Kr := Kr) (Kx := Kx) (st := fun i => (a, b, alk a b i, (i : Int), ())) (min a.length b.length) (fun i hi Kn hn => ?_) (fun Kn => ?_)
  · rw [ex]; exact key
  · rw [roundmk, i64w (a := (i : Int) + 1) (n := i + 1) (by omega) (by omega), Int.toNat_natCast]
    refine ifB_of (fun _ => ifB_of (fun _ => ?_) (fun c => absurd (of_decide_eq_false c) (by omega))) (fun c => absurd (of_decide_eq_false c) (by omega))
    unfold alk at hn
    cases h : alk a b i with
    | true => rw [h, Bool.true_and] at hn; exact dmd_of (inB (by omega)) (dmd_of (inB (by omega)) hn)
    | false => rw [h, Bool.false_and] at hn; exact hn
  · rw [roundmk, alk_min]
    exact ifB_of (fun c => ifB_of (fun d => absurd (And.intro (of_decide_eq_true c) (of_decide_eq_true d)) (by omega)) (fun _ => hK)) (fun _ => hK)
theorem same_sym (a b : List (BitVec 8)) : teq (.sl u8S) b a = teq (.sl u8S) a b := by
  rw [Bool.eq_iff_iff, teq_iff, teq_iff]; exact eq_comm
theorem len_dec (a b : List (BitVec 8)) : decide (((a.length : Nat) : Int) = ((b.length : Nat) : Int)) = decide (a.length = b.length) := decide_eq_decide.2 (by omega)
theorem walkMacSame (xs : HL [.sl u8S, .sl u8S]) (h : okHL [.sl u8S, .sl u8S] xs) : PC (bx Try.prog GL) 3 (argsOf [.sl u8S, .sl u8S] xs) (.av (.val .bool true)) := by
  obtain ⟨a, b, ⟨⟩⟩ := xs
  have h1 : List.length a * 1 ≤ 140737488351232 := h.1.1
  have h2 : List.length b * 1 ≤ 140737488351232 := h.2.1.1
  refine PC_of_fw (t := Lmk) shA_ok S1_ok mixed Try.func3 (c := bmk) rfl (by kernel_rfl) (by kernel_rfl) (loopsOK (by kernel_rfl) (LTCons (loop_of shA_ok S1_ok mixed (loopsOK (by kernel_rfl) (LTCons (noLoop (by kernel_rfl)) LTNil)) (by kernel_rfl) loopmk) LTNil)) rfl ((fwMacSame a b _).mpr ?_)
  rw [len_dec]
  have hA := bleT (show List.length a ≤ 140737488355328 by omega)
  have hB := bleT (show List.length b ≤ 140737488355328 by omega)
  refine ⟨a, b, rfl, ⟨by omega, by omega⟩, dmd_of hA (dmd_of hB (ifB_of (fun _ => dmd_of hB (dmd_of hA (ifB_of (fun _ => dmd_of hA (dmd_of hA (pbool (teq_of (s := .sl u8S) rfl)))) (fun c => ?_)))) (fun c => ?_)))⟩
  · have c : teq .bool (teq (.sl u8S) b a) (teq (.sl u8S) a b) = false := c
    rw [same_sym, teq_of (s := .bool) rfl] at c; cases c
  · have c : teq .bool (teq (.sl u8S) a b) (teq (.sl u8S) a b) = false := c
    rw [teq_of (s := .bool) rfl] at c; cases c
end Go.Proofs.Ytonlmamfggfanaa
