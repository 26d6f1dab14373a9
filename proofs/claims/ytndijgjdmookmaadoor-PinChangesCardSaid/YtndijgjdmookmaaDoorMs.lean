import Derived.Test.YtndijgjdmookmaaDoorHp
import Derived.Test.YtndijgjdmookmaaDoorEq
namespace Go.Proofs.YtndijgjdmookmaaDoor
open Go.Ty

/-! ## Same bytes -/
theorem wrap_zero (v : BitVec 64) : decide (IntKind.i64.wrap ((v.toNat : Nat) : Int) = 0) = decide (v = 0#64) := by
  have h := v.isLt
  have e : IntKind.i64.wrap ((v.toNat : Nat) : Int) = 0 ↔ v.toNat = 0 := by
    by_cases c : v.toNat < 9223372036854775808
    · rw [IntWalk.i64_in _ (by omega)]; omega
    · constructor
      · intro k
        have : IntKind.i64.wrap ((v.toNat : Nat) : Int) = ((v.toNat : Nat) : Int) - 18446744073709551616 := by
          simp only [IntKind.wrap, IntKind.signed, IntKind.bits, Bool.true_and, decide_eq_true_eq, show ((2 : Int) ^ (64 - 1)) = 9223372036854775808 from rfl]
          split <;> omega
        omega
      · intro k; omega
  refine decide_eq_decide.2 (e.trans ⟨fun k => BitVec.eq_of_toNat_eq k, fun k => by rw [k]; rfl⟩)
theorem of_wrap (v : BitVec 64) : BitVec.ofInt 64 (IntKind.i64.wrap ((v.toNat : Nat) : Int)) = v := by
  have h := v.isLt
  apply BitVec.eq_of_toNat_eq
  rw [BitVec.toNat_ofInt]
  by_cases c : v.toNat < 9223372036854775808
  · rw [IntWalk.i64_in _ (by omega)]; omega
  · have : IntKind.i64.wrap ((v.toNat : Nat) : Int) = ((v.toNat : Nat) : Int) - 18446744073709551616 := by
      simp only [IntKind.wrap, IntKind.signed, IntKind.bits, Bool.true_and, decide_eq_true_eq, show ((2 : Int) ^ (64 - 1)) = 9223372036854775808 from rfl]
      split <;> omega
    rw [this]; omega
theorem or_zero {x y : BitVec 64} : decide (x ||| y = 0#64) = (decide (x = 0#64) && decide (y = 0#64)) := by
  rw [← Bool.decide_and]
  exact decide_eq_decide.2 BitVec.or_eq_zero_iff
theorem xor_zero64 {x y : BitVec 64} : decide (x ^^^ y = 0#64) = decide (x = y) := decide_eq_decide.2 BitVec.xor_eq_zero_iff
theorem xor_byte (x y : BitVec 8) : decide (BitVec.ofInt 64 (((x ^^^ y).toNat : Nat) : Int) = 0#64) = decide (x = y) := by
  have e : decide (x ^^^ y = 0#8) = decide (x = y) := decide_eq_decide.2 BitVec.xor_eq_zero_iff
  rw [← e]
  refine decide_eq_decide.2 ⟨fun (h : BitVec.ofInt 64 (((x ^^^ y).toNat : Nat) : Int) = 0#64) => ?_, fun (h : x ^^^ y = 0#8) => by rw [h]; rfl⟩
  have h := congrArg BitVec.toNat h
  rw [BitVec.ofInt_natCast, BitVec.toNat_ofNat] at h
  have hx := (x ^^^ y).isLt
  exact BitVec.eq_of_toNat_eq (by show (x ^^^ y).toNat = 0; have h : (x ^^^ y).toNat % 2 ^ 64 = 0 := h; omega)
/-- so far alike -/
def alk (a b : List (BitVec 8)) : Nat → Bool
  | 0 => decide (a.length = b.length)
  | i + 1 => alk a b i && decide (rd u8S a i = rd u8S b i)
theorem alk_iff (a b : List (BitVec 8)) : ∀ n, alk a b n = true ↔ a.length = b.length ∧ ∀ i, i < n → rd u8S a i = rd u8S b i
  | 0 => by unfold alk; rw [decide_eq_true_eq]; exact ⟨fun h => ⟨h, fun i hi => absurd hi (Nat.not_lt_zero i)⟩, fun h => h.1⟩
  | n + 1 => by
    unfold alk
    rw [Bool.and_eq_true, decide_eq_true_eq, alk_iff a b n]
    constructor
    · rintro ⟨⟨h1, h2⟩, h3⟩
      refine ⟨h1, fun i hi => ?_⟩
      by_cases e : i = n
      · subst e; exact h3
      · exact h2 i (by omega)
    · rintro ⟨h1, h2⟩
      exact ⟨⟨h1, fun i hi => h2 i (by omega)⟩, h2 n (by omega)⟩
theorem alk_min (a b : List (BitVec 8)) : alk a b (min a.length b.length) = teq (.sl u8S) a b := by
  rw [Bool.eq_iff_iff, alk_iff, teq_iff]
  constructor
  · rintro ⟨h1, h2⟩
    exact rd8_ext h1 (fun i hi => h2 i (by omega))
  · intro h
    have h : a = b := h
    subst h
    exact ⟨rfl, fun _ _ => rfl⟩
def orV (a b : List (BitVec 8)) : Nat → BitVec 64
  | 0 => BitVec.ofInt 64 ((a.length : Nat) : Int) ^^^ BitVec.ofInt 64 ((b.length : Nat) : Int)
  | i + 1 => orV a b i ||| BitVec.ofInt 64 (((rd u8S a i ^^^ rd u8S b i).toNat : Nat) : Int)
theorem orV_zero {a b : List (BitVec 8)} (ha : a.length ≤ 140737488355328) (hb : b.length ≤ 140737488355328) : ∀ n, decide (orV a b n = 0#64) = alk a b n
  | 0 => by
    unfold orV alk
    rw [xor_zero64, BitVec.ofInt_natCast, BitVec.ofInt_natCast]
    refine decide_eq_decide.2 ⟨fun h => ?_, fun h => by rw [h]⟩
    have h := congrArg BitVec.toNat h
    rw [BitVec.toNat_ofNat, BitVec.toNat_ofNat] at h
    omega
  | n + 1 => by
    unfold orV alk
    rw [or_zero, orV_zero ha hb n, xor_byte]
abbrev Ims : List It := [.v 0 (.sl u8S), .v 1 (.sl u8S), .v 5 i64S, .v 16 i64S, .v 17 i64S]
abbrev oms : List (Nat × List It) := [(0, [.v 5 i64S])]
noncomputable def Qms : LQ Ims [] oms := fun x _ Kx => ∃ a b : List (BitVec 8), x = (a, b, IntKind.i64.wrap (((orV a b 0).toNat : Nat) : Int), ((min a.length b.length : Nat) : Int), (0 : Int), ()) ∧ (a.length ≤ 140737488355328 ∧ b.length ≤ 140737488355328) ∧ Kx.1 (IntKind.i64.wrap (((orV a b (min a.length b.length)).toNat : Nat) : Int), ())
noncomputable def bms : Code := Tryd.f48.body.getD .skip
noncomputable abbrev Lms : LTab := [(3, ptL Ims [] oms Qms)]
theorem roundms (a b : List (BitVec 8)) (d m i : Int) (Kn : HI Ims → Prop) (Kr : HI [] → Prop) (Kx : HP oms) : roundT (W H0 Tryd.f48.ntmps (LTab.look Lms) (bodyAt bms 3)) Ims [] oms (a, b, d, m, i, ()) Kn Kr Kx =
 (  ifB (decide (i < m))
    (dmd (decide (0 ≤ i) && decide (i < ((a.length : Nat) : Int)))
      (dmd (decide (0 ≤ i) && decide (i < ((b.length : Nat) : Int)))
        (Kn
          (a, b, ior IntKind.i64 d (((rd (Sh.int IntKind.u8) a i.toNat ^^^ rd (Sh.int IntKind.u8) b i.toNat).toNat : Nat) : Int), m,
            IntKind.i64.wrap (i + 1), PUnit.unit))))
    (Kx.1 (d, PUnit.unit))) := by kernel_rfl
theorem fwSame (a : Sh.T (.sl u8S)) (b : Sh.T (.sl u8S)) (P : SV → Prop) : FW H0 Tryd.f48.ntmps (LTab.look Lms) Tryd.f48 (argsOf [.sl u8S, .sl u8S] (a, b, ())) P =
 (  Qms
    (a, b, ixor IntKind.i64 (((List.length a) : Nat) : Int) (((List.length b) : Nat) : Int), mm false (((List.length a) : Nat) : Int) (((List.length b) : Nat) : Int), 0, PUnit.unit)
    (fun _ => False) (fun x => P (SV.av (AV.val Sh.bool (decide (x.1 = 0)))), PUnit.unit)) := by kernel_rfl
theorem loopms : ∀ x Kr Kx, Qms x Kr Kx → ∃ n, untl (W H0 Tryd.f48.ntmps (LTab.look Lms) (bodyAt bms 3)) Ims [] oms n x Kr Kx := by
  rintro x Kr Kx ⟨a, b, ex, ⟨ha, hb⟩, hK⟩
  have key := untl_up (F := W H0 Tryd.f48.ntmps (LTab.look Lms) (bodyAt bms 3)) (l := Ims) (lr := []) (lx := oms) (Kr := Kr) (Kx := Kx) (st := fun i => (a, b, IntKind.i64.wrap (((orV a b i).toNat : Nat) : Int), ((min a.length b.length : Nat) : Int), (i : Int), ())) (min a.length b.length) (fun i hi Kn hn => ?_) (fun Kn => ?_)
  · rw [ex]; exact key
  · rw [roundms, i64w (a := (i : Int) + 1) (n := i + 1) (by omega) (by omega), Int.toNat_natCast]
    refine ifB_of (fun _ => dmd_of (inB (by omega)) (dmd_of (inB (by omega)) ?_)) (fun c => absurd (of_decide_eq_false c) (by omega))
    show Kn (a, b, IntKind.i64.wrap (((BitVec.ofInt 64 (IntKind.i64.wrap (((orV a b i).toNat : Nat) : Int)) ||| BitVec.ofInt 64 (((rd u8S a i ^^^ rd u8S b i).toNat : Nat) : Int) : BitVec 64).toNat : Nat) : Int), _, _, ())
    rw [of_wrap]
    exact hn
  · rw [roundms]
    exact ifB_of (fun c => absurd (of_decide_eq_true c) (by omega)) (fun _ => hK)
theorem mm_min (a b : Nat) : mm false ((a : Nat) : Int) ((b : Nat) : Int) = ((min a b : Nat) : Int) := by
  unfold mm
  show (bif decide (((b : Nat) : Int) < ((a : Nat) : Int)) then ((b : Nat) : Int) else ((a : Nat) : Int)) = _
  by_cases h : b < a
  · rw [decTr (show ((b : Nat) : Int) < ((a : Nat) : Int) by omega), cond_true]; omega
  · rw [decFa (show ¬ ((b : Nat) : Int) < ((a : Nat) : Int) by omega), cond_false]; omega
noncomputable def sameF : HA [.v (.sl u8S), .v (.sl u8S)] → RT := fun xs => .dem (Nat.ble (List.length xs.1) 140737488355328) (.dem (Nat.ble (List.length xs.2.1) 140737488355328) (.ret (.av (.val .bool (teq (.sl u8S) xs.1 xs.2.1)))))
theorem same_fw (a b : List (BitVec 8)) (ha : a.length ≤ 140737488355328) (hb : b.length ≤ 140737488355328) : FW H0 Tryd.f48.ntmps (LTab.look Lms) Tryd.f48 (argsOf [.sl u8S, .sl u8S] (a, b, ())) (fun r => r = .av (.val .bool (teq (.sl u8S) a b))) := by
  rw [fwSame, mm_min]
  refine ⟨a, b, rfl, ⟨ha, hb⟩, ?_⟩
  show SV.av (.val .bool (decide (IntKind.i64.wrap (((orV a b (min a.length b.length)).toNat : Nat) : Int) = 0))) = _
  rw [wrap_zero, orV_zero ha hb, alk_min]
theorem same_ok : COK Tryd.prog GL 48 (conA [.v (.sl u8S), .v (.sl u8S)] sameF) :=
  conA_ok (fun xs _ hc => PC_of_fw (t := Lms) shA_ok CNil mixed Tryd.func48 (c := bms) rfl (by kernel_rfl) (by kernel_rfl)
    (loopsOK (by kernel_rfl) (LTCons (loop_of shA_ok CNil mixed (loopsOK (by kernel_rfl) (LTCons (noLoop (by kernel_rfl)) LTNil)) (by kernel_rfl) loopms) LTNil)) rfl (same_fw xs.1 xs.2.1 (Nat.le_of_ble_eq_true hc.1) (Nat.le_of_ble_eq_true hc.2.1))) (fun _ => rfl)
end Go.Proofs.YtndijgjdmookmaaDoor
