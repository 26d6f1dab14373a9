import Derived.Test.YtghmfiandllpfaaDoorB0
import Derived.Test.YtghmfiandllpfaaDoorFb
namespace Go.Proofs.YtghmfiandllpfaaDoor.Lb
open Go.Ty

noncomputable def powP (A N : Nat) : Nat := A ^ N % PP
noncomputable def powPF : HL [numS, numS] → SV := fun xs => .av (.val numS (wordsN 4 (powP (valN xs.1) (valN xs.2.1))))
abbrev Ip : List It := [.p 2 2000 numS, .p 3 2001 numS, .p 4 2002 numS, .p 5 2003 numS, .v 6 i64S]
abbrev oup : List (Nat × List It) := [(0, [.p 4 2002 numS, .p 5 2003 numS])]
noncomputable def bp : Code := Tryd.f100.body.getD .skip
noncomputable def Qp : LQ Ip [] oup := fun x _ Kx => (numS.wfT x.2.1 ∧ x.2.2.2.1 = wordsN 4 1 ∧ x.2.2.2.2.1 = IntKind.i64.wrap (((blen (valN x.2.1) : Nat) : Int) - 1)) ∧ Kx.1 (x.2.2.1, wordsN 4 (powP (valN x.1) (valN x.2.1)), ())
noncomputable abbrev Lp : LTab := [(3, ptL Ip [] oup Qp)]
theorem roundp (a n o x : List (BitVec 64)) (i : Int) (Kn : HI Ip → Prop) (Kr : HI [] → Prop) (Kx : HP oup) : roundT (W F3 Tryd.f100.ntmps (LTab.look Lp) (bodyAt bp 3)) Ip [] oup (a, n, o, x, i, ()) Kn Kr Kx =
 (  ifB (decide (0 ≤ i))
    (ifB (decide (bitB (valN n) i = 1#64))
      (Kn
        (a, n, o, wordsN 4 (valN (wordsN 4 (valN x * valN x % PP)) * valN a % PP), IntKind.i64.wrap (i - 1), PUnit.unit))
      (Kn (a, n, o, wordsN 4 (valN x * valN x % PP), IntKind.i64.wrap (i - 1), PUnit.unit)))
    (Kx.1 (o, x, PUnit.unit))) := by kernel_rfl
theorem fw77 (a : Sh.T (numS)) (n : Sh.T (numS)) (P : SV → Prop) : FW F3 Tryd.f100.ntmps (LTab.look Lp) Tryd.f100 (argsOf [numS, numS] (a, n, ())) P =
 (  Qp (a, n, [0#64, 0#64, 0#64, 0#64], [1#64, 0#64, 0#64, 0#64], IntKind.i64.wrap (↑(blen (valN n)) - 1), PUnit.unit)
    (fun _ => False) (fun y => P (SV.av (AV.val (Sh.arr 4 (Sh.int IntKind.u64)) y.2.1)), PUnit.unit)) := by kernel_rfl

theorem sq_step {e P : Nat} : e % P * (e % P) % P = e * e % P := (Nat.mul_mod _ _ _).symm
theorem mul_step {e a P : Nat} : e % P * a % P = e * a % P := Nat.mod_mul_mod _ _ _
theorem PP_1 : 1 < PP := by rw [PP_eq] <;> decide
set_option maxRecDepth 100000 in
set_option maxHeartbeats 1000000 in
theorem loopp : ∀ x Kr Kx, Qp x Kr Kx → ∃ n, untl (W F3 Tryd.f100.ntmps (LTab.look Lp) (bodyAt bp 3)) Ip [] oup n x Kr Kx := by
  rintro ⟨a, n, o, x0, i0, u⟩ Kr Kx ⟨⟨h1, h2, h3⟩, hK⟩
  have h1 : numS.wfT n := h1
  have h2 : x0 = wordsN 4 1 := h2
  have h3 : i0 = IntKind.i64.wrap (((blen (valN n) : Nat) : Int) - 1) := h3
  have hK : Kx.1 (o, wordsN 4 (powP (valN a) (valN n)), ()) := hK
  have N2 : valN n < 2 ^ 256 := lt4 h1
  have hb : blen (valN n) ≤ 256 := blen_le.2 N2
  unfold powP at hK
  have key : ∀ (k : Nat), k ≤ 256 → untl (W F3 Tryd.f100.ntmps (LTab.look Lp) (bodyAt bp 3)) Ip [] oup (k + 1) (a, n, o, wordsN 4 (valN a ^ (valN n / 2 ^ k) % PP), (k : Int) - 1, ()) Kr Kx := by
    intro k
    induction k with
    | zero =>
      intro _
      rw [untl_succ, roundp]
      refine ifB_of (fun h => absurd (of_decide_eq_true h) (by omega)) (fun _ => ?_)
      rw [Nat.pow_zero, Nat.div_one]; exact hK
    | succ k ih =>
      intro hk
      rw [untl_succ, roundp]
      have ih := ih (by omega)
      have e1 : ((k + 1 : Nat) : Int) - 1 = (k : Int) := by omega
      have e2 : IntKind.i64.wrap ((k : Int) - 1) = (k : Int) - 1 := IntWalk.i64_in _ (by omega)
      rw [e1, e2]
      have hdiv : valN n / 2 ^ k = 2 * (valN n / 2 ^ (k + 1)) + valN n / 2 ^ k % 2 := by
        rw [Nat.pow_succ, ← Nat.div_div_eq_div_mul]; omega
      rw [vp, vp, sq_step, ← Nat.pow_add, ← Nat.two_mul]
      rw [hdiv] at ih
      rw [bit_in (by omega), mul_step, ← Nat.pow_succ]
      refine ifB_of (fun _ => ifB_of (fun h => ?_) (fun h => ?_)) (fun h => absurd (of_decide_eq_false h) (by omega))
      · have hb1 : valN n / 2 ^ k % 2 = 1 := by
          have h := congrArg BitVec.toNat (of_decide_eq_true h)
          rw [BitVec.toNat_ofNat, show (1#64).toNat = 1 from rfl] at h
          omega
        rw [hb1] at ih
        exact ih
      · have hb1 : valN n / 2 ^ k % 2 = 0 := by
          have : valN n / 2 ^ k % 2 < 2 := Nat.mod_lt _ (by omega)
          by_cases c : valN n / 2 ^ k % 2 = 1
          · rw [c] at h; exact absurd h (by decide)
          · omega
        rw [hb1, Nat.add_zero] at ih
        exact ih
  have h := key (blen (valN n)) hb
  have e0 : valN n / 2 ^ blen (valN n) = 0 := Nat.div_eq_of_lt (blen_le.1 (Nat.le_refl _))
  have e1 : IntKind.i64.wrap (((blen (valN n) : Nat) : Int) - 1) = ((blen (valN n) : Nat) : Int) - 1 := IntWalk.i64_in _ (by omega)
  rw [e0, Nat.pow_zero, Nat.mod_eq_of_lt PP_1, ← h2, ← e1, ← h3] at h
  exact ⟨_, h⟩
theorem powP_ok : COK Tryd.prog GL 100 (conT [numS, numS] powPF) := by
  refine conT_ok (fun xs hw => ?_) (fun xs => rfl)
  obtain ⟨a, n, ⟨⟩⟩ := xs
  have wn : numS.wfT n := hw.2.1
  have eF : powPF (a, n, PUnit.unit) = SV.av (.val numS (wordsN 4 (powP (valN a) (valN n)))) := rfl
  refine PC_of_fw (t := Lp) shU_ok f3_ok mixed Tryd.func100 (c := bp) rfl (by kernel_rfl) (by kernel_rfl) (loopsOK (by kernel_rfl) (LTCons (loop_of shU_ok f3_ok mixed (loopsOK (by kernel_rfl) (LTCons (noLoop (by kernel_rfl)) LTNil)) (by kernel_rfl) loopp) LTNil)) rfl ?_
  rw [show (PUnit.unit : HL []) = () from rfl, fw77, eF]
  exact ⟨⟨wn, show [1#64, 0#64, 0#64, 0#64] = wordsN 4 1 from by rw [wordsN_eq]; decide, rfl⟩, rfl⟩
noncomputable def f4 : CTab := (100, conT [numS, numS] powPF) :: f3
theorem f4_ok : ∀ p ∈ f4, COK Tryd.prog GL p.1 p.2 := CCons powP_ok f3_ok
noncomputable abbrev F4 : Go.Ty.Cx := mkX Tryd.prog GL shU f4
theorem fw35 (a : Sh.T (numS)) (P : SV → Prop) : FW F4 Tryd.f96.ntmps (LTab.look []) Tryd.f96 (argsOf [numS] (a, ())) P =
 (  P
    (SV.av
      (AV.val (Sh.arr 4 (Sh.int IntKind.u64))
        (wordsN 4 (powP (valN a) (valN (wordsN 4 (valN (wordsN 4 PP) + B256 - valN [2#64, 0#64, 0#64, 0#64])))))))) := by kernel_rfl

noncomputable def invPF : HL [numS] → SV := fun xs => .av (.val numS (wordsN 4 (powP (valN xs.1) (PP - 2))))
theorem invP_ok : COK Tryd.prog GL 96 (conT [numS] invPF) := by
  refine conT_ok (fun xs hw => ?_) (fun xs => rfl)
  obtain ⟨a, ⟨⟩⟩ := xs
  have eF : invPF (a, PUnit.unit) = SV.av (.val numS (wordsN 4 (powP (valN a) (PP - 2)))) := rfl
  refine PC_of_fw (t := []) shU_ok f4_ok mixed Tryd.func96 (c := Tryd.f96.body.getD .skip) rfl (by kernel_rfl) (by kernel_rfl) loopsNil rfl ?_
  have h2 : valN [2#64, 0#64, 0#64, 0#64] = 2 := rfl
  have h3 : ∀ M : Nat, M < 2 ^ 255 → 1 < M → valN (wordsN 4 (M + 2 ^ 256 - 2)) = M - 2 := fun M h h' => by rw [v4m]; omega
  rw [show (PUnit.unit : HL []) = () from rfl, fw35, eF, PP_val, h2, B256_eq, h3 PP PP_lt PP_1]
noncomputable def f5 : CTab := (96, conT [numS] invPF) :: f4
theorem f5_ok : ∀ p ∈ f5, COK Tryd.prog GL p.1 p.2 := CCons invP_ok f4_ok
noncomputable abbrev F5 : Go.Ty.Cx := mkX Tryd.prog GL shU f5
end Go.Proofs.YtghmfiandllpfaaDoor.Lb
