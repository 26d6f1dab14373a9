import Derived.Test.YtninlahlmjhmhaaRe
namespace Go.Proofs.Ytninlahlmjhmhaa
open Go.Ty

theorem fw47 (r : Ar.T (.f ringS)) (a : Ar.T (.v numS)) (b : Ar.T (.v numS)) (P : SV → Prop) : FW Y9 Try.f47.ntmps (LTab.look []) Try.f47 (argsA [.f ringS, .v numS, .v numS] (r, a, b, ())) P =
 (  okR r ∧
    okR r ∧
      P
        (SV.av
          (AV.val (Sh.arr 4 (Sh.int IntKind.u64))
            (wordsN 4
              (outN
                (valN
                  (wordsN 8
                    (valN
                        (wordsN 4
                          (valN a * (2 ^ 256) %
                            valN r.1)) *
                      valN b)))
                (valN r.1)))))) := by kernel_rfl

noncomputable def mulRF : HA [.f ringS, .v numS, .v numS] → RT := fun xs => .pre (okR xs.1) (.ret (.av (.val numS (wordsN 4 (valN xs.2.1 * valN xs.2.2.1 % valN xs.1.1)))))
theorem mulR_ok : COK Try.prog noGl 47 (conA [.f ringS, .v numS, .v numS] mulRF) := by
  refine conA_ok (fun xs hw hc => ?_) (fun _ => rfl)
  obtain ⟨r, a, b, ⟨⟩⟩ := xs
  have hc : okR r := hc.1
  have A2 : valN a < 2 ^ 256 := lt4 hw.2.1
  have B2 : valN b < 2 ^ 256 := lt4 hw.2.2.1
  have eF : (mulRF (r, a, b, PUnit.unit)).val = SV.av (.val numS (wordsN 4 (valN a * valN b % valN r.1))) := rfl
  rw [eF]
  refine PC_of_fw (t := []) shR_ok ct9_ok mixed Try.func47 (c := Try.f47.body.getD .skip) rfl (by kernel_rfl) (by kernel_rfl) loopsNil rfl ?_
  rw [show (PUnit.unit : HA []) = () from rfl, fw47]
  refine ⟨hc, hc, ?_⟩
  obtain ⟨wm, hodd, hm1, _, hsq, _⟩ := hc
  have M2 : valN r.1 < 2 ^ 256 := lt4 wm
  have M0 : 0 < valN r.1 := by omega
  have hA := Nat.mod_lt (valN a * 2 ^ 256) M0
  rw [v4 (n := valN a * 2 ^ 256 % valN r.1) (by omega)]
  have hp : valN a * 2 ^ 256 % valN r.1 * valN b < 2 ^ 256 * 2 ^ 256 := Nat.mul_lt_mul'' (by omega) B2
  rw [v8 hp, out_mul hodd hm1 (Y := valN a * valN b)]
  rw [Nat.mod_mul_mod, Nat.mul_right_comm]

/-! ## Pow -/
def powN (A N M : Nat) : Nat := A ^ N % M
abbrev I51 : List It := [.f 0 ringS, .p 5 2001 numS, .p 6 2002 numS, .p 7 2003 numS, .p 8 2004 numS, .v 9 i64S]
abbrev o51 : List (Nat × List It) := [(0, [.f 0 ringS, .p 6 2002 numS, .p 8 2004 numS])]
noncomputable def b51 : Code := Try.f51.body.getD .skip
def Q51 : LQ I51 [] o51 := fun x _ Kx => (okR x.1 ∧ numS.wfT x.2.1 ∧ (∃ A, x.2.2.2.1 = wordsN 4 (A * 2 ^ 256 % valN x.1.1)) ∧ x.2.2.2.2.1 = wordsN 4 (2 ^ 256 % valN x.1.1) ∧ x.2.2.2.2.2.1 = IntKind.i64.wrap (((blen (valN x.2.1) : Nat) : Int) - 1)) ∧
  ∀ A : Nat, x.2.2.2.1 = wordsN 4 (A * 2 ^ 256 % valN x.1.1) → Kx.1 (x.1, x.2.2.1, wordsN 4 (A ^ valN x.2.1 * 2 ^ 256 % valN x.1.1), ())
noncomputable abbrev L51 : LTab := [(3, ptL I51 [] o51 Q51)]
theorem round51 (r : RingT) (n o x c : List (BitVec 64)) (i : Int) (Kn : HI I51 → Prop) (Kr : HI [] → Prop) (Kx : HP o51) : roundT (W Y9 Try.f51.ntmps (LTab.look L51) (bodyAt b51 3)) I51 [] o51 (r, n, o, x, c, i, ()) Kn Kr Kx =
 (  ifB (decide (0 ≤ i))
    (okR r ∧
      ifB (decide (bitB (valN n) i = 1#64))
        (okR r ∧
          Kn
            (r, n, o, x,
              wordsN 4
                (outN (valN (wordsN 8 (valN (wordsN 4 (outN (valN (wordsN 8 (valN c * valN c))) (valN r.1))) * valN x)))
                  (valN r.1)),
              IntKind.i64.wrap (i - 1), PUnit.unit))
        (Kn
          (r, n, o, x, wordsN 4 (outN (valN (wordsN 8 (valN c * valN c))) (valN r.1)), IntKind.i64.wrap (i - 1),
            PUnit.unit)))
    (Kx.1 (r, o, c, PUnit.unit))) := by kernel_rfl
theorem fw51 (r : Ar.T (.f ringS)) (a : Ar.T (.v numS)) (n : Ar.T (.v numS)) (P : SV → Prop) : FW Y9 Try.f51.ntmps (LTab.look L51) Try.f51 (argsA [.f ringS, .v numS, .v numS] (r, a, n, ())) P =
 (  okR r ∧
    Q51
      (r, n, [0#64, 0#64, 0#64, 0#64],
        wordsN 4 (valN a * (2 ^ 256) % valN r.1),
        r.2.1, IntKind.i64.wrap (↑(blen (valN n)) - 1), PUnit.unit)
      (fun _ => False)
      (fun y =>
        okR y.1 ∧
          P
            (SV.av
              (AV.val (Sh.arr 4 (Sh.int IntKind.u64))
                (wordsN 4 (outN (valN (wordsN 8 (valN y.2.2.1 + 0))) (valN y.1.1))))),
        PUnit.unit)) := by kernel_rfl

theorem sq_mont {e M R : Nat} : e * R % M * (e * R % M) % M = e * e * R * R % M := by
  rw [← Nat.mul_mod]
  congr 1
  grind
theorem mul_mont {e a M R : Nat} : e * R % M * (a * R % M) % M = e * a * R * R % M := by
  rw [← Nat.mul_mod]
  congr 1
  grind
theorem blen_le {x k : Nat} : blen x ≤ k ↔ x < 2 ^ k := by
  unfold blen
  by_cases h : x = 0
  · subst h; simp [Nat.two_pow_pos]
  · rw [if_neg h, ← Nat.log2_lt h]; omega
set_option maxRecDepth 100000 in
set_option maxHeartbeats 1000000 in
theorem loop51 : ∀ x Kr Kx, Q51 x Kr Kx → ∃ n, untl (W Y9 Try.f51.ntmps (LTab.look L51) (bodyAt b51 3)) I51 [] o51 n x Kr Kx := by
  rintro ⟨r, n, o, x, c0, i0, u⟩ Kr Kx ⟨⟨h1, h2, ⟨A, h3⟩, h4, h5⟩, hK⟩
  have h1 : okR r := h1
  have h2 : numS.wfT n := h2
  have h3 : x = wordsN 4 (A * 2 ^ 256 % valN r.1) := h3
  have h4 : c0 = wordsN 4 (2 ^ 256 % valN r.1) := h4
  have h5 : i0 = IntKind.i64.wrap (((blen (valN n) : Nat) : Int) - 1) := h5
  have hK : Kx.1 (r, o, wordsN 4 (A ^ valN n * 2 ^ 256 % valN r.1), ()) := hK A h3
  obtain ⟨wm, hodd, hm1, _, hsq, _⟩ := h1
  have M2 : valN r.1 < 2 ^ 256 := lt4 wm
  have M0 : 0 < valN r.1 := by omega
  have N2 : valN n < 2 ^ 256 := lt4 h2
  have hb : blen (valN n) ≤ 256 := blen_le.2 N2
  have hx : valN x = A * 2 ^ 256 % valN r.1 := by
    have := Nat.mod_lt (A * 2 ^ 256) M0
    rw [h3, v4 (by omega)]
  have key : ∀ (k : Nat), k ≤ 256 → untl (W Y9 Try.f51.ntmps (LTab.look L51) (bodyAt b51 3)) I51 [] o51 (k + 1) (r, n, o, x, wordsN 4 (A ^ (valN n / 2 ^ k) * 2 ^ 256 % valN r.1), (k : Int) - 1, ()) Kr Kx := by
    intro k
    induction k with
    | zero =>
      intro _
      rw [untl_succ, round51]
      refine ifB_of (fun h => absurd (of_decide_eq_true h) (by omega)) (fun _ => ?_)
      rw [Nat.pow_zero, Nat.div_one]; exact hK
    | succ k ih =>
      intro hk
      rw [untl_succ, round51]
      have ih := ih (by omega)
      have e1 : ((k + 1 : Nat) : Int) - 1 = (k : Int) := by omega
      have e2 : IntKind.i64.wrap ((k : Int) - 1) = (k : Int) - 1 := IntWalk.i64_in _ (by omega)
      rw [e1, e2]
      refine ifB_of (fun _ => ⟨h1, ?_⟩) (fun h => absurd (of_decide_eq_false h) (by omega))
      have hdiv : valN n / 2 ^ k = 2 * (valN n / 2 ^ (k + 1)) + valN n / 2 ^ k % 2 := by
        rw [Nat.pow_succ, ← Nat.div_div_eq_div_mul]; omega
      have he := Nat.mod_lt (A ^ (valN n / 2 ^ (k + 1)) * 2 ^ 256) M0
      rw [v4 (Nat.lt_trans he M2)]
      have hp : A ^ (valN n / 2 ^ (k + 1)) * 2 ^ 256 % valN r.1 * (A ^ (valN n / 2 ^ (k + 1)) * 2 ^ 256 % valN r.1) < 2 ^ 256 * 2 ^ 256 := Nat.mul_lt_mul'' (Nat.lt_trans he M2) (Nat.lt_trans he M2)
      rw [v8 hp, out_mul hodd hm1 sq_mont, ← Nat.pow_add, ← Nat.two_mul]
      rw [hdiv] at ih
      rw [bit_in (by omega)]
      refine ifB_of (fun h => ⟨h1, ?_⟩) (fun h => ?_)
      · have hb1 : valN n / 2 ^ k % 2 = 1 := by
          have h := congrArg BitVec.toNat (of_decide_eq_true h)
          rw [BitVec.toNat_ofNat, show (1#64).toNat = 1 from rfl] at h
          omega
        rw [hb1, Nat.pow_succ] at ih
        have he2 := Nat.mod_lt (A ^ (2 * (valN n / 2 ^ (k + 1))) * 2 ^ 256) M0
        have hax := Nat.mod_lt (A * 2 ^ 256) M0
        rw [v4 (Nat.lt_trans he2 M2), hx]
        have hp2 : A ^ (2 * (valN n / 2 ^ (k + 1))) * 2 ^ 256 % valN r.1 * (A * 2 ^ 256 % valN r.1) < 2 ^ 256 * 2 ^ 256 := Nat.mul_lt_mul'' (Nat.lt_trans he2 M2) (Nat.lt_trans hax M2)
        rw [v8 hp2, out_mul hodd hm1 mul_mont]
        exact ih
      · have hb1 : valN n / 2 ^ k % 2 = 0 := by
          have : valN n / 2 ^ k % 2 < 2 := Nat.mod_lt _ (by omega)
          by_cases c : valN n / 2 ^ k % 2 = 1
          · rw [c] at h; exact absurd h (by decide)
          · omega
        rw [hb1, Nat.add_zero] at ih
        exact ih
  have h := key (blen (valN n)) hb
  have e0 : valN n / 2 ^ blen (valN n) = 0 := Nat.div_eq_of_lt (blen_le.1 (Nat.le_refl _))
  have e1 : IntKind.i64.wrap (((blen (valN n) : Nat) : Int) - 1) = ((blen (valN n) : Nat) : Int) - 1 := IntWalk.i64_in _ (by omega)
  rw [e0, Nat.pow_zero, Nat.one_mul, ← h4, ← e1, ← h5] at h
  exact ⟨_, h⟩
noncomputable def powRF : HA [.f ringS, .v numS, .v numS] → RT := fun xs => .pre (okR xs.1) (.ret (.av (.val numS (wordsN 4 (powN (valN xs.2.1) (valN xs.2.2.1) (valN xs.1.1))))))
theorem powR_ok : COK Try.prog noGl 51 (conA [.f ringS, .v numS, .v numS] powRF) := by
  refine conA_ok (fun xs hw hc => ?_) (fun _ => rfl)
  obtain ⟨r, a, n, ⟨⟩⟩ := xs
  have hc : okR r := hc.1
  have A2 : valN a < 2 ^ 256 := lt4 hw.2.1
  have wn : numS.wfT n := hw.2.2.1
  have eF : (powRF (r, a, n, PUnit.unit)).val = SV.av (.val numS (wordsN 4 (powN (valN a) (valN n) (valN r.1)))) := rfl
  rw [eF]
  refine PC_of_fw (t := L51) shR_ok ct9_ok mixed Try.func51 (c := b51) rfl (by kernel_rfl) (by kernel_rfl)
    (loopsOK (by kernel_rfl) (LTCons (loop_of shR_ok ct9_ok mixed (loopsOK (by kernel_rfl) (LTCons (noLoop (by kernel_rfl)) LTNil)) (by kernel_rfl) loop51) LTNil)) rfl ?_
  rw [show (PUnit.unit : HA []) = () from rfl, fw51]
  obtain ⟨wm, hodd, hm1, hone, hsq, _⟩ := id hc
  have M2 : valN r.1 < 2 ^ 256 := lt4 wm
  have M0 : 0 < valN r.1 := by omega
  refine ⟨hc, ⟨hc, wn, ⟨valN a, rfl⟩, hone, rfl⟩, fun A e => ⟨hc, ?_⟩⟩
  have e : wordsN 4 (valN a * 2 ^ 256 % valN r.1) = wordsN 4 (A * 2 ^ 256 % valN r.1) := e
  have l1 := Nat.mod_lt (valN a * 2 ^ 256) M0
  have l2 := Nat.mod_lt (A * 2 ^ 256) M0
  have e : valN a * 2 ^ 256 % valN r.1 = A * 2 ^ 256 % valN r.1 := by
    rw [← v4 (Nat.lt_trans l1 M2), ← v4 (Nat.lt_trans l2 M2), e]
  have e : valN a % valN r.1 = A % valN r.1 := by
    have x1 := out_mul hodd hm1 (X := valN a * 2 ^ 256) (Y := valN a) rfl
    have x2 := out_mul hodd hm1 (X := valN a * 2 ^ 256) (Y := A) e
    rw [← x1, x2]
  show SV.av (AV.val numS (wordsN 4 (outN (valN (wordsN 8 (valN (wordsN 4 (A ^ valN n * 2 ^ 256 % valN r.1)) + 0))) (valN r.1)))) = SV.av (.val numS (wordsN 4 (powN (valN a) (valN n) (valN r.1))))
  have l3 := Nat.mod_lt (A ^ valN n * 2 ^ 256) M0
  rw [v4 (Nat.lt_trans l3 M2), Nat.add_zero, v8 (lt5 (Nat.lt_trans l3 M2)), out_mul hodd hm1 (Y := A ^ valN n) (Nat.mod_mod _ _)]
  unfold powN
  rw [Nat.pow_mod, ← e, ← Nat.pow_mod]
noncomputable def ct10 : CTab := (47, conA [.f ringS, .v numS, .v numS] mulRF) :: (51, conA [.f ringS, .v numS, .v numS] powRF) :: ct9
theorem ct10_ok : ∀ p ∈ ct10, COK Try.prog noGl p.1 p.2 := CCons mulR_ok (CCons powR_ok ct9_ok)
noncomputable abbrev Y10 : Go.Ty.Cx := mkX Try.prog noGl shR ct10
end Go.Proofs.Ytninlahlmjhmhaa
