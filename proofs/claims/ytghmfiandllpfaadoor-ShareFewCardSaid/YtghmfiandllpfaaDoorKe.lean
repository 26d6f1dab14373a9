import Derived.Test.YtghmfiandllpfaaDoorB0
import Derived.Test.YtghmfiandllpfaaDoorKd
namespace Go.Proofs.YtghmfiandllpfaaDoor.Lb
open Go.Ty

noncomputable def modF : HL [wideS, numS] → SV := fun xs => .tup [.val numS (wordsN 4 (remN (valN xs.1) (valN xs.2.1))), .val i64S (errN (valN xs.2.1))]
theorem mod_ok : COK Tryd.prog GL 73 (conT [wideS, numS] modF) := by
  refine conT_ok (fun xs hw => ?_) (fun xs => rfl)
  obtain ⟨a, m, ⟨⟩⟩ := xs
  refine PC_of_fw (t := []) shU_ok ct2_ok mixed Tryd.func73 (c := Tryd.f73.body.getD .skip) rfl (by kernel_rfl) (by kernel_rfl) loopsNil rfl ?_
  have e : FW Y2 Tryd.f73.ntmps (LTab.look []) Tryd.f73 (argsOf [wideS, numS] (a, m, ())) (fun r' => r' = modF (a, m, ())) =
    (SV.tup [AV.val numS (wordsN 4 (remN (valN a) (valN m))), AV.val i64S (errN (valN m))] = modF (a, m, ())) := by kernel_rfl
  rw [e]; rfl
noncomputable def trueF : HL [] → SV := fun _ => .av (.val .bool true)
noncomputable def ct3 : CTab := (73, conT [wideS, numS] modF) :: ct2
theorem ct3_ok : ∀ p ∈ ct3, COK Tryd.prog GL p.1 p.2 := CCons mod_ok ct2_ok
noncomputable abbrev Y3 : Go.Ty.Cx := mkX Tryd.prog GL shU ct3
end Go.Proofs.YtghmfiandllpfaaDoor.Lb
namespace Go.Proofs.YtghmfiandllpfaaDoor.Lb
open Go.Ty

theorem pbool {b : Bool} (h : b = true) : SV.av (AV.val Sh.bool b) = SV.av (AV.val Sh.bool true) := by rw [h]
theorem v4 {n : Nat} (h : n < 2 ^ 256) : valN (wordsN 4 n) = n := by rw [valN_words]; exact Nat.mod_eq_of_lt h
theorem v4m {n : Nat} : valN (wordsN 4 n) = n % 2 ^ 256 := valN_words 4 n
theorem powa {k a b : Nat} (h : k = a + b) : 2 ^ k = 2 ^ a * 2 ^ b := by rw [h, Nat.pow_add]
theorem sq256 : 2 ^ (64 * 8) = 2 ^ 256 * 2 ^ 256 := by
  obtain ⟨k, hk⟩ : ∃ k : Nat, k = 64 * 8 := ⟨_, rfl⟩
  rw [← hk]
  exact powa hk
theorem v8 {n : Nat} (h : n < 2 ^ 256 * 2 ^ 256) : valN (wordsN 8 n) = n := by rw [valN_words, sq256]; exact Nat.mod_eq_of_lt h
theorem lt8 {xs : List (BitVec 64)} (h : wideS.wfT xs) : valN xs < 2 ^ 256 * 2 ^ 256 := by
  have h1 := valN_lt xs
  rw [show xs.length = 8 from h.1, sq256] at h1
  exact h1
theorem self4 {x : List (BitVec 64)} (h : numS.wfT x) : wordsN 4 (valN x) = x := by have := words_valN x; rw [show x.length = 4 from h.1] at this; exact this
theorem self8 {x : List (BitVec 64)} (h : wideS.wfT x) : wordsN 8 (valN x) = x := by have := words_valN x; rw [show x.length = 8 from h.1] at this; exact this
theorem teq_of {s : Sh} {x y : s.T} (h : x = y) : teq s x y = true := teq_iff.2 h
theorem teq_no {s : Sh} {x y : s.T} {p : Prop} (h : x = y) (h2 : teq s x y = false) : p := by rw [teq_of h] at h2; cases h2
theorem okwf4 {x : List (BitVec 64)} (h : Sh.okT numS x) : numS.wfT x := ⟨h.1, fun _ _ => trivial⟩
theorem okwf8 {x : List (BitVec 64)} (h : Sh.okT wideS x) : wideS.wfT x := ⟨h.1, fun _ _ => trivial⟩
theorem errN_zero : errN 0 = 1 := by simp [errN]
/-- the remainder is below, or there is none -/
theorem mpos {m : List (BitVec 64)} (hm : numS.wfT m) (h : teq numS m [0#64, 0#64, 0#64, 0#64] = false) : 0 < valN m := by
  refine Nat.pos_of_ne_zero fun e => ?_
  exact teq_no ((val_z4 hm).1 e) h

end Go.Proofs.YtghmfiandllpfaaDoor.Lb
namespace Go.Proofs.YtghmfiandllpfaaDoor.Lb
open Go.Ty

/-! ## divides -/
theorem wz4 : wordsN 4 0 = [0#64, 0#64, 0#64, 0#64] := by rw [wordsN_eq]; decide
theorem teq_z {n : Nat} (h : n < 2 ^ 256) : teq (Sh.arr 4 (Sh.int IntKind.u64)) (wordsN 4 n) [0#64, 0#64, 0#64, 0#64] = decide (n = 0) := by
  by_cases e : n = 0
  · subst e; rw [decide_eq_true rfl]; exact teq_of (by rw [wordsN_eq]; decide)
  · rw [decide_eq_false e]
    refine Bool.eq_false_iff.2 fun h2 => e ?_
    have h2 : wordsN 4 n = [0#64, 0#64, 0#64, 0#64] := teq_iff.1 h2
    have := v4 h
    rw [h2] at this
    exact this.symm
theorem lt5 {A : Nat} (h : A < 2 ^ 256) : A < 2 ^ 256 * 2 ^ 256 := by omega
noncomputable def invN (a m : Nat) : Nat := open Classical in if h : ∃ x, x < m ∧ a * x % m = 1 then Classical.choose h else 0
def invE (a m : Nat) : Int := bif decide (m = 0) then 1 else bif decide (m = 1) then 0 else bif decide (Nat.gcd a m = 1) then 0 else 6
theorem inv_only {a m x y : Nat} (hx : x < m) (hy : y < m) (ex : a * x % m = 1) (ey : a * y % m = 1) : x = y := by
  have h1 : x * (a * y) % m = x := by rw [Nat.mul_mod, ey, Nat.mul_one, Nat.mod_mod, Nat.mod_eq_of_lt hx]
  have h2 : y * (a * x) % m = y := by rw [Nat.mul_mod, ex, Nat.mul_one, Nat.mod_mod, Nat.mod_eq_of_lt hy]
  have e : x * (a * y) = y * (a * x) := by rw [Nat.mul_left_comm x a y, Nat.mul_left_comm y a x, Nat.mul_comm x y]
  rw [e] at h1
  exact h1.symm.trans h2
theorem invN_eq {a m x : Nat} (hx : x < m) (ex : a * x % m = 1) : invN a m = x := by
  have h : ∃ x, x < m ∧ a * x % m = 1 := ⟨x, hx, ex⟩
  unfold invN
  rw [dif_pos h]
  obtain ⟨h1, h2⟩ := Classical.choose_spec h
  exact inv_only h1 hx h2 ex
theorem gcd_of_inv {a m x : Nat} (ex : a * x % m = 1) : Nat.gcd a m = 1 := by
  have h1 : Nat.gcd a m ∣ a * x % m := (Nat.dvd_mod_iff (Nat.gcd_dvd_right a m)).2 (Nat.dvd_trans (Nat.gcd_dvd_left a m) (Nat.dvd_mul_right a x))
  rw [ex] at h1
  exact Nat.dvd_one.1 h1
theorem invN_none {a m : Nat} (h : Nat.gcd a m ≠ 1) : invN a m = 0 := by
  unfold invN
  rw [dif_neg]
  rintro ⟨x, _, ex⟩
  exact h (gcd_of_inv ex)
theorem invN_one {a : Nat} : invN a 1 = 0 := by
  unfold invN
  rw [dif_neg]
  rintro ⟨x, hx, ex⟩
  rw [Nat.mod_one] at ex; cases ex
abbrev I42 : List It := [.p 3 2000 numS, .p 4 2001 numS, .p 6 2002 numS, .p 9 2003 numS, .p 10 2004 numS, .p 11 2005 numS, .p 12 2006 numS]
abbrev o42 : List (Nat × List It) := [(0, I42)]
noncomputable def b42 : Code := Tryd.f52.body.getD .skip
noncomputable def Q42 : LQ I42 [] o42 := fun x _ Kx => (numS.wfT x.1 ∧ x.2.2.1 = [0#64, 0#64, 0#64, 0#64] ∧ numS.wfT x.2.2.2.1 ∧ numS.wfT x.2.2.2.2.1 ∧ numS.wfT x.2.2.2.2.2.1 ∧ numS.wfT x.2.2.2.2.2.2.1 ∧
    valN x.2.2.2.2.2.1 < valN x.1 ∧ valN x.2.2.2.2.2.2.1 < valN x.1) ∧
  ∀ (r0 r1 s0 s1 : List (BitVec 64)), numS.wfT r0 → numS.wfT s0 → valN r0 = Nat.gcd (valN x.2.2.2.1) (valN x.2.2.2.2.1) → valN s0 < valN x.1 →
    (∀ A : Nat, ((valN x.1 : Nat) : Int) ∣ (valN x.2.2.2.2.2.1 : Int) * A - valN x.2.2.2.1 → ((valN x.1 : Nat) : Int) ∣ (valN x.2.2.2.2.2.2.1 : Int) * A - valN x.2.2.2.2.1 → ((valN x.1 : Nat) : Int) ∣ (valN s0 : Int) * A - valN r0) →
    Kx.1 (x.1, x.2.1, x.2.2.1, r0, r1, s0, s1, ())
noncomputable abbrev L42 : LTab := [(8, ptL I42 [] o42 Q42)]
theorem round42 (m o z r0 r1 s0 s1 : List (BitVec 64)) (Kn : HI I42 → Prop) (Kr : HI [] → Prop) (Kx : HP o42) : roundT (W Y3 Tryd.f52.ntmps (LTab.look L42) (bodyAt b42 8)) I42 [] o42 (m, o, z, r0, r1, s0, s1, ()) Kn Kr Kx =
  ifB (!teq (Sh.arr 4 (Sh.int IntKind.u64)) r1 z)
    (ifB
      (decide
        ((bif
              decide
                (valN s0 <
                  valN
                    (wordsN 4
                      (remN
                        (valN
                          (wordsN 8
                            (valN
                                (wordsN 4
                                  (valN
                                    (wordsN 8
                                      (valN
                                          (wordsN 8
                                            (valN r0 +
                                              (2 ^ 256) *
                                                valN z)) /
                                        valN r1)))) *
                              valN s1)))
                        (valN m)))) then
            1#64
          else 0#64) =
          1#64))
      (Kn
        (m, o, z, r1,
          wordsN 4
            (remN
              (valN
                (wordsN 8
                  (valN r0 + (2 ^ 256) * valN z)))
              (valN r1)),
          s1,
          wordsN 4
            (valN
                (wordsN 4
                  (valN s0 + (2 ^ 256) -
                    valN
                      (wordsN 4
                        (remN
                          (valN
                            (wordsN 8
                              (valN
                                  (wordsN 4
                                    (valN
                                      (wordsN 8
                                        (valN
                                            (wordsN 8
                                              (valN r0 +
                                                (2 ^ 256) *
                                                  valN z)) /
                                          valN r1)))) *
                                valN s1)))
                          (valN m))))) +
              valN m),
          PUnit.unit))
      (Kn
        (m, o, z, r1,
          wordsN 4
            (remN
              (valN
                (wordsN 8
                  (valN r0 + (2 ^ 256) * valN z)))
              (valN r1)),
          s1,
          wordsN 4
            (valN s0 + (2 ^ 256) -
              valN
                (wordsN 4
                  (remN
                    (valN
                      (wordsN 8
                        (valN
                            (wordsN 4
                              (valN
                                (wordsN 8
                                  (valN
                                      (wordsN 8
                                        (valN r0 +
                                          (2 ^ 256) *
                                            valN z)) /
                                    valN r1)))) *
                          valN s1)))
                    (valN m)))),
          PUnit.unit)))
    (Kx.1 (m, o, z, r0, r1, s0, s1, PUnit.unit)) := by kernel_rfl
theorem fw42 (a : Sh.T (numS)) (m : Sh.T (numS)) (P : SV → Prop) : FW Y3 Tryd.f52.ntmps (LTab.look L42) Tryd.f52 (argsOf [numS, numS] (a, m, ())) P =
  ifB (!decide (errN (valN m) = 0))
    (P
      (SV.tup
        [AV.val (Sh.arr 4 (Sh.int IntKind.u64)) [0#64, 0#64, 0#64, 0#64], AV.val (Sh.int IntKind.i64) (errN (valN m))]))
    (ifB (teq (Sh.arr 4 (Sh.int IntKind.u64)) m [1#64, 0#64, 0#64, 0#64])
      (P (SV.tup [AV.val (Sh.arr 4 (Sh.int IntKind.u64)) [0#64, 0#64, 0#64, 0#64], AV.val (Sh.int IntKind.i64) 0]))
      (Q42
        (m, [0#64, 0#64, 0#64, 0#64], [0#64, 0#64, 0#64, 0#64], m,
          wordsN 4 (remN (valN (wordsN 8 (valN a + 0))) (valN m)), [0#64, 0#64, 0#64, 0#64], [1#64, 0#64, 0#64, 0#64],
          PUnit.unit)
        (fun _ => False)
        (fun y =>
          ifB (!teq (Sh.arr 4 (Sh.int IntKind.u64)) y.2.2.2.1 [1#64, 0#64, 0#64, 0#64])
            (P (SV.tup [AV.val (Sh.arr 4 (Sh.int IntKind.u64)) y.2.2.1, AV.val (Sh.int IntKind.i64) 6]))
            (P (SV.tup [AV.val (Sh.arr 4 (Sh.int IntKind.u64)) y.2.2.2.2.2.1, AV.val (Sh.int IntKind.i64) 0])),
          PUnit.unit))) := by kernel_rfl

theorem bez_step {s off S0 q S1 R0 R1 r A M : Int} (h1 : M ∣ s + off - S0) (h2 : M ∣ off - q*S1) (h3 : M ∣ S0*A-R0) (h4 : M ∣ S1*A-R1) (h5 : R0 = q*R1 + r) : M ∣ s*A - r := by
  have : s*A - r = (s + off - S0) * A - (off - q*S1)*A + (S0*A-R0) - (S1*A-R1)*q := by grind
  rw [this]
  exact Int.dvd_sub (Int.dvd_add (Int.dvd_sub (Int.dvd_mul_of_dvd_left h1) (Int.dvd_mul_of_dvd_left h2)) h3) (Int.dvd_mul_of_dvd_left h4)
theorem dvd_mod {a m : Nat} : (m : Int) ∣ ((a % m : Nat) : Int) - a := by
  have h := Nat.div_add_mod a m
  refine ⟨-((a / m : Nat) : Int), ?_⟩
  rw [Int.mul_neg, ← Int.natCast_mul]; omega
theorem dvd_eq {a b m : Nat} (hb : b < m) (h : (m : Int) ∣ (a : Int) - b) : a % m = b := by
  have h1 := Int.emod_eq_emod_iff_emod_sub_eq_zero.2 (Int.emod_eq_zero_of_dvd h)
  rw [← Int.natCast_emod, ← Int.natCast_emod, Nat.mod_eq_of_lt hb] at h1
  omega
set_option maxRecDepth 100000 in
theorem loop42 : ∀ x Kr Kx, Q42 x Kr Kx → ∃ n, untl (W Y3 Tryd.f52.ntmps (LTab.look L42) (bodyAt b42 8)) I42 [] o42 n x Kr Kx := by
  rintro ⟨m, o, z, R0, R1, S0, S1, u⟩ Kr Kx ⟨⟨wm, hz, w1, w2, w3, w4, l3, l4⟩, hK⟩
  have hz : z = [0#64, 0#64, 0#64, 0#64] := hz
  have wm : numS.wfT m := wm
  have l3 : valN S0 < valN m := l3
  have l4 : valN S1 < valN m := l4
  have M2 := lt4 wm
  have z0 : valN z = 0 := by rw [hz]; rfl
  have key : ∀ (k : Nat) (r0 r1 s0 s1 : List (BitVec 64)), valN r1 ≤ k → numS.wfT r0 → numS.wfT r1 → numS.wfT s0 → numS.wfT s1 → valN s0 < valN m → valN s1 < valN m → Nat.gcd (valN r0) (valN r1) = Nat.gcd (valN R0) (valN R1) →
      (∀ A : Nat, ((valN m : Nat) : Int) ∣ (valN S0 : Int) * A - valN R0 → ((valN m : Nat) : Int) ∣ (valN S1 : Int) * A - valN R1 → ((valN m : Nat) : Int) ∣ (valN s0 : Int) * A - valN r0 ∧ ((valN m : Nat) : Int) ∣ (valN s1 : Int) * A - valN r1) →
      untl (W Y3 Tryd.f52.ntmps (LTab.look L42) (bodyAt b42 8)) I42 [] o42 (k + 1) (m, o, z, r0, r1, s0, s1, ()) Kr Kx := by
    intro k
    induction k with
    | zero =>
      intro r0 r1 s0 s1 hk v1 v2 v3 v4' k3 k4 hg hA
      rw [untl_succ, round42]
      have e : r1 = z := by rw [hz]; exact (val_z4 v2).1 (by omega)
      refine ifB_of (fun h => ?_) (fun _ => ?_)
      · rw [show teq (Sh.arr 4 (Sh.int IntKind.u64)) r1 z = true from teq_of e] at h; cases h
      · have e0 : valN r1 = 0 := by omega
        rw [e0, Nat.gcd_zero_right] at hg
        exact hK r0 r1 s0 s1 v1 v3 hg k3 fun A a b => (hA A a b).1
    | succ k ih =>
      intro r0 r1 s0 s1 hk v1 v2 v3 v4' k3 k4 hg hA
      rw [untl_succ, round42]
      refine ifB_of (fun h => ?_) (fun h => ?_)
      · have e : valN r1 ≠ 0 := fun e => by
          have e2 := (val_z4 v2).1 e
          have : teq (Sh.arr 4 (Sh.int IntKind.u64)) r1 z = true := teq_of (by rw [hz]; exact e2)
          rw [this] at h; cases h
        clear h
        have P0 : 0 < valN r1 := by omega
        have b0 := lt4 v1
        have b1 := lt4 v2
        have c0 := lt4 v3
        have c1 := lt4 v4'
        have hq : valN r0 / valN r1 < 2 ^ 256 := Nat.lt_of_le_of_lt (Nat.div_le_self _ _) b0
        have hr := Nat.mod_lt (valN r0) P0
        have hp : valN r0 / valN r1 * valN s1 < 2 ^ 256 * 2 ^ 256 := Nat.mul_lt_mul'' hq c1
        have M0 : 0 < valN m := by omega
        have ho := Nat.mod_lt (valN r0 / valN r1 * valN s1) M0
        have hd := Nat.div_add_mod (valN r0) (valN r1)
        rw [z0, Nat.mul_zero, Nat.add_zero, v8 (lt5 b0), v8 (lt5 hq), v4 hq, v8 hp, remN_pos M0, remN_pos P0, v4 (n := _ % valN m) (by omega)]
        have hg' : Nat.gcd (valN r1) (valN r0 % valN r1) = Nat.gcd (valN R0) (valN R1) := by rw [← hg, Nat.gcd_comm (valN r0), Nat.gcd_rec (valN r1) (valN r0), Nat.gcd_comm]
        have d2 : ((valN m : Nat) : Int) ∣ ((valN r0 / valN r1 * valN s1 % valN m : Nat) : Int) - ((valN r0 / valN r1 : Nat) : Int) * valN s1 := by rw [← Int.natCast_mul]; exact dvd_mod
        have d5 : (valN r0 : Int) = ((valN r0 / valN r1 : Nat) : Int) * valN r1 + ((valN r0 % valN r1 : Nat) : Int) := by
          rw [← Int.natCast_mul, Nat.mul_comm]; omega
        have vr : valN (wordsN 4 (valN r0 % valN r1)) = valN r0 % valN r1 := v4 (by omega)
        have fin : ∀ s : Nat, s < valN m → ((valN m : Nat) : Int) ∣ (s : Int) + ((valN r0 / valN r1 * valN s1 % valN m : Nat) : Int) - valN s0 →
            untl (W Y3 Tryd.f52.ntmps (LTab.look L42) (bodyAt b42 8)) I42 [] o42 (k + 1) (m, o, z, r1, wordsN 4 (valN r0 % valN r1), s1, wordsN 4 s, ()) Kr Kx := by
          intro s hs d1
          have vs : valN (wordsN 4 s) = s := v4 (by omega)
          refine ih _ _ _ _ (by rw [vr]; omega) v2 (num_wf _) v4' (num_wf _) k4 (by rw [vs]; exact hs) (by rw [vr]; exact hg') (fun A a b => ⟨(hA A a b).2, ?_⟩)
          rw [vr, vs]
          exact bez_step d1 d2 (hA A a b).1 (hA A a b).2 d5
        generalize valN r0 / valN r1 * valN s1 % valN m = off at *
        refine ifB_of (fun h => ?_) (fun h => ?_)
        · have hlt : valN s0 < off := by
            by_cases c : valN s0 < off
            · exact c
            · rw [decide_eq_false c] at h; exact absurd h (by decide)
          rw [v4 (n := valN s0 + 2 ^ 256 - off) (by omega)]
          have e : wordsN 4 (valN s0 + 2 ^ 256 - off + valN m) = wordsN 4 (valN s0 + valN m - off) := by
            rw [show valN s0 + 2 ^ 256 - off + valN m = valN s0 + valN m - off + 2 ^ 256 by omega]
            exact words_eq (by rw [show 64 * 4 = 256 from rfl, Nat.add_mod_right])
          rw [e]
          refine fin _ (by omega) ⟨1, by omega⟩
        · have hge : off ≤ valN s0 := by
            by_cases c : valN s0 < off
            · rw [decide_eq_true c] at h; exact absurd h (by decide)
            · omega
          have e : wordsN 4 (valN s0 + 2 ^ 256 - off) = wordsN 4 (valN s0 - off) := by
            rw [show valN s0 + 2 ^ 256 - off = valN s0 - off + 2 ^ 256 by omega]
            exact words_eq (by rw [show 64 * 4 = 256 from rfl, Nat.add_mod_right])
          rw [e]
          refine fin _ (by omega) ⟨0, by omega⟩
      · have e : r1 = z := teq_iff.1 (by simpa using h)
        have e0 : valN r1 = 0 := by rw [e, z0]
        rw [e0, Nat.gcd_zero_right] at hg
        exact hK r0 r1 s0 s1 v1 v3 hg k3 fun A a b => (hA A a b).1
  exact ⟨_, key (valN R1) R0 R1 S0 S1 (Nat.le_refl _) w1 w2 w3 w4 l3 l4 rfl fun A a b => ⟨a, b⟩⟩

noncomputable def inverseF : HL [numS, numS] → SV := fun xs => .tup [.val numS (wordsN 4 (invN (valN xs.1) (valN xs.2.1))), .val i64S (invE (valN xs.1) (valN xs.2.1))]
theorem one4 {m : List (BitVec 64)} (h : numS.wfT m) : valN m = 1 ↔ m = [1#64, 0#64, 0#64, 0#64] := by
  constructor
  · intro e; exact valN_inj h.1 rfl e
  · rintro rfl; rfl
theorem inverse_ok : COK Tryd.prog GL 52 (conT [numS, numS] inverseF) := by
  refine conT_ok (fun xs hw => ?_) (fun xs => rfl)
  obtain ⟨a, m, ⟨⟩⟩ := xs
  have wa : numS.wfT a := hw.1
  have wm : numS.wfT m := hw.2.1
  have A2 := lt4 wa
  have M2 := lt4 wm
  refine PC_of_fw (t := L42) shU_ok ct3_ok mixed Tryd.func52 (c := b42) rfl (by kernel_rfl) (by kernel_rfl) (loopsOK (by kernel_rfl) (LTCons (loop_of shU_ok ct3_ok mixed (loopsOK (by kernel_rfl) (LTCons (noLoop (by kernel_rfl)) LTNil)) (by kernel_rfl) loop42) LTNil)) rfl ?_
  rw [fw42]
  have eF : inverseF (a, m, PUnit.unit) = SV.tup [.val numS (wordsN 4 (invN (valN a) (valN m))), .val i64S (invE (valN a) (valN m))] := rfl
  rw [eF, Nat.add_zero, v8 (lt5 A2)]
  refine ifB_of (fun h => ?_) (fun h => ?_)
  · have e : valN m = 0 := by
      refine Nat.eq_zero_of_not_pos fun h0 => ?_
      rw [errN_pos h0] at h; exact absurd h (by decide)
    have e2 : invN (valN a) 0 = 0 := by unfold invN; rw [dif_neg]; rintro ⟨x, hx, _⟩; omega
    rw [e, e2, wz4]; rfl
  · have M0 : 0 < valN m := by
      refine Nat.pos_of_ne_zero fun e => ?_
      rw [e, errN_zero] at h; exact absurd h (by decide)
    clear h
    refine ifB_of (fun h => ?_) (fun h => ?_)
    · have h : m = [1#64, 0#64, 0#64, 0#64] := teq_iff.1 h
      have e := (one4 wm).2 h
      rw [e, invN_one, wz4]; rfl
    · have h1 : valN m ≠ 1 := fun e => by
        rw [show teq (Sh.arr 4 (Sh.int IntKind.u64)) m [1#64, 0#64, 0#64, 0#64] = true from teq_of ((one4 wm).1 e)] at h; cases h
      rw [remN_pos M0]
      have hr := Nat.mod_lt (valN a) M0
      have vr : valN (wordsN 4 (valN a % valN m)) = valN a % valN m := v4 (by omega)
      refine ⟨⟨wm, rfl, wm, num_wf _, by exact ⟨rfl, fun _ _ => trivial⟩, ⟨rfl, fun _ _ => trivial⟩, M0, show 1 < valN m by omega⟩, fun r0 r1 s0 s1 w1 w2 eg hs hA => ?_⟩
      have eg : valN r0 = Nat.gcd (valN m) (valN (wordsN 4 (valN a % valN m))) := eg
      have hs : valN s0 < valN m := hs
      have hA : ∀ A : Nat, ((valN m : Nat) : Int) ∣ (((0 : Nat) : Int)) * A - valN m → ((valN m : Nat) : Int) ∣ (((1 : Nat) : Int)) * A - valN (wordsN 4 (valN a % valN m)) → ((valN m : Nat) : Int) ∣ (valN s0 : Int) * A - valN r0 := hA
      rw [vr] at eg hA
      have eg : valN r0 = Nat.gcd (valN a) (valN m) := by rw [eg, Nat.gcd_comm, ← Nat.gcd_rec, Nat.gcd_comm]
      show ifB (!teq (Sh.arr 4 (Sh.int IntKind.u64)) r0 [1#64, 0#64, 0#64, 0#64]) (SV.tup [.val numS [0#64, 0#64, 0#64, 0#64], .val i64S 6] = SV.tup [.val numS (wordsN 4 (invN (valN a) (valN m))), .val i64S (invE (valN a) (valN m))])
        (SV.tup [.val numS s0, .val i64S 0] = SV.tup [.val numS (wordsN 4 (invN (valN a) (valN m))), .val i64S (invE (valN a) (valN m))])
      have eE : invE (valN a) (valN m) = bif decide (Nat.gcd (valN a) (valN m) = 1) then 0 else 6 := by
        unfold invE; rw [decide_eq_false h1, decide_eq_false (by omega)]; rfl
      rw [eE]
      refine ifB_of (fun h => ?_) (fun h => ?_)
      · have hg : Nat.gcd (valN a) (valN m) ≠ 1 := fun e => by
          rw [show teq (Sh.arr 4 (Sh.int IntKind.u64)) r0 [1#64, 0#64, 0#64, 0#64] = true from teq_of ((one4 w1).1 (eg.trans e))] at h; cases h
        rw [invN_none hg, decide_eq_false hg, wz4]; rfl
      · have h : r0 = [1#64, 0#64, 0#64, 0#64] := teq_iff.1 (by simpa using h)
        have hg : Nat.gcd (valN a) (valN m) = 1 := by rw [← eg]; exact (one4 w1).2 h
        have e1 := hA (valN a) ⟨-1, by omega⟩ (by
          have := dvd_mod (a := valN a) (m := valN m)
          have e : ((1 : Nat) : Int) * (valN a : Int) - ((valN a % valN m : Nat) : Int) = -(((valN a % valN m : Nat) : Int) - valN a) := by omega
          rw [e]; exact (Int.dvd_neg).2 this)
        rw [eg, hg, ← Int.natCast_mul] at e1
        have e2 := dvd_eq (b := 1) (by omega) e1
        rw [Nat.mul_comm] at e2
        rw [invN_eq hs e2, decide_eq_true hg, self4 w2]; rfl
end Go.Proofs.YtghmfiandllpfaaDoor.Lb
namespace Go.Proofs.YtghmfiandllpfaaDoor.Lb
open Go.Ty

/-! ## Words that are added and multiplied -/
noncomputable def add64F : HA [.v u64S, .v u64S, .v u64S] → RT := fun xs => .dem (Nat.ble (BitVec.toNat xs.2.2.1) 1) (.ret (.tup [.val u64S (BitVec.ofNat 64 (BitVec.toNat xs.1 + BitVec.toNat xs.2.1 + BitVec.toNat xs.2.2.1)), .val u64S (BitVec.ofNat 64 ((BitVec.toNat xs.1 + BitVec.toNat xs.2.1 + BitVec.toNat xs.2.2.1) / 2 ^ 64))]))
noncomputable def mul64F : HA [.v u64S, .v u64S] → RT := fun xs => .ret (.tup [.val u64S (BitVec.ofNat 64 (BitVec.toNat xs.1 * BitVec.toNat xs.2.1 / 2 ^ 64)), .val u64S (BitVec.ofNat 64 (BitVec.toNat xs.1 * BitVec.toNat xs.2.1))])
theorem flat_ofNat (n : Nat) : flatV u64S (BitVec.ofNat 64 n) = u64 (n % 2 ^ 64) := by
  show Value.int .u64 ((BitVec.ofNat 64 n).toNat : Int) = _
  rw [BitVec.toNat_ofNat]
theorem add64_ok : COK Tryd.prog GL 68 (conA [.v u64S, .v u64S, .v u64S] add64F) := by
  refine conA_ok (fun xs _ hc => ?_) (fun _ => rfl)
  obtain ⟨x, y, c, ⟨⟩⟩ := xs
  have hc : Nat.ble (BitVec.toNat c) 1 = true := hc.1
  have hc := Nat.le_of_ble_eq_true hc
  have hx := BitVec.isLt x
  have hy := BitVec.isLt y
  refine PC_of_wcon (ss := [u64S, u64S, u64S]) (xs := (x, y, c, ())) add64_con rfl (ok2 ⟨rfl, trivial⟩ ⟨rfl, trivial⟩) rfl ?_
  have hb : (((BitVec.toNat c : Nat) : Int) == 0 || ((BitVec.toNat c : Nat) : Int) == 1) = true := by
    have : BitVec.toNat c = 0 ∨ BitVec.toNat c = 1 := by omega
    rcases this with e | e <;> rw [e] <;> rfl
  show (bif (((BitVec.toNat c : Nat) : Int) == 0 || ((BitVec.toNat c : Nat) : Int) == 1) then some (Value.tuple ⟨[u64 ((BitVec.toNat x + BitVec.toNat y + BitVec.toNat c) % 2 ^ 64), u64 ((BitVec.toNat x + BitVec.toNat y + BitVec.toNat c) / 2 ^ 64)]⟩) else none) =
    some (.tuple ⟨[flatV u64S (BitVec.ofNat 64 (BitVec.toNat x + BitVec.toNat y + BitVec.toNat c)), flatV u64S (BitVec.ofNat 64 ((BitVec.toNat x + BitVec.toNat y + BitVec.toNat c) / 2 ^ 64))]⟩)
  rw [hb, flat_ofNat, flat_u64 _ (by omega)]; rfl
theorem mul64_ok : COK Tryd.prog GL 93 (conA [.v u64S, .v u64S] mul64F) := by
  refine conA_ok (fun xs _ hc => ?_) (fun _ => rfl)
  obtain ⟨x, y, ⟨⟩⟩ := xs
  have hx := BitVec.isLt x
  have hy := BitVec.isLt y
  have hxy : BitVec.toNat x * BitVec.toNat y < 2 ^ 64 * 2 ^ 64 := Nat.mul_lt_mul'' hx hy
  refine PC_of_wcon (ss := [u64S, u64S]) (xs := (x, y, ())) mul64_con rfl (ok2 ⟨rfl, trivial⟩ ⟨rfl, trivial⟩) rfl ?_
  show some (Value.tuple ⟨[u64 (BitVec.toNat x * BitVec.toNat y / 2 ^ 64), u64 (BitVec.toNat x * BitVec.toNat y % 2 ^ 64)]⟩) =
    some (.tuple ⟨[flatV u64S (BitVec.ofNat 64 (BitVec.toNat x * BitVec.toNat y / 2 ^ 64)), flatV u64S (BitVec.ofNat 64 (BitVec.toNat x * BitVec.toNat y))]⟩)
  rw [flat_ofNat, flat_ofNat, Nat.mod_eq_of_lt (show BitVec.toNat x * BitVec.toNat y / 2 ^ 64 < 2 ^ 64 by omega)]

/-! ## The ring -/
end Go.Proofs.YtghmfiandllpfaaDoor.Lb
