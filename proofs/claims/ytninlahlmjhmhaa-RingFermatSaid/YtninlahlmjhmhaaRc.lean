import Derived.Test.YtninlahlmjhmhaaRb
namespace Go.Proofs.Ytninlahlmjhmhaa
open Go.Ty

/-! ## Out -/
abbrev I8 : List It := [.f 0 ringS, .p 3 2000 wideS, .p 4 2001 numS, .v 5 u64S, .v 6 i64S, .v 7 u64S, .v 8 u64S, .v 16 i64S, .v 30 numS, .v 31 i64S]
abbrev I18 : List It := [.f 0 ringS, .p 3 2000 wideS, .p 4 2001 numS, .v 5 u64S, .v 6 i64S, .v 8 u64S, .v 14 i64S, .v 16 i64S]
abbrev I3 : List It := [.f 0 ringS, .p 3 2000 wideS, .p 4 2001 numS, .v 5 u64S, .v 16 i64S]
abbrev o8 : List (Nat × List It) := [(2, [.f 0 ringS, .p 3 2000 wideS, .p 4 2001 numS, .v 5 u64S, .v 6 i64S, .v 8 u64S, .v 16 i64S])]
abbrev o18 : List (Nat × List It) := [(4, [.f 0 ringS, .p 3 2000 wideS, .p 4 2001 numS, .v 5 u64S, .v 8 u64S, .v 16 i64S])]
abbrev o3 : List (Nat × List It) := [(0, [.f 0 ringS, .p 3 2000 wideS, .p 4 2001 numS, .v 5 u64S])]
noncomputable def b45 : Code := Try.f45.body.getD .skip
def Q8 : LQ I8 [] o8 := fun x _ Kx => (∃ n : Nat, n < 4 ∧ x.2.2.2.2.1 = (n : Int) ∧ wideS.wfT x.2.1 ∧ numS.wfT x.2.2.2.2.2.2.2.2.1 ∧ x.2.2.2.2.2.2.1 = 0#64 ∧ x.2.2.2.2.2.2.2.2.2.1 = 0) ∧
  ∀ (n : Nat) (t : List (BitVec 64)) (c : BitVec 64), x.2.2.2.2.1 = (n : Int) → wideS.wfT t → valN t + 2 ^ (64 * n) * 2 ^ 256 * c.toNat = valN x.2.1 + 2 ^ (64 * n) * (BitVec.toNat x.2.2.2.2.2.1 * valN x.2.2.2.2.2.2.2.2.1) →
    Kx.1 (x.1, t, x.2.2.1, x.2.2.2.1, x.2.2.2.2.1, c, x.2.2.2.2.2.2.2.1, ())
def Q18 : LQ I18 [] o18 := fun x _ Kx => (∃ n : Nat, n ≤ 8 ∧ x.2.2.2.2.2.2.1 = (n : Int) ∧ wideS.wfT x.2.1) ∧
  ∀ (n : Nat) (t : List (BitVec 64)) (c : BitVec 64), x.2.2.2.2.2.2.1 = (n : Int) → wideS.wfT t → valN t + 2 ^ 256 * 2 ^ 256 * c.toNat = valN x.2.1 + 2 ^ (64 * n) * BitVec.toNat x.2.2.2.2.2.1 →
    Kx.1 (x.1, t, x.2.2.1, x.2.2.2.1, c, x.2.2.2.2.2.2.2.1, ())
def Q3 : LQ I3 [] o3 := fun x _ Kx => (okR x.1 ∧ wideS.wfT x.2.1 ∧ x.2.2.2.1 = 0#64 ∧ x.2.2.2.2.1 = 0) ∧
  ∀ (t : List (BitVec 64)) (ov : BitVec 64) (K : Nat), wideS.wfT t → K < 2 ^ 256 → valN t + 2 ^ 256 * 2 ^ 256 * ov.toNat = valN x.2.1 + K * valN x.1.1 → valN t % 2 ^ 256 = 0 →
    Kx.1 (x.1, t, x.2.2.1, ov, ())
noncomputable abbrev L45 : LTab := [(3, ptL I3 [] o3 Q3), (8, ptL I8 [] o8 Q8), (18, ptL I18 [] o18 Q18)]
theorem round8 (r : RingT) (t o : List (BitVec 64)) (ov : BitVec 64) (i : Int) (k c : BitVec 64) (i' : Int) (m : List (BitVec 64)) (j : Int) (Kn : HI I8 → Prop) (Kr : HI [] → Prop) (Kx : HP o8) : roundT (W Y7 Try.f45.ntmps (LTab.look L45) (bodyAt b45 8)) I8 [] o8 (r, t, o, ov, i, k, c, i', m, j, ()) Kn Kr Kx =
  ifB (decide (j < 4))
    (dmd (decide (0 ≤ j) && decide (j < 4))
      (dmd (decide (0 ≤ IntKind.i64.wrap (i + j)) && decide (IntKind.i64.wrap (i + j) < 8))
        (dmd (decide (0 ≤ IntKind.i64.wrap (i + j)) && decide (IntKind.i64.wrap (i + j) < 8))
          (Kn
            (r,
              t.set (IntKind.i64.wrap (i + j)).toNat
                (BitVec.ofNat 64
                  ((BitVec.ofNat 64
                          ((BitVec.ofNat 64 (k.toNat * BitVec.toNat (rd (Sh.int IntKind.u64) m j.toNat))).toNat +
                              BitVec.toNat (rd (Sh.int IntKind.u64) t (IntKind.i64.wrap (i + j)).toNat) +
                            0)).toNat +
                      c.toNat +
                    0)),
              o, ov, i, k,
              BitVec.ofNat 64 (k.toNat * BitVec.toNat (rd (Sh.int IntKind.u64) m j.toNat) / (2 ^ 64)) +
                  BitVec.ofNat 64
                    (((BitVec.ofNat 64 (k.toNat * BitVec.toNat (rd (Sh.int IntKind.u64) m j.toNat))).toNat +
                          BitVec.toNat (rd (Sh.int IntKind.u64) t (IntKind.i64.wrap (i + j)).toNat) +
                        0) /
                      (2 ^ 64)) +
                BitVec.ofNat 64
                  (((BitVec.ofNat 64
                            ((BitVec.ofNat 64 (k.toNat * BitVec.toNat (rd (Sh.int IntKind.u64) m j.toNat))).toNat +
                                BitVec.toNat (rd (Sh.int IntKind.u64) t (IntKind.i64.wrap (i + j)).toNat) +
                              0)).toNat +
                        c.toNat +
                      0) /
                    (2 ^ 64)),
              i', m, IntKind.i64.wrap (j + 1), PUnit.unit)))))
    (Kx.1 (r, t, o, ov, i, c, i', PUnit.unit)) := by kernel_rfl
theorem round18 (r : RingT) (t o : List (BitVec 64)) (ov : BitVec 64) (i : Int) (c : BitVec 64) (j i' : Int) (Kn : HI I18 → Prop) (Kr : HI [] → Prop) (Kx : HP o18) : roundT (W Y7 Try.f45.ntmps (LTab.look L45) (bodyAt b45 18)) I18 [] o18 (r, t, o, ov, i, c, j, i', ()) Kn Kr Kx =
  ifB (decide (j < 8))
    (dmd (decide (0 ≤ j) && decide (j < 8))
      (dmd (decide (0 ≤ j) && decide (j < 8))
        (Kn
          (r, t.set j.toNat (BitVec.ofNat 64 (BitVec.toNat (rd (Sh.int IntKind.u64) t j.toNat) + c.toNat + 0)), o, ov, i,
            BitVec.ofNat 64 ((BitVec.toNat (rd (Sh.int IntKind.u64) t j.toNat) + c.toNat + 0) / (2 ^ 64)),
            IntKind.i64.wrap (j + 1), i', PUnit.unit))))
    (Kx.1 (r, t, o, ov, c, i', PUnit.unit)) := by kernel_rfl
theorem round3 (r : RingT) (t o : List (BitVec 64)) (ov : BitVec 64) (i' : Int) (Kn : HI I3 → Prop) (Kr : HI [] → Prop) (Kx : HP o3) : roundT (W Y7 Try.f45.ntmps (LTab.look L45) (bodyAt b45 3)) I3 [] o3 (r, t, o, ov, i', ()) Kn Kr Kx =
  ifB (decide (i' < 4))
    (dmd (decide (0 ≤ i') && decide (i' < 8))
      (Q8 (r, t, o, ov, i', rd (Sh.int IntKind.u64) t i'.toNat * r.2.2.2.1, 0#64, i', r.1, 0, PUnit.unit)
        (fun _ => Kr PUnit.unit)
        (fun y =>
          Q18
            (y.1, y.2.1, y.2.2.1, y.2.2.2.1, y.2.2.2.2.1, y.2.2.2.2.2.1, IntKind.i64.wrap (y.2.2.2.2.1 + 4),
              y.2.2.2.2.2.2.1, PUnit.unit)
            (fun _ => Kr PUnit.unit)
            (fun y => Kn (y.1, y.2.1, y.2.2.1, y.2.2.2.1 + y.2.2.2.2.1, IntKind.i64.wrap (y.2.2.2.2.2.1 + 1), PUnit.unit),
              PUnit.unit),
          PUnit.unit)))
    (Kx.1 (r, t, o, ov, PUnit.unit)) := by kernel_rfl
theorem fw45 (r : Ar.T (.f ringS)) (t : Ar.T (.v wideS)) (P : SV → Prop) : FW Y7 Try.f45.ntmps (LTab.look L45) Try.f45 (argsA [.f ringS, .v wideS] (r, t, ())) P =
  Q3 (r, t, [0#64, 0#64, 0#64, 0#64], 0#64, 0, PUnit.unit) (fun _ => False)
    (fun y =>
      ifB (decide (0#64 < y.2.2.2.1))
        (P
          (SV.av
            (AV.val (Sh.arr 4 (Sh.int IntKind.u64))
              (wordsN 4
                (remN
                  (valN
                    (wordsN 4
                      (valN
                            (wordsN 4
                              (valN y.2.1 /
                                (2 ^ 256))) +
                          (2 ^ 256) -
                        valN y.1.1)))
                  (valN y.1.1))))))
        (P
          (SV.av
            (AV.val (Sh.arr 4 (Sh.int IntKind.u64))
              (wordsN 4
                (remN
                  (valN
                    (wordsN 4
                      (valN y.2.1 / (2 ^ 256))))
                  (valN y.1.1)))))),
      PUnit.unit) := by kernel_rfl

theorem wide_set {t : List (BitVec 64)} {n : Nat} {y : BitVec 64} (h : wideS.wfT t) : wideS.wfT (t.set n y) := ⟨by rw [List.length_set]; exact h.1, fun _ _ => trivial⟩
theorem mod_word (m : List (BitVec 64)) (j : Nat) : valN m % 2 ^ (64 * (j + 1)) = valN m % 2 ^ (64 * j) + 2 ^ (64 * j) * (rd u64S m j).toNat := by
  have key : ∀ (m : List (BitVec 64)) (j : Nat), valN m / 2 ^ (64 * j) % 2 ^ 64 = (rd u64S m j).toNat := by
    intro m
    induction m with
    | nil => intro j; have : rd u64S [] j = 0#64 := by cases j <;> rfl
             rw [this]; simp [valN]
    | cons x r ih =>
      intro j
      have hx := x.isLt
      cases j with
      | zero =>
        show (x.toNat + 2 ^ 64 * valN r) / 2 ^ (64 * 0) % 2 ^ 64 = x.toNat
        rw [Nat.mul_zero, Nat.pow_zero, Nat.div_one]; omega
      | succ j =>
        show (x.toNat + 2 ^ 64 * valN r) / 2 ^ (64 * (j + 1)) % 2 ^ 64 = (rd u64S r j).toNat
        rw [show 64 * (j + 1) = 64 + 64 * j by omega, Nat.pow_add, ← Nat.div_div_eq_div_mul, show (x.toNat + 2 ^ 64 * valN r) / 2 ^ 64 = valN r by omega]
        exact ih j
  rw [show 64 * (j + 1) = 64 * j + 64 by omega, Nat.pow_add, Nat.mod_mul, key]
theorem i64n {n : Nat} (h : n < 100) : IntKind.i64.wrap (n : Int) = (n : Int) := IntWalk.i64_in _ (by omega)
theorem bounds {n k : Nat} (h : n < k) : (decide (0 ≤ (n : Int)) && decide ((n : Int) < (k : Int))) = true := by
  rw [decide_eq_true (by omega), decide_eq_true (by omega)]; rfl
/-- a word's sum, by parts -/
theorem mul_add2 {k y t c : Nat} (hk : k < 2 ^ 64) (hy : y < 2 ^ 64) (ht : t < 2 ^ 64) (hc : c < 2 ^ 64) :
    ∃ lo hi : Nat, lo < 2 ^ 64 ∧ hi < 2 ^ 64 ∧ lo + 2 ^ 64 * hi = k * y + t + c ∧ BitVec.ofNat 64 ((BitVec.ofNat 64 ((BitVec.ofNat 64 (k * y)).toNat + t + 0)).toNat + c + 0) = BitVec.ofNat 64 lo ∧
      BitVec.ofNat 64 (k * y / 2 ^ 64) + BitVec.ofNat 64 (((BitVec.ofNat 64 (k * y)).toNat + t + 0) / 2 ^ 64) + BitVec.ofNat 64 (((BitVec.ofNat 64 ((BitVec.ofNat 64 (k * y)).toNat + t + 0)).toNat + c + 0) / 2 ^ 64) = BitVec.ofNat 64 hi := by
  have h : k * y ≤ (2 ^ 64 - 1) * (2 ^ 64 - 1) := Nat.mul_le_mul (by omega) (by omega)
  generalize k * y = p at *
  refine ⟨(p + t + c) % 2 ^ 64, (p + t + c) / 2 ^ 64, by omega, by omega, by omega, ?_, ?_⟩
  · apply BitVec.eq_of_toNat_eq
    simp only [BitVec.toNat_ofNat]; omega
  · apply BitVec.eq_of_toNat_eq
    simp only [BitVec.toNat_add, BitVec.toNat_ofNat]; omega

set_option maxRecDepth 100000 in
theorem loop8 : ∀ x Kr Kx, Q8 x Kr Kx → ∃ n, untl (W Y7 Try.f45.ntmps (LTab.look L45) (bodyAt b45 8)) I8 [] o8 n x Kr Kx := by
  rintro ⟨r, t0, o, ov, i, k, c0, i', m, j0, u⟩ Kr Kx ⟨⟨n, hn, h1, h2, h3, h4, h5⟩, hK⟩
  have h1 : i = (n : Int) := h1
  have h2 : wideS.wfT t0 := h2
  have h4 : c0 = 0#64 := h4
  have h5 : j0 = 0 := h5
  have hK : ∀ (n : Nat) (t : List (BitVec 64)) (c : BitVec 64), i = (n : Int) → wideS.wfT t → valN t + 2 ^ (64 * n) * 2 ^ 256 * c.toNat = valN t0 + 2 ^ (64 * n) * (k.toNat * valN m) → Kx.1 (r, t, o, ov, i, c, i', ()) := hK
  subst h1 h4 h5
  have M2 : valN m < 2 ^ 256 := lt4 h3
  have key : ∀ (d j : Nat) (t : List (BitVec 64)) (c : BitVec 64), j + d = 4 → wideS.wfT t → valN t + 2 ^ (64 * n) * 2 ^ (64 * j) * c.toNat = valN t0 + 2 ^ (64 * n) * (k.toNat * (valN m % 2 ^ (64 * j))) →
      untl (W Y7 Try.f45.ntmps (LTab.look L45) (bodyAt b45 8)) I8 [] o8 (d + 1) (r, t, o, ov, (n : Int), k, c, i', m, (j : Int), ()) Kr Kx := by
    intro d
    induction d with
    | zero =>
      intro j t c hj wt e
      have hj : j = 4 := by omega
      subst hj
      rw [untl_succ, round8]
      refine ifB_of (fun h => absurd (of_decide_eq_true h) (by omega)) (fun _ => ?_)
      rw [show 64 * 4 = 256 from rfl, Nat.mod_eq_of_lt M2] at e
      exact hK n t c rfl wt e
    | succ d ih =>
      intro j t c hj wt e
      have hj4 : j < 4 := by omega
      rw [untl_succ, round8]
      have e1 : (n : Int) + (j : Int) = ((n + j : Nat) : Int) := by omega
      have e2 : (j : Int) + 1 = ((j + 1 : Nat) : Int) := by omega
      rw [e1, e2, i64n (n := n + j) (by omega), i64n (n := j + 1) (by omega), Int.toNat_natCast, Int.toNat_natCast]
      refine ifB_of (fun _ => dmd_of (bounds (k := 4) hj4) (dmd_of (bounds (k := 8) (by omega)) (dmd_of (bounds (k := 8) (by omega)) ?_))) (fun h => absurd (of_decide_eq_false h) (by omega))
      obtain ⟨lo, hi, b1, b2, b3, b4, b5⟩ := mul_add2 (BitVec.isLt k) (BitVec.isLt (rd u64S m j)) (BitVec.isLt (rd u64S t (n + j))) (BitVec.isLt c)
      have b4' : BitVec.ofNat 64 ((BitVec.ofNat 64 ((BitVec.ofNat 64 (k.toNat * BitVec.toNat (rd (Sh.int IntKind.u64) m j))).toNat + BitVec.toNat (rd (Sh.int IntKind.u64) t (n + j)) + 0)).toNat + c.toNat + 0) = BitVec.ofNat 64 lo := b4
      have b5' : BitVec.ofNat 64 (k.toNat * BitVec.toNat (rd (Sh.int IntKind.u64) m j) / 2 ^ 64) + BitVec.ofNat 64 (((BitVec.ofNat 64 (k.toNat * BitVec.toNat (rd (Sh.int IntKind.u64) m j))).toNat + BitVec.toNat (rd (Sh.int IntKind.u64) t (n + j)) + 0) / 2 ^ 64) +
          BitVec.ofNat 64 (((BitVec.ofNat 64 ((BitVec.ofNat 64 (k.toNat * BitVec.toNat (rd (Sh.int IntKind.u64) m j))).toNat + BitVec.toNat (rd (Sh.int IntKind.u64) t (n + j)) + 0)).toNat + c.toNat + 0) / 2 ^ 64) = BitVec.ofNat 64 hi := b5
      rw [b4', b5']
      refine ih (j + 1) _ _ (by omega) (wide_set wt) ?_
      have hs := valN_set t (n + j) (BitVec.ofNat 64 lo) (by rw [show t.length = 8 from wt.1]; omega)
      rw [BitVec.toNat_ofNat, Nat.mod_eq_of_lt b1] at hs
      rw [BitVec.toNat_ofNat, Nat.mod_eq_of_lt b2, mod_word]
      rw [show 64 * (n + j) = 64 * n + 64 * j by omega, Nat.pow_add] at hs
      rw [show 64 * (j + 1) = 64 * j + 64 by omega, Nat.pow_add]
      clear b4 b5 b4' b5' ih hK
      generalize valN (t.set (n + j) (BitVec.ofNat 64 lo)) = V at *
      generalize (rd u64S m j).toNat = mj at *
      generalize BitVec.toNat (rd u64S t (n + j)) = tj at *
      generalize valN m % 2 ^ (64 * j) = Mj at *
      generalize k.toNat = k' at *
      generalize c.toNat = c' at *
      generalize 2 ^ (64 * n) = A at *
      generalize 2 ^ (64 * j) = B at *
      grind
  have := key 4 0 t0 0#64 (by omega) h2 (by rw [show (0#64).toNat = 0 from rfl]; simp [Nat.mod_one])
  exact ⟨_, this⟩

set_option maxRecDepth 100000 in
theorem loop18 : ∀ x Kr Kx, Q18 x Kr Kx → ∃ n, untl (W Y7 Try.f45.ntmps (LTab.look L45) (bodyAt b45 18)) I18 [] o18 n x Kr Kx := by
  rintro ⟨r, t0, o, ov, i, c0, j0, i', u⟩ Kr Kx ⟨⟨n, hn, h1, h2⟩, hK⟩
  have h1 : j0 = (n : Int) := h1
  have h2 : wideS.wfT t0 := h2
  have hK : ∀ (n : Nat) (t : List (BitVec 64)) (c : BitVec 64), j0 = (n : Int) → wideS.wfT t → valN t + 2 ^ 256 * 2 ^ 256 * c.toNat = valN t0 + 2 ^ (64 * n) * c0.toNat → Kx.1 (r, t, o, ov, c, i', ()) := hK
  subst h1
  have key : ∀ (d j : Nat) (t : List (BitVec 64)) (c : BitVec 64), j + d = 8 → wideS.wfT t → valN t + 2 ^ (64 * j) * c.toNat = valN t0 + 2 ^ (64 * n) * c0.toNat →
      untl (W Y7 Try.f45.ntmps (LTab.look L45) (bodyAt b45 18)) I18 [] o18 (d + 1) (r, t, o, ov, i, c, (j : Int), i', ()) Kr Kx := by
    intro d
    induction d with
    | zero =>
      intro j t c hj wt e
      have hj : j = 8 := by omega
      have e8 : 2 ^ (64 * j) = 2 ^ 256 * 2 ^ 256 := by rw [hj]; exact sq256
      rw [e8] at e
      rw [untl_succ, round18]
      refine ifB_of (fun h => absurd (of_decide_eq_true h) (by omega)) (fun _ => ?_)
      exact hK n t c rfl wt e
    | succ d ih =>
      intro j t c hj wt e
      have hj4 : j < 8 := by omega
      rw [untl_succ, round18]
      have e2 : (j : Int) + 1 = ((j + 1 : Nat) : Int) := by omega
      rw [e2, i64n (n := j + 1) (by omega), Int.toNat_natCast]
      refine ifB_of (fun _ => dmd_of (bounds (k := 8) (by omega)) (dmd_of (bounds (k := 8) (by omega)) ?_)) (fun h => absurd (of_decide_eq_false h) (by omega))
      refine ih (j + 1) _ _ (by omega) (wide_set wt) ?_
      have hs := valN_set t j (BitVec.ofNat 64 (BitVec.toNat (rd (Sh.int IntKind.u64) t j) + c.toNat + 0)) (by rw [show t.length = 8 from wt.1]; omega)
      have b1 := BitVec.isLt (rd u64S t j)
      have b2 := BitVec.isLt c
      rw [BitVec.toNat_ofNat] at hs ⊢
      rw [show 64 * (j + 1) = 64 * j + 64 by omega, Nat.pow_add]
      generalize valN (t.set j (BitVec.ofNat 64 (BitVec.toNat (rd (Sh.int IntKind.u64) t j) + c.toNat + 0))) = V at *
      have hs : V + 2 ^ (64 * j) * (rd u64S t j).toNat = valN t + 2 ^ (64 * j) * (((rd u64S t j).toNat + c.toNat + 0) % 2 ^ 64) := hs
      show V + 2 ^ (64 * j) * 2 ^ 64 * (((rd u64S t j).toNat + c.toNat + 0) / 2 ^ 64 % 2 ^ 64) = _
      generalize (rd u64S t j).toNat = tj at *
      generalize c.toNat = c' at *
      have e3 : (tj + c' + 0) / 2 ^ 64 % 2 ^ 64 = (tj + c' + 0) / 2 ^ 64 := by omega
      have e4 := Nat.div_add_mod (tj + c' + 0) (2 ^ 64)
      rw [e3]
      generalize (tj + c' + 0) / 2 ^ 64 = q at *
      generalize (tj + c' + 0) % 2 ^ 64 = z at *
      generalize 2 ^ (64 * j) = B at *
      generalize 2 ^ (64 * n) * c0.toNat = C at *
      generalize 2 ^ 64 = E at *
      clear ih hK b1 b2 e3
      grind
  exact ⟨_, key (8 - n) n t0 c0 (by omega) h2 rfl⟩
end Go.Proofs.Ytninlahlmjhmhaa
