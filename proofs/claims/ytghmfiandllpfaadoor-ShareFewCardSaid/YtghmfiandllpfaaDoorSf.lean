import Derived.Test.YtghmfiandllpfaaDoorSp
namespace Go.Proofs.YtghmfiandllpfaaDoor
open Go.Ty
open Go.Lag (Pol ev addP)

theorem toF_mod (n : Nat) : toF (n % Lb.LL) = toF n := Fin.ext (by rw [toF_val, toF_val, Nat.mod_mod])
theorem toF_add (m n : Nat) : toF (m + n) = toF m + toF n := Fin.ext (by rw [toF_val, Fin.val_add, toF_val, toF_val, Nat.add_mod])
theorem toF_mul (m n : Nat) : toF (m * n) = toF m * toF n := Fin.ext (by rw [toF_val, Fin.val_mul, toF_val, toF_val, Nat.mul_mod])
theorem LL_pos : 0 < Lb.LL := by rw [Lb.LL_eq]; decide
theorem vmod (n : Nat) : valN (wordsN 4 (n % Lb.LL)) = n % Lb.LL := Lb.v4 (Nat.lt_trans (Nat.mod_lt _ LL_pos) LL_256)
noncomputable def cF (w : Num) : FL := toF (valN w)
theorem cF_mod (n : Nat) : cF (wordsN 4 (n % Lb.LL)) = toF n := by unfold cF; rw [vmod, toF_mod]
theorem wF_mod (n : Nat) : wordsN 4 (n % Lb.LL) = wF (toF n) := rfl
theorem wF_cF {w : Num} (h : valN w < Lb.LL) (hw : numS.wfT w) : wF (cF w) = w := by
  unfold wF cF
  rw [toF_val, Nat.mod_eq_of_lt h]
  exact Lb.self4 hw
theorem toF_0 : toF 0 = 0 := Fin.ext (by rw [toF_val, zero_val, Nat.zero_mod])
theorem ev_one (y x : FL) : ev [y] x = y := by
  show y + x * 0 = y
  grind
theorem ev_0 (y : FL) (p : Pol Lb.LL) : ev (y :: p) 0 = y := by
  show y + 0 * _ = y
  grind
theorem hW_ev (c : List Num) (k x : Nat) (hc : c.length = k) (hx : x < 2 ^ 256) : ∀ t, t + 1 ≤ k → cF (hW c k x t) = ev (List.drop (k - 1 - t) (c.map cF)) (toF x)
  | 0, h => by
    have e : List.drop (k - 1 - 0) (c.map cF) = [cF (rd numS c (k - 1))] := by
      rw [Nat.sub_zero, List.drop_eq_getElem_cons (by rw [List.length_map]; omega), List.drop_of_length_le (by rw [List.length_map]; omega), List.getElem_map, rd_at (show k - 1 < c.length by omega)]
    rw [e, ev_one]; rfl
  | t + 1, h => by
    have ih := hW_ev c k x hc hx t (by omega)
    have e : List.drop (k - 1 - (t + 1)) (c.map cF) = cF (rd numS c (k - 2 - t)) :: List.drop (k - 1 - t) (c.map cF) := by
      rw [show k - 1 - (t + 1) = k - 2 - t by omega, List.drop_eq_getElem_cons (by rw [List.length_map]; omega), List.getElem_map, rd_at (show k - 2 - t < c.length by omega), show k - 2 - t + 1 = k - 1 - t by omega]
    rw [e]
    show cF (wordsN 4 ((valN (wordsN 4 (valN (hW c k x t) * valN (wordsN 4 x) % Lb.LL)) + valN (rd numS c (k - 2 - t))) % Lb.LL)) = cF (rd numS c (k - 2 - t)) + toF x * ev (List.drop (k - 1 - t) (c.map cF)) (toF x)
    rw [cF_mod, toF_add, vmod, toF_mod, toF_mul, Lb.v4 hx, ← ih]
    show cF (hW c k x t) * toF x + cF (rd numS c (k - 2 - t)) = _
    grind
theorem spl_0 {a : Num} {k n : Int} {sd : List (BitVec 8)} (h : splE a k n sd = 0) : (1 ≤ k ∧ k ≤ n ∧ n ≤ 20) ∧ valN a < Lb.LL := by
  unfold splE at h
  cases hb : argB k n || decide (0 ≤ Lb.cmpI (valN a) (valN LW)) with
  | true => rw [hb] at h; exact absurd (show (1 : Int) = 0 from h) (by decide)
  | false =>
    obtain ⟨h1, h2⟩ := Bool.or_eq_false_iff.1 hb
    unfold argB at h1
    obtain ⟨g1, g2⟩ := Bool.or_eq_false_iff.1 h1
    obtain ⟨g2, g3⟩ := Bool.or_eq_false_iff.1 g2
    have g1 := of_decide_eq_false g1
    have g2 := of_decide_eq_false g2
    have g3 := of_decide_eq_false g3
    exact ⟨⟨by omega, by omega, by omega⟩, Decidable.byContradiction fun c => of_decide_eq_false h2 ((cmp_L _).2 c)⟩
theorem splO_eq {a : Num} {k n : Int} {sd : List (BitVec 8)} (h : splE a k n sd = 0) : splO a k n sd = oW (splC a k sd) k.toNat n.toNat n.toNat := by unfold splO; rw [h]; rfl
theorem splC_len {a : Num} {k : Int} {sd : List (BitVec 8)} (hk : 1 ≤ k) : (splC a k sd).length = k.toNat := by unfold splC; rw [cL_len]; omega
theorem spl_len {a : Num} {k n : Int} {sd : List (BitVec 8)} (h : splE a k n sd = 0) : (splO a k n sd).length = n.toNat := by rw [splO_eq h, oW_len]
theorem spl_rd {a : Num} {k n : Int} {sd : List (BitVec 8)} (h : splE a k n sd = 0) {i : Nat} (hi : i < n.toNat) : rd shS (splO a k n sd) i = shr (splC a k sd) k.toNat i := by
  rw [splO_eq h, rd_at (by rw [oW_len]; exact hi)]
  exact oW_at _ _ _ hi _ hi
theorem cL_head (a : Num) (s : Src) : ∀ i, ∃ r, cL a s i = a :: r
  | 0 => ⟨[], rfl⟩
  | i + 1 => by
    obtain ⟨r, h⟩ := cL_head a s i
    exact ⟨r ++ [dX s i], by show cL a s i ++ [dX s i] = _; rw [h]; rfl⟩
noncomputable def polS (a : Num) (k : Int) (sd : List (BitVec 8)) : Pol Lb.LL := (splC a k sd).map cF
theorem polS_len {a : Num} {k : Int} {sd : List (BitVec 8)} (hk : 1 ≤ k) : (polS a k sd).length = k.toNat := by unfold polS; rw [List.length_map, splC_len hk]
theorem polS_0 (a : Num) (k : Int) (sd : List (BitVec 8)) : ev (polS a k sd) 0 = cF a := by
  obtain ⟨r, h⟩ := cL_head a (srcN sd 0#64) (k.toNat - 1)
  unfold polS splC
  rw [h, List.map_cons, ev_0]
theorem spl_X {a : Num} {k n : Int} {sd : List (BitVec 8)} (h : splE a k n sd = 0) {i : Nat} (hi : i < n.toNat) : Xi (splO a k n sd) i = ((i + 1 : Nat) : Int) := by unfold Xi; rw [spl_rd h hi]; rfl
theorem spl_Y {a : Num} {k n : Int} {sd : List (BitVec 8)} (h : splE a k n sd = 0) {i : Nat} (hi : i < n.toNat) : Yi (splO a k n sd) i = hW (splC a k sd) k.toNat (i + 1) (k.toNat - 1) := by unfold Yi; rw [spl_rd h hi]; rfl
theorem spl_YF {a : Num} {k n : Int} {sd : List (BitVec 8)} (h : splE a k n sd = 0) {i : Nat} (hi : i < n.toNat) : YF (splO a k n sd) i = ev (polS a k sd) (toF (i + 1)) := by
  obtain ⟨⟨h1, h2, h3⟩, _⟩ := spl_0 h
  have hx : i + 1 < 2 ^ 256 := Nat.lt_of_le_of_lt (show i + 1 ≤ 255 by omega) (by decide)
  have e := hW_ev (splC a k sd) k.toNat (i + 1) (splC_len h1) hx (k.toNat - 1) (by omega)
  rw [Nat.sub_self, List.drop_zero] at e
  unfold YF
  rw [spl_Y h hi]
  exact e
theorem hW_lt {c : List Num} {k x : Nat} : ∀ t, 0 < t → valN (hW c k x t) < Lb.LL
  | t + 1, _ => by
    show valN (wordsN 4 (_ % Lb.LL)) < _
    rw [vmod]; exact Nat.mod_lt _ LL_pos
theorem spl_lt {a : Num} {k n : Int} {sd : List (BitVec 8)} (h : splE a k n sd = 0) {i : Nat} (hi : i < n.toNat) : valN (Yi (splO a k n sd) i) < Lb.LL := by
  obtain ⟨⟨h1, h2, h3⟩, h4⟩ := spl_0 h
  rw [spl_Y h hi]
  by_cases e : k = 1
  · subst e; exact h4
  · exact hW_lt _ (by omega)
theorem spl_good {a : Num} {k n : Int} {sd : List (BitVec 8)} (h : splE a k n sd = 0) : GoodP (splO a k n sd) := by
  obtain ⟨⟨h1, h2, h3⟩, h4⟩ := spl_0 h
  have hl := spl_len h
  refine ⟨fun i hi => ?_, fun i j hij hj => ?_⟩
  · rw [hl] at hi
    rw [spl_X h hi]
    exact ⟨by omega, by omega, spl_lt h hi⟩
  · rw [hl] at hj
    rw [spl_X h hj, spl_X h (show i < n.toNat by omega)]
    omega
theorem spl_wF {a : Num} {k n : Int} {sd : List (BitVec 8)} (h : splE a k n sd = 0) (hw : numS.wfT a) {i : Nat} (hi : i < n.toNat) : Yi (splO a k n sd) i = wF (YF (splO a k n sd) i) := by
  obtain ⟨⟨h1, h2, h3⟩, h4⟩ := spl_0 h
  unfold YF
  rw [spl_Y h hi]
  by_cases e : k = 1
  · subst e
    exact (wF_cF h4 hw).symm
  · obtain ⟨t, ht⟩ : ∃ t, k.toNat - 1 = t + 1 := ⟨k.toNat - 2, by omega⟩
    rw [ht]
    show wordsN 4 (_ % Lb.LL) = wF (cF (wordsN 4 (_ % Lb.LL)))
    rw [cF_mod]; rfl
end Go.Proofs.YtghmfiandllpfaaDoor
