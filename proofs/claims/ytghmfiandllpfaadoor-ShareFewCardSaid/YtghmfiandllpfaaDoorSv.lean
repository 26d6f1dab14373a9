import Derived.Test.YtghmfiandllpfaaDoorSf
namespace Go.Proofs.YtghmfiandllpfaaDoor
open Go.Ty
open Go.Lag (lag lagN upN)
noncomputable def baseF (X : Nat → FL) (n : Nat) (x : FL) : FL := upN X n x (n + 1) * iv (upN X n (X n) (n + 1))
theorem lag_last (X Y : Nat → FL) (n : Nat) (x : FL) : lag iv X Y (n + 1) x = lagN iv X Y (n + 1) x n + Y n * baseF X n x := rfl
theorem base_nz {X : Nat → FL} {n : Nat} {x : FL} (hd : Go.Lag.Dist X (n + 1)) (hx : ∀ i, i < n → X i ≠ x) : baseF X n x ≠ 0 := by
  refine fld.mulnz (Go.Lag.up_nz fld X n x (n + 1) fun k hk hne => hx k (by omega)) (fld.ivnz (Go.Lag.up_nz fld X n (X n) (n + 1) fun k hk hne e => hne (hd k n hk (Nat.lt_succ_self n) e)))
noncomputable def wth (l : List Shr) (x : Int) (y : Num) : List Shr := l ++ [(x, y, ())]
theorem wth_len (l : List Shr) (x : Int) (y : Num) : (wth l x y).length = l.length + 1 := List.length_append
theorem wth_1 {l : List Shr} {x : Int} {y : Num} {i : Nat} (h : i < l.length) : rd shS (wth l x y) i = rd shS l i := by
  rw [rd_at (by rw [wth_len]; omega), rd_at h]
  exact List.getElem_append_left h
theorem wth_2 {l : List Shr} {x : Int} {y : Num} : rd shS (wth l x y) l.length = (x, y, ()) := by
  rw [rd_at (by rw [wth_len]; omega)]
  unfold wth
  rw [List.getElem_append_right (Nat.le_refl _)]
  simp
theorem wth_X (l : List Shr) (x : Int) (y z : Num) (i : Nat) (h : i < l.length + 1) : Xi (wth l x y) i = Xi (wth l x z) i := by
  unfold Xi
  by_cases e : i < l.length
  · rw [wth_1 e, wth_1 e]
  · have e : i = l.length := by omega
    subst e; rw [wth_2, wth_2]
theorem wth_good {l : List Shr} {x : Int} {y z : Num} (hz : valN z < Lb.LL) (h : GoodP (wth l x y)) : GoodP (wth l x z) := by
  refine ⟨fun i hi => ?_, fun i j hij hj => ?_⟩
  · rw [wth_len] at hi
    rw [wth_X l x z y i hi]
    have h1 := h.1 i (by rw [wth_len]; exact hi)
    refine ⟨h1.1, h1.2.1, ?_⟩
    by_cases e : i < l.length
    · have h3 := h1.2.2
      unfold Yi at h3 ⊢
      rw [wth_1 e] at h3 ⊢; exact h3
    · have e : i = l.length := by omega
      subst e; unfold Yi; rw [wth_2]; exact hz
  · rw [wth_len] at hj
    rw [wth_X l x z y i (by omega), wth_X l x z y j hj]
    exact h.2 i j hij (by rw [wth_len]; exact hj)
theorem wth_chk {l : List Shr} {x : Int} {y z : Num} (_ : l.length ≤ 5) (hy : valN y < Lb.LL) (hz : valN z < Lb.LL) : chkE (wth l x y) 0 = chkE (wth l x z) 0 := by
  have e : okP (wth l x y) = okP (wth l x z) := by
    cases a : okP (wth l x y) with
    | true => rw [okP_iff.2 (wth_good hz (okP_iff.1 a))]
    | false =>
      cases b : okP (wth l x z) with
      | false => rfl
      | true => rw [okP_iff.2 (wth_good hy (okP_iff.1 b))] at a; cases a
  unfold chkE outB_
  rw [wth_len, wth_len, e]
/-- the value at 0, by the last share -/
theorem wth_at (l : List Shr) (x : Int) : ∃ S c : FL, ∀ y : Num, chkE (wth l x y) 0 = 0 → c ≠ 0 ∧ atX (wth l x y) 0 = wF (S + cF y * c) := by
  refine ⟨lagN iv (XF (wth l x (wF 0))) (YF (wth l x (wF 0))) (l.length + 1) (toF 0) l.length, baseF (XF (wth l x (wF 0))) l.length (toF 0), fun y hc => ?_⟩
  obtain ⟨_, _, _, hg⟩ := chk_0 hc
  have hX : XF (wth l x y) = XF (wth l x (wF 0)) := by
    funext i
    by_cases h : i < l.length + 1
    · unfold XF; rw [wth_X l x y (wF 0) i h]
    · have e : ∀ z : Num, rd shS (wth l x z) i = shS.dft := fun z => by
        unfold rd
        rw [List.getD_eq_getElem?_getD, List.getElem?_eq_none (by rw [wth_len]; omega)]; rfl
      unfold XF Xi; rw [e, e]
  have hd := distX hg
  rw [wth_len, hX] at hd
  have hY : ∀ i, i < l.length → YF (wth l x y) i = YF (wth l x (wF 0)) i := fun i hi => by
    unfold YF Yi; rw [wth_1 hi, wth_1 hi]
  refine ⟨base_nz hd fun i hi e => ?_, ?_⟩
  · have h1 := hg.1 i (by rw [wth_len]; omega)
    rw [← hX] at e
    have := toF_inj (by omega) (by decide) e
    omega
  · unfold atX
    rw [hc]
    show wF (lag iv (XF (wth l x y)) (YF (wth l x y)) (wth l x y).length (toF 0)) = _
    rw [wth_len, hX, lag_last, Go.Lag.lag_line l.length hY]
    have e : YF (wth l x y) l.length = cF y := by unfold YF Yi; rw [wth_2]; rfl
    rw [e]
end Go.Proofs.YtghmfiandllpfaaDoor
