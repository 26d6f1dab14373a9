import Derived.Test.YtonlmamfggfanaaDoorTr
namespace Go.Proofs.YtonlmamfggfanaaDoor
open Go.Ty

/-! ## Paths -/
noncomputable def pathW (l : List (List (BitVec 8))) (i : Nat) : List (List (BitVec 8)) :=
  if _ : l.length ≤ 1 then [] else if i < halfN l.length then pathW (l.take (halfN l.length)) i ++ [rootW (l.drop (halfN l.length))] else pathW (l.drop (halfN l.length)) (i - halfN l.length) ++ [rootW (l.take (halfN l.length))]
termination_by l.length
decreasing_by
  · have := half_lt (n := l.length) (by omega)
    rw [List.length_take]; omega
  · have := half_lt (n := l.length) (by omega)
    rw [List.length_drop]; omega
theorem pathW_0 {l : List (List (BitVec 8))} {i : Nat} (h : l.length ≤ 1) : pathW l i = [] := by rw [pathW, dif_pos h]
theorem pathW_l {l : List (List (BitVec 8))} {i : Nat} (h : 2 ≤ l.length) (hi : i < halfN l.length) : pathW l i = pathW (l.take (halfN l.length)) i ++ [rootW (l.drop (halfN l.length))] := by rw [pathW, dif_neg (by omega), if_pos hi]
theorem pathW_r {l : List (List (BitVec 8))} {i : Nat} (h : 2 ≤ l.length) (hi : ¬ i < halfN l.length) : pathW l i = pathW (l.drop (halfN l.length)) (i - halfN l.length) ++ [rootW (l.take (halfN l.length))] := by rw [pathW, dif_neg (by omega), if_neg hi]
def depN (n i : Nat) : Nat :=
  if h : n ≤ 1 then 0 else if i < halfN n then depN (halfN n) i + 1 else depN (n - halfN n) (i - halfN n) + 1
termination_by n
decreasing_by
  · have := half_lt (n := n) (by omega)
    omega
  · have := half_lt (n := n) (by omega)
    omega
theorem depN_0 {n i : Nat} (h : n ≤ 1) : depN n i = 0 := by rw [depN, dif_pos h]
theorem depN_l {n i : Nat} (h : 2 ≤ n) (hi : i < halfN n) : depN n i = depN (halfN n) i + 1 := by rw [depN, dif_neg (by omega), if_pos hi]
theorem depN_r {n i : Nat} (h : 2 ≤ n) (hi : ¬ i < halfN n) : depN n i = depN (n - halfN n) (i - halfN n) + 1 := by rw [depN, dif_neg (by omega), if_neg hi]
theorem path_dep : ∀ (n : Nat) (l : List (List (BitVec 8))) (i : Nat), l.length ≤ n → (pathW l i).length = depN l.length i
  | 0, l, i, h => by rw [pathW_0 (by omega), depN_0 (by omega)]; rfl
  | n + 1, l, i, h => by
    by_cases c : l.length ≤ 1
    · rw [pathW_0 c, depN_0 c]; rfl
    · have hh := half_lt (n := l.length) (by omega)
      by_cases d : i < halfN l.length
      · rw [pathW_l (by omega) d, depN_l (by omega) d, List.length_append, path_dep n _ _ (by rw [List.length_take]; omega), List.length_take, Nat.min_eq_left (by omega)]; rfl
      · rw [pathW_r (by omega) d, depN_r (by omega) d, List.length_append, path_dep n _ _ (by rw [List.length_drop]; omega), List.length_drop]; rfl
theorem dep_lt : ∀ (n k i : Nat), k ≤ n → depN k i ≤ k
  | 0, k, i, h => by rw [depN_0 (by omega)]; omega
  | n + 1, k, i, h => by
    by_cases c : k ≤ 1
    · rw [depN_0 c]; omega
    · have hh := half_lt (n := k) (by omega)
      by_cases d : i < halfN k
      · have := dep_lt n (halfN k) i (by omega)
        rw [depN_l (by omega) d]; omega
      · have := dep_lt n (k - halfN k) (i - halfN k) (by omega)
        rw [depN_r (by omega) d]; omega
theorem path_le (l : List (List (BitVec 8))) (i : Nat) : (pathW l i).length ≤ l.length := by
  rw [path_dep _ l i (Nat.le_refl _)]; exact dep_lt _ _ _ (Nat.le_refl _)
theorem hf_le : ∀ (f n k d i : Nat), k = 2 ^ i → i ≤ d → n ≤ 2 ^ (d + 1) → hfN f n k ≤ 2 ^ d
  | 0, _, k, d, i, e, h, _ => by rw [e]; exact Nat.pow_le_pow_right (by decide) h
  | f + 1, n, k, d, i, e, h, hn => by
    unfold hfN
    by_cases c : k < n - k
    · rw [decTr c]
      have e2 : 2 * k = 2 ^ (i + 1) := by rw [e, Nat.pow_succ, Nat.mul_comm]
      have h2 : 2 ^ (i + 1) < 2 ^ (d + 1) := by omega
      have h3 := (Nat.pow_lt_pow_iff_right (by decide)).1 h2
      exact hf_le f n (2 * k) d (i + 1) e2 (by omega) hn
    · rw [decFa c, e]; exact Nat.pow_le_pow_right (by decide) h
theorem hf_ge : ∀ (f n k : Nat), 1 ≤ k → n - k ≤ f → n ≤ 2 * hfN f n k
  | 0, _, _, _, h => by unfold hfN; omega
  | f + 1, n, k, h1, h => by
    unfold hfN
    by_cases c : k < n - k
    · rw [decTr c]; exact hf_ge f n (2 * k) (by omega) (by omega)
    · rw [decFa c, cond_false]; omega
theorem dep_le : ∀ (d n i : Nat), n ≤ 2 ^ d → depN n i ≤ d
  | 0, n, i, h => by rw [depN_0 h]; exact Nat.le_refl 0
  | d + 1, n, i, h => by
    by_cases c : n ≤ 1
    · rw [depN_0 c]; omega
    · have h1 : halfN n ≤ 2 ^ d := hf_le n n 1 d 0 rfl (Nat.zero_le _) h
      have h2 : n ≤ 2 * halfN n := hf_ge n n 1 (Nat.le_refl 1) (by omega)
      by_cases e : i < halfN n
      · have := dep_le d (halfN n) i h1
        rw [depN_l (by omega) e]; omega
      · have := dep_le d (n - halfN n) (i - halfN n) (by omega)
        rw [depN_r (by omega) e]; omega

/-! ## The climb -/
noncomputable def climbW (n i : Nat) (d : List (BitVec 8)) (p : List (List (BitVec 8))) : List (BitVec 8) × Bool :=
  if n = 1 then (d, decide (p.length = 0)) else if h : p.length = 0 then (d, false) else
  if i < halfN n then (nodeW (climbW (halfN n) i d (p.take (p.length - 1))).1 (rd b32S p (p.length - 1)), (climbW (halfN n) i d (p.take (p.length - 1))).2)
  else (nodeW (rd b32S p (p.length - 1)) (climbW (n - halfN n) (i - halfN n) d (p.take (p.length - 1))).1, (climbW (n - halfN n) (i - halfN n) d (p.take (p.length - 1))).2)
termination_by p.length
decreasing_by all_goals (rw [List.length_take]; omega)
theorem climb_1 {i : Nat} {d : List (BitVec 8)} {p : List (List (BitVec 8))} : climbW 1 i d p = (d, decide (p.length = 0)) := by rw [climbW, if_pos rfl]
theorem climb_0 {n i : Nat} {d : List (BitVec 8)} {p : List (List (BitVec 8))} (h : n ≠ 1) (hp : p.length = 0) : climbW n i d p = (d, false) := by rw [climbW, if_neg h, dif_pos hp]
theorem climb_l {n i : Nat} {d : List (BitVec 8)} {p : List (List (BitVec 8))} (h : n ≠ 1) (hp : p.length ≠ 0) (hi : i < halfN n) :
    climbW n i d p = (nodeW (climbW (halfN n) i d (p.take (p.length - 1))).1 (rd b32S p (p.length - 1)), (climbW (halfN n) i d (p.take (p.length - 1))).2) := by
  rw [climbW, if_neg h, dif_neg hp, if_pos hi]
theorem climb_r {n i : Nat} {d : List (BitVec 8)} {p : List (List (BitVec 8))} (h : n ≠ 1) (hp : p.length ≠ 0) (hi : ¬ i < halfN n) :
    climbW n i d p = (nodeW (rd b32S p (p.length - 1)) (climbW (n - halfN n) (i - halfN n) d (p.take (p.length - 1))).1, (climbW (n - halfN n) (i - halfN n) d (p.take (p.length - 1))).2) := by
  rw [climbW, if_neg h, dif_neg hp, if_neg hi]
theorem rd_last (p : List (List (BitVec 8))) (s : List (BitVec 8)) : rd b32S (p ++ [s]) ((p ++ [s]).length - 1) = s := by
  have e : (p ++ [s]).length - 1 = p.length := by rw [List.length_append]; rfl
  have h := rd_at (s := b32S) (x := p ++ [s]) (j := p.length) (by rw [List.length_append]; exact Nat.lt_succ_self _)
  rw [e]
  exact h.trans (by simp)
theorem take_last (p : List (List (BitVec 8))) (s : List (BitVec 8)) : (p ++ [s]).take ((p ++ [s]).length - 1) = p := by
  have e : (p ++ [s]).length - 1 = p.length := by rw [List.length_append]; rfl
  rw [e, List.take_append_of_le_length (Nat.le_refl _), List.take_length]
theorem rd_tk {l : List (List (BitVec 8))} {i h : Nat} (hi : i < h) (hl : h ≤ l.length) : rd (.sl u8S) (l.take h) i = rd (.sl u8S) l i := by
  have h1 := rd_at (s := .sl u8S) (x := l.take h) (j := i) (by rw [List.length_take]; omega)
  have h2 := rd_at (s := .sl u8S) (x := l) (j := i) (by omega)
  exact h1.trans ((by rw [List.getElem_take] : _ = l[i]'(by omega)).trans h2.symm)
theorem rd_dp {l : List (List (BitVec 8))} {i h : Nat} (hi : h ≤ i) (hl : i < l.length) : rd (.sl u8S) (l.drop h) (i - h) = rd (.sl u8S) l i := by
  have h1 := rd_at (s := .sl u8S) (x := l.drop h) (j := i - h) (by rw [List.length_drop]; omega)
  have h2 := rd_at (s := .sl u8S) (x := l) (j := i) hl
  have e : (l.drop h)[i - h]'(by rw [List.length_drop]; omega) = l[i] := by
    rw [List.getElem_drop]
    congr 1
    omega
  exact h1.trans (e.trans h2.symm)
theorem climb_path : ∀ (n : Nat) (l : List (List (BitVec 8))) (i : Nat), l.length ≤ n → i < l.length → climbW l.length i (leafW (rd (.sl u8S) l i)) (pathW l i) = (rootW l, true)
  | 0, l, i, h, hi => absurd hi (by omega)
  | n + 1, l, i, h, hi => by
    by_cases c : l.length = 1
    · rw [c, climb_1, pathW_0 (by omega), rootW_1 c, show i = 0 by omega]; rfl
    · have hh := half_lt (n := l.length) (by omega)
      by_cases d : i < halfN l.length
      · have ih := climb_path n (l.take (halfN l.length)) i (by rw [List.length_take]; omega) (by rw [List.length_take]; omega)
        rw [rd_tk d (by omega), List.length_take, Nat.min_eq_left (by omega)] at ih
        rw [pathW_l (by omega) d, climb_l c (by rw [List.length_append]; exact Nat.succ_ne_zero _) d, take_last, rd_last, ih, rootW_2 (l := l) (by omega)]
      · have ih := climb_path n (l.drop (halfN l.length)) (i - halfN l.length) (by rw [List.length_drop]; omega) (by rw [List.length_drop]; omega)
        rw [rd_dp (by omega) hi, List.length_drop] at ih
        rw [pathW_r (by omega) d, climb_r c (by rw [List.length_append]; exact Nat.succ_ne_zero _) d, take_last, rd_last, ih, rootW_2 (l := l) (by omega)]
theorem climb_dep : ∀ (k n i : Nat) (d : List (BitVec 8)) (p : List (List (BitVec 8))), p.length ≤ k → 1 ≤ n → i < n → (climbW n i d p).2 = decide (p.length = depN n i)
  | k, n, i, d, p, hk, hn, hi => by
    by_cases c : n = 1
    · subst c
      rw [climb_1, depN_0 (Nat.le_refl 1)]
    · by_cases e : p.length = 0
      · have hd : depN n i ≠ 0 := by
          by_cases f : i < halfN n
          · rw [depN_l (by omega) f]; omega
          · rw [depN_r (by omega) f]; omega
        rw [climb_0 c e, decFa (by omega)]
      · match k with
        | 0 => omega
        | k + 1 =>
          have hh := half_lt (n := n) (by omega)
          have ht : (p.take (p.length - 1)).length = p.length - 1 := by rw [List.length_take]; omega
          by_cases f : i < halfN n
          · rw [climb_l c e f]
            show (climbW (halfN n) i d (p.take (p.length - 1))).2 = _
            rw [climb_dep k _ _ d _ (by omega) hh.1 f, ht, depN_l (by omega) f]
            exact decide_eq_decide.2 (by omega)
          · rw [climb_r c e f]
            show (climbW (n - halfN n) (i - halfN n) d (p.take (p.length - 1))).2 = _
            rw [climb_dep k _ _ d _ (by omega) (by omega) (by omega), ht, depN_r (by omega) f]
            exact decide_eq_decide.2 (by omega)

/-! ## The walks -/
noncomputable def pathF (n : Nat) : HA [.v rwS, .v i64S] → WT := fun xs => .dem (Nat.blt (List.length xs.1) n) (.dem (rokL xs.1) (.dem (decide ((0 : Int) ≤ xs.2.1) && decide ((xs.2.1 : Int) < ((List.length xs.1 : Nat) : Int))) (.alt (decide (List.length xs.1 = 1)) (.ret [.val i64S 0] none) (.ret [.val i64S 0] (some ⟨b32S, pathW xs.1 (Int.toNat xs.2.1)⟩)))))
noncomputable def T3c (n : Nat) : CTab := (36, conW [.v rwS, .v i64S] 0 (pathF n)) :: T1c 1099511627777
noncomputable abbrev T3 (n : Nat) : Go.Ty.Cx := mkX Tryd.prog GL shA (T3c n)
theorem fwPath (n : Nat) (l : List (List (BitVec 8))) (i : Int) (K : List AV → OwnV → Prop) : FWO (T3 n) Tryd.f36.ntmps (LTab.look []) 0 Tryd.f36 (argsOf [rwS, i64S] (l, i, ())) K =
 (  ifB (decide (i < 0)) (K [AV.val (Sh.int IntKind.i64) 1] none)
    (ifB (decide (((l.length : Nat) : Int) ≤ i)) (K [AV.val (Sh.int IntKind.i64) 1] none)
      (ifB (decide (((l.length : Nat) : Int) = 1)) (K [AV.val (Sh.int IntKind.i64) 0] none)
        (dmd (decide (0 ≤ ((l.length : Nat) : Int)) && decide (((l.length : Nat) : Int) ≤ 1099511627776))
          (ifB (decide (i < (((halfN (((l.length : Nat) : Int)).toNat) : Nat) : Int)))
            (dmd (decide (0 ≤ (((halfN (((l.length : Nat) : Int)).toNat) : Nat) : Int)))
              (dmd (Nat.ble 0 ((((halfN (((l.length : Nat) : Int)).toNat) : Nat) : Int)).toNat && ((((halfN (((l.length : Nat) : Int)).toNat) : Nat) : Int)).toNat.ble l.length)
                (dmd ((List.drop 0 (List.take ((((halfN (((l.length : Nat) : Int)).toNat) : Nat) : Int)).toNat l)).length.blt n)
                  (dmd (rokL (List.drop 0 (List.take ((((halfN (((l.length : Nat) : Int)).toNat) : Nat) : Int)).toNat l)))
                    (dmd
                      (decide (0 ≤ i) &&
                        decide (i < (((List.drop 0 (List.take ((((halfN (((l.length : Nat) : Int)).toNat) : Nat) : Int)).toNat l)).length : Nat) : Int)))
                      (ifB (decide ((List.drop 0 (List.take ((((halfN (((l.length : Nat) : Int)).toNat) : Nat) : Int)).toNat l)).length = 1))
                        (dmd (decide (0 ≤ (((halfN (((l.length : Nat) : Int)).toNat) : Nat) : Int)))
                          (dmd (((((halfN (((l.length : Nat) : Int)).toNat) : Nat) : Int)).toNat.ble l.length && l.length.ble l.length)
                            (dmd
                              ((List.drop ((((halfN (((l.length : Nat) : Int)).toNat) : Nat) : Int)).toNat (List.take l.length l)).length.blt
                                1099511627777)
                              (dmd (rokL (List.drop ((((halfN (((l.length : Nat) : Int)).toNat) : Nat) : Int)).toNat (List.take l.length l)))
                                ((0 = 0 ∧ 1 = 1) ∧
                                  K [AV.val (Sh.int IntKind.i64) 0]
                                    (some
                                      ⟨Sh.arr 32 (Sh.int IntKind.u8),
                                        [rootW
                                            (List.drop ((((halfN (((l.length : Nat) : Int)).toNat) : Nat) : Int)).toNat (List.take l.length l))]⟩))))))
                        (dmd (decide (0 ≤ (((halfN (((l.length : Nat) : Int)).toNat) : Nat) : Int)))
                          (dmd (((((halfN (((l.length : Nat) : Int)).toNat) : Nat) : Int)).toNat.ble l.length && l.length.ble l.length)
                            (dmd
                              ((List.drop ((((halfN (((l.length : Nat) : Int)).toNat) : Nat) : Int)).toNat (List.take l.length l)).length.blt
                                1099511627777)
                              (dmd (rokL (List.drop ((((halfN (((l.length : Nat) : Int)).toNat) : Nat) : Int)).toNat (List.take l.length l)))
                                (dmd
                                  ((pathW (List.drop 0 (List.take ((((halfN (((l.length : Nat) : Int)).toNat) : Nat) : Int)).toNat l))
                                            i.toNat).length.beq
                                      (pathW (List.drop 0 (List.take ((((halfN (((l.length : Nat) : Int)).toNat) : Nat) : Int)).toNat l))
                                          i.toNat).length &&
                                    (((pathW (List.drop 0 (List.take ((((halfN (((l.length : Nat) : Int)).toNat) : Nat) : Int)).toNat l))
                                                i.toNat).length +
                                            1) *
                                          32).ble
                                      140737488355328)
                                  ((0 = 0 ∧
                                      (pathW (List.drop 0 (List.take ((((halfN (((l.length : Nat) : Int)).toNat) : Nat) : Int)).toNat l))
                                              i.toNat).length +
                                          1 =
                                        ((pathW (List.drop 0 (List.take ((((halfN (((l.length : Nat) : Int)).toNat) : Nat) : Int)).toNat l))
                                                i.toNat).append
                                            [rootW
                                                (List.drop ((((halfN (((l.length : Nat) : Int)).toNat) : Nat) : Int)).toNat
                                                  (List.take l.length l))]).length) ∧
                                    K [AV.val (Sh.int IntKind.i64) 0]
                                      (some
                                        ⟨Sh.arr 32 (Sh.int IntKind.u8),
                                          (pathW (List.drop 0 (List.take ((((halfN (((l.length : Nat) : Int)).toNat) : Nat) : Int)).toNat l))
                                                i.toNat).append
                                            [rootW
                                                (List.drop ((((halfN (((l.length : Nat) : Int)).toNat) : Nat) : Int)).toNat
                                                  (List.take l.length l))]⟩)))))))))))))
            (dmd (decide (0 ≤ (((halfN (((l.length : Nat) : Int)).toNat) : Nat) : Int)))
              (dmd (((((halfN (((l.length : Nat) : Int)).toNat) : Nat) : Int)).toNat.ble l.length && l.length.ble l.length)
                (dmd ((List.drop ((((halfN (((l.length : Nat) : Int)).toNat) : Nat) : Int)).toNat (List.take l.length l)).length.blt n)
                  (dmd (rokL (List.drop ((((halfN (((l.length : Nat) : Int)).toNat) : Nat) : Int)).toNat (List.take l.length l)))
                    (dmd
                      (decide (0 ≤ IntKind.i64.wrap (i - (((halfN (((l.length : Nat) : Int)).toNat) : Nat) : Int))) &&
                        decide
                          (IntKind.i64.wrap (i - (((halfN (((l.length : Nat) : Int)).toNat) : Nat) : Int)) <
                            (((List.drop ((((halfN (((l.length : Nat) : Int)).toNat) : Nat) : Int)).toNat (List.take l.length l)).length : Nat) : Int)))
                      (ifB (decide ((List.drop ((((halfN (((l.length : Nat) : Int)).toNat) : Nat) : Int)).toNat (List.take l.length l)).length = 1))
                        (dmd (decide (0 ≤ (((halfN (((l.length : Nat) : Int)).toNat) : Nat) : Int)))
                          (dmd
                            (Nat.ble 0 ((((halfN (((l.length : Nat) : Int)).toNat) : Nat) : Int)).toNat &&
                              ((((halfN (((l.length : Nat) : Int)).toNat) : Nat) : Int)).toNat.ble l.length)
                            (dmd ((List.drop 0 (List.take ((((halfN (((l.length : Nat) : Int)).toNat) : Nat) : Int)).toNat l)).length.blt 1099511627777)
                              (dmd (rokL (List.drop 0 (List.take ((((halfN (((l.length : Nat) : Int)).toNat) : Nat) : Int)).toNat l)))
                                ((0 = 0 ∧ 1 = 1) ∧
                                  K [AV.val (Sh.int IntKind.i64) 0]
                                    (some
                                      ⟨Sh.arr 32 (Sh.int IntKind.u8),
                                        [rootW (List.drop 0 (List.take ((((halfN (((l.length : Nat) : Int)).toNat) : Nat) : Int)).toNat l))]⟩))))))
                        (dmd (decide (0 ≤ (((halfN (((l.length : Nat) : Int)).toNat) : Nat) : Int)))
                          (dmd
                            (Nat.ble 0 ((((halfN (((l.length : Nat) : Int)).toNat) : Nat) : Int)).toNat &&
                              ((((halfN (((l.length : Nat) : Int)).toNat) : Nat) : Int)).toNat.ble l.length)
                            (dmd ((List.drop 0 (List.take ((((halfN (((l.length : Nat) : Int)).toNat) : Nat) : Int)).toNat l)).length.blt 1099511627777)
                              (dmd (rokL (List.drop 0 (List.take ((((halfN (((l.length : Nat) : Int)).toNat) : Nat) : Int)).toNat l)))
                                (dmd
                                  ((pathW (List.drop ((((halfN (((l.length : Nat) : Int)).toNat) : Nat) : Int)).toNat (List.take l.length l))
                                            (IntKind.i64.wrap (i - (((halfN (((l.length : Nat) : Int)).toNat) : Nat) : Int))).toNat).length.beq
                                      (pathW (List.drop ((((halfN (((l.length : Nat) : Int)).toNat) : Nat) : Int)).toNat (List.take l.length l))
                                          (IntKind.i64.wrap (i - (((halfN (((l.length : Nat) : Int)).toNat) : Nat) : Int))).toNat).length &&
                                    (((pathW (List.drop ((((halfN (((l.length : Nat) : Int)).toNat) : Nat) : Int)).toNat (List.take l.length l))
                                                (IntKind.i64.wrap (i - (((halfN (((l.length : Nat) : Int)).toNat) : Nat) : Int))).toNat).length +
                                            1) *
                                          32).ble
                                      140737488355328)
                                  ((0 = 0 ∧
                                      (pathW (List.drop ((((halfN (((l.length : Nat) : Int)).toNat) : Nat) : Int)).toNat (List.take l.length l))
                                              (IntKind.i64.wrap (i - (((halfN (((l.length : Nat) : Int)).toNat) : Nat) : Int))).toNat).length +
                                          1 =
                                        ((pathW (List.drop ((((halfN (((l.length : Nat) : Int)).toNat) : Nat) : Int)).toNat (List.take l.length l))
                                                (IntKind.i64.wrap (i - (((halfN (((l.length : Nat) : Int)).toNat) : Nat) : Int))).toNat).append
                                            [rootW
                                                (List.drop 0 (List.take ((((halfN (((l.length : Nat) : Int)).toNat) : Nat) : Int)).toNat l))]).length) ∧
                                    K [AV.val (Sh.int IntKind.i64) 0]
                                      (some
                                        ⟨Sh.arr 32 (Sh.int IntKind.u8),
                                          (pathW (List.drop ((((halfN (((l.length : Nat) : Int)).toNat) : Nat) : Int)).toNat (List.take l.length l))
                                                (IntKind.i64.wrap (i - (((halfN (((l.length : Nat) : Int)).toNat) : Nat) : Int))).toNat).append
                                            [rootW
                                                (List.drop 0
                                                  (List.take ((((halfN (((l.length : Nat) : Int)).toNat) : Nat) : Int)).toNat l))]⟩)))))))))))))))))) := by kernel_rfl
noncomputable def pathO (l : List (List (BitVec 8))) (i : Nat) : OwnV := bif decide (l.length = 1) then none else some ⟨b32S, pathW l i⟩
theorem path_fw (n : Nat) (l : List (List (BitVec 8))) (i : Nat) (hl : l.length < n + 1) (hr : rokL l = true) (hi : i < l.length) : FWO (T3 n) Tryd.f36.ntmps (LTab.look []) 0 Tryd.f36 (argsOf [rwS, i64S] (l, ((i : Nat) : Int), ())) (fun l' o' => l' = [AV.val i64S 0] ∧ o' = pathO l i) := by
  obtain ⟨h1, h2⟩ := andB hr
  have h1 := of_decide_eq_true h1
  rw [fwPath, Int.toNat_natCast, Int.toNat_natCast, List.drop_zero, List.take_length, Int.toNat_natCast]
  refine ifB_dec (fun c => absurd c (by omega)) (fun _ => ifB_dec (fun c => absurd c (by omega)) (fun _ => ifB_dec (fun c => ?_) (fun c => ?_)))
  · refine ⟨rfl, ?_⟩
    unfold pathO; rw [decTr (show l.length = 1 by omega)]; rfl
  have c : ¬ l.length = 1 := by omega
  have hh := half_lt (n := l.length) (by omega)
  have lt : (l.take (halfN l.length)).length = halfN l.length := by rw [List.length_take]; omega
  have ld : (l.drop (halfN l.length)).length = l.length - halfN l.length := List.length_drop
  have eo : pathO l i = some ⟨b32S, pathW l i⟩ := by unfold pathO; rw [decFa c]; rfl
  have rt := rok_take (halfN l.length) hr
  have rd_ := rok_drop (halfN l.length) hr
  rw [lt, ld]
  refine dmd_of (andT (decTr (by omega)) (decTr (by omega))) (ifB_dec (fun d => ?_) (fun d => ?_))
  · have d : i < halfN l.length := by omega
    have pl := path_le (l.take (halfN l.length)) i
    rw [lt] at pl
    refine dmd_of (decTr (by omega)) (dmd_of (andT (bleT (by omega)) (bleT (by omega))) (dmd_of (bleT (by omega)) (dmd_of rt (dmd_of (andT (decTr (by omega)) (decTr (by omega))) (ifB_dec (fun e => ?_) (fun e => ?_))))))
    · refine dmd_of (decTr (by omega)) (dmd_of (andT (bleT (by omega)) (bleT (by omega))) (dmd_of (bleT (by omega)) (dmd_of rd_ ⟨⟨rfl, rfl⟩, rfl, ?_⟩)))
      rw [eo, pathW_l (by omega) d, pathW_0 (l := l.take (halfN l.length)) (by omega)]; rfl
    · refine dmd_of (decTr (by omega)) (dmd_of (andT (bleT (by omega)) (bleT (by omega))) (dmd_of (bleT (by omega)) (dmd_of rd_ (dmd_of (andT (beqn _) (bleT (by omega))) ⟨⟨rfl, ?_⟩, rfl, ?_⟩))))
      · show _ = (pathW (l.take (halfN l.length)) i ++ [_]).length
        rw [List.length_append]; rfl
      · rw [eo, pathW_l (by omega) d]; rfl
  · have d : ¬ i < halfN l.length := by omega
    have pl := path_le (l.drop (halfN l.length)) (i - halfN l.length)
    rw [ld] at pl
    rw [i64w (a := ((i : Nat) : Int) - ((halfN l.length : Nat) : Int)) (n := i - halfN l.length) (by omega) (by omega), Int.toNat_natCast]
    refine dmd_of (decTr (by omega)) (dmd_of (andT (bleT (by omega)) (bleT (by omega))) (dmd_of (bleT (by omega)) (dmd_of rd_ (dmd_of (andT (decTr (by omega)) (decTr (by omega))) (ifB_dec (fun e => ?_) (fun e => ?_))))))
    · refine dmd_of (decTr (by omega)) (dmd_of (andT (bleT (by omega)) (bleT (by omega))) (dmd_of (bleT (by omega)) (dmd_of rt ⟨⟨rfl, rfl⟩, rfl, ?_⟩)))
      rw [eo, pathW_r (by omega) d, pathW_0 (l := l.drop (halfN l.length)) (by omega)]; rfl
    · refine dmd_of (decTr (by omega)) (dmd_of (andT (bleT (by omega)) (bleT (by omega))) (dmd_of (bleT (by omega)) (dmd_of rt (dmd_of (andT (beqn _) (bleT (by omega))) ⟨⟨rfl, ?_⟩, rfl, ?_⟩))))
      · show _ = (pathW (l.drop (halfN l.length)) (i - halfN l.length) ++ [_]).length
        rw [List.length_append]; rfl
      · rw [eo, pathW_r (by omega) d]; rfl
theorem path_ok : ∀ n, COK Tryd.prog GL 36 (conW [.v rwS, .v i64S] 0 (pathF n))
  | 0 => conW_ok fun xs _ hc => absurd hc.1 (by
      have : Nat.blt (List.length xs.1) 0 = false := rfl
      rw [this]; decide)
  | n + 1 => conW_ok fun xs _ hc => by
    obtain ⟨l, i, ⟨⟩⟩ := xs
    obtain ⟨h1, h2, h3, _⟩ := hc
    have h3 := andB h3
    have h4 : (0 : Int) ≤ i := of_decide_eq_true h3.1
    have h5 : (i : Int) < ((List.length l : Nat) : Int) := of_decide_eq_true h3.2
    obtain ⟨j, rfl⟩ := Int.eq_ofNat_of_zero_le h4
    have h5 : ((j : Nat) : Int) < ((List.length l : Nat) : Int) := h5
    have e : (pathF (n + 1) (l, ((j : Nat) : Int), ())).val.1 = [AV.val i64S 0] ∧ (pathF (n + 1) (l, ((j : Nat) : Int), ())).val.2 = pathO l j := by
      show (bif decide (List.length l = 1) then (([AV.val i64S 0] : List AV), (none : OwnV)) else ([AV.val i64S 0], some ⟨b32S, pathW l j⟩)).1 = _ ∧ (bif decide (List.length l = 1) then (([AV.val i64S 0] : List AV), (none : OwnV)) else ([AV.val i64S 0], some ⟨b32S, pathW l j⟩)).2 = bif decide (List.length l = 1) then none else some ⟨b32S, pathW l j⟩
      cases decide (List.length l = 1) <;> exact ⟨rfl, rfl⟩
    rw [e.1, e.2]
    exact PCW_of_fw (np := 0) (l := [AV.val i64S 0]) (o := pathO l j) (t := []) shA_ok (CCons (path_ok n) (T1_ok _)) mixed Tryd.func36 (c := Tryd.f36.body.getD .skip) rfl (by kernel_rfl) (by kernel_rfl) loopsNil (fun v hv => by
      rw [List.mem_singleton] at hv
      subst hv; rfl) (path_fw n l j (Nat.le_of_ble_eq_true h1) h2 (by omega))
noncomputable def climbF (m : Nat) : HA [.v i64S, .v i64S, .v b32S, .v (.sl b32S)] → RT := fun xs => .dem (Nat.blt (List.length xs.2.2.2.1) m) (.dem (decide ((1 : Int) ≤ xs.1) && decide ((xs.1 : Int) ≤ 65536)) (.dem (decide ((0 : Int) ≤ xs.2.1) && decide ((xs.2.1 : Int) < xs.1)) (.ret (.tup [.val b32S (climbW (Int.toNat xs.1) (Int.toNat xs.2.1) xs.2.2.1 xs.2.2.2.1).1, .val .bool (climbW (Int.toNat xs.1) (Int.toNat xs.2.1) xs.2.2.1 xs.2.2.2.1).2]))))
noncomputable def T4c (m : Nat) : CTab := (54, conA [.v i64S, .v i64S, .v b32S, .v (.sl b32S)] (climbF m)) :: T0c
noncomputable abbrev T4 (m : Nat) : Go.Ty.Cx := mkX Tryd.prog GL shA (T4c m)
theorem fwClimb (m : Nat) (n i : Int) (d : List (BitVec 8)) (p : List (List (BitVec 8))) (P : SV → Prop) : FW (T4 m) Tryd.f54.ntmps (LTab.look []) Tryd.f54 (argsOf [i64S, i64S, b32S, .sl b32S] (n, i, d, p, ())) P =
 (  ifB (decide (n = 1)) (P (SV.tup [AV.val (Sh.arr 32 (Sh.int IntKind.u8)) d, AV.val Sh.bool (decide (((p.length : Nat) : Int) = 0))]))
    (ifB (decide (((p.length : Nat) : Int) = 0)) (P (SV.tup [AV.val (Sh.arr 32 (Sh.int IntKind.u8)) d, AV.val Sh.bool false]))
      (dmd (decide (0 ≤ n) && decide (n ≤ 1099511627776))
        (dmd (decide (0 ≤ IntKind.i64.wrap (((p.length : Nat) : Int) - 1)) && decide (IntKind.i64.wrap (((p.length : Nat) : Int) - 1) < ((p.length : Nat) : Int)))
          (ifB (decide (i < (((halfN n.toNat) : Nat) : Int)))
            (dmd (decide (0 ≤ IntKind.i64.wrap (((p.length : Nat) : Int) - 1)))
              (dmd
                (Nat.ble 0 (IntKind.i64.wrap (((p.length : Nat) : Int) - 1)).toNat &&
                  (IntKind.i64.wrap (((p.length : Nat) : Int) - 1)).toNat.ble p.length)
                (dmd ((List.drop 0 (List.take (IntKind.i64.wrap (((p.length : Nat) : Int) - 1)).toNat p)).length.blt m)
                  (dmd (decide (1 ≤ (((halfN n.toNat) : Nat) : Int)) && decide ((((halfN n.toNat) : Nat) : Int) ≤ 65536))
                    (dmd (decide (0 ≤ i) && decide (i < (((halfN n.toNat) : Nat) : Int)))
                      (P
                        (SV.tup
                          [AV.val (Sh.arr 32 (Sh.int IntKind.u8))
                              (nodeW
                                (climbW ((((halfN n.toNat) : Nat) : Int)).toNat i.toNat d
                                    (List.drop 0 (List.take (IntKind.i64.wrap (((p.length : Nat) : Int) - 1)).toNat p))).1
                                (rd (Sh.arr 32 (Sh.int IntKind.u8)) p (IntKind.i64.wrap (((p.length : Nat) : Int) - 1)).toNat)),
                            AV.val Sh.bool
                              (climbW ((((halfN n.toNat) : Nat) : Int)).toNat i.toNat d
                                  (List.drop 0 (List.take (IntKind.i64.wrap (((p.length : Nat) : Int) - 1)).toNat p))).2])))))))
            (dmd (decide (0 ≤ IntKind.i64.wrap (((p.length : Nat) : Int) - 1)))
              (dmd
                (Nat.ble 0 (IntKind.i64.wrap (((p.length : Nat) : Int) - 1)).toNat &&
                  (IntKind.i64.wrap (((p.length : Nat) : Int) - 1)).toNat.ble p.length)
                (dmd ((List.drop 0 (List.take (IntKind.i64.wrap (((p.length : Nat) : Int) - 1)).toNat p)).length.blt m)
                  (dmd
                    (decide (1 ≤ IntKind.i64.wrap (n - (((halfN n.toNat) : Nat) : Int))) &&
                      decide (IntKind.i64.wrap (n - (((halfN n.toNat) : Nat) : Int)) ≤ 65536))
                    (dmd
                      (decide (0 ≤ IntKind.i64.wrap (i - (((halfN n.toNat) : Nat) : Int))) &&
                        decide (IntKind.i64.wrap (i - (((halfN n.toNat) : Nat) : Int)) < IntKind.i64.wrap (n - (((halfN n.toNat) : Nat) : Int))))
                      (P
                        (SV.tup
                          [AV.val (Sh.arr 32 (Sh.int IntKind.u8))
                              (nodeW (rd (Sh.arr 32 (Sh.int IntKind.u8)) p (IntKind.i64.wrap (((p.length : Nat) : Int) - 1)).toNat)
                                (climbW (IntKind.i64.wrap (n - (((halfN n.toNat) : Nat) : Int))).toNat
                                    (IntKind.i64.wrap (i - (((halfN n.toNat) : Nat) : Int))).toNat d
                                    (List.drop 0 (List.take (IntKind.i64.wrap (((p.length : Nat) : Int) - 1)).toNat p))).1),
                            AV.val Sh.bool
                              (climbW (IntKind.i64.wrap (n - (((halfN n.toNat) : Nat) : Int))).toNat
                                  (IntKind.i64.wrap (i - (((halfN n.toNat) : Nat) : Int))).toNat d
                                  (List.drop 0 (List.take (IntKind.i64.wrap (((p.length : Nat) : Int) - 1)).toNat p))).2])))))))))))) := by kernel_rfl
theorem fwCheck (r : List (BitVec 8)) (n i : Int) (q : List (BitVec 8)) (p : List (List (BitVec 8))) (P : SV → Prop) : FW (T4 1099511627777) Tryd.f37.ntmps (LTab.look []) Tryd.f37 (argsOf [b32S, i64S, i64S, .sl u8S, .sl b32S] (r, n, i, q, p, ())) P =
 (  ifB (decide (n < 1)) (P (SV.av (AV.val Sh.bool false)))
    (ifB (decide (65536 < n)) (P (SV.av (AV.val Sh.bool false)))
      (ifB (decide (i < 0)) (P (SV.av (AV.val Sh.bool false)))
        (ifB (decide (n ≤ i)) (P (SV.av (AV.val Sh.bool false)))
          (dmd (q.length.ble 140737488355328)
            (dmd (p.length.blt 1099511627777)
              (dmd (decide (1 ≤ n) && decide (n ≤ 65536))
                (dmd (decide (0 ≤ i) && decide (i < n))
                  (ifB (climbW n.toNat i.toNat (leafW q) p).2
                    (P
                      (SV.av
                        (AV.val Sh.bool (teq (Sh.arr 32 (Sh.int IntKind.u8)) (climbW n.toNat i.toNat (leafW q) p).1 r))))
                    (P (SV.av (AV.val Sh.bool false)))))))))))) := by kernel_rfl
theorem climb_fw (m n i : Nat) (d : List (BitVec 8)) (p : List (List (BitVec 8))) (hm : m ≤ 1099511627777) (hp : p.length < m + 1) (h1 : 1 ≤ n) (h2 : n ≤ 65536) (hi : i < n) : FW (T4 m) Tryd.f54.ntmps (LTab.look []) Tryd.f54 (argsOf [i64S, i64S, b32S, .sl b32S] (((n : Nat) : Int), ((i : Nat) : Int), d, p, ())) (fun r => r = .tup [.val b32S (climbW n i d p).1, .val .bool (climbW n i d p).2]) := by
  rw [fwClimb]
  refine ifB_dec (fun c => ?_) (fun c => ifB_dec (fun e => ?_) (fun e => ?_))
  · have c : n = 1 := by omega
    subst c
    rw [climb_1, show decide (((p.length : Nat) : Int) = 0) = decide (p.length = 0) from decide_eq_decide.2 (by omega)]
  · rw [climb_0 (by omega) (by omega)]
  have c : n ≠ 1 := by omega
  have e : p.length ≠ 0 := by omega
  have hh := half_lt (n := n) (by omega)
  have lt : (p.take (p.length - 1)).length = p.length - 1 := by rw [List.length_take]; omega
  rw [i64w (a := ((p.length : Nat) : Int) - 1) (n := p.length - 1) (by omega) (by omega), Int.toNat_natCast, Int.toNat_natCast, Int.toNat_natCast, Int.toNat_natCast, List.drop_zero, lt]
  refine dmd_of (andT (decTr (by omega)) (decTr (by omega))) (dmd_of (andT (decTr (by omega)) (decTr (by omega))) (ifB_dec (fun f => ?_) (fun f => ?_)))
  · rw [climb_l c e (by omega)]
    exact dmd_of (decTr (by omega)) (dmd_of (andT (bleT (by omega)) (bleT (by omega))) (dmd_of (bleT (by omega)) (dmd_of (andT (decTr (by omega)) (decTr (by omega))) (dmd_of (andT (decTr (by omega)) (decTr (by omega))) rfl))))
  · rw [climb_r c e (by omega), i64w (a := ((n : Nat) : Int) - ((halfN n : Nat) : Int)) (n := n - halfN n) (by omega) (by omega), i64w (a := ((i : Nat) : Int) - ((halfN n : Nat) : Int)) (n := i - halfN n) (by omega) (by omega), Int.toNat_natCast, Int.toNat_natCast]
    exact dmd_of (decTr (by omega)) (dmd_of (andT (bleT (by omega)) (bleT (by omega))) (dmd_of (bleT (by omega)) (dmd_of (andT (decTr (by omega)) (decTr (by omega))) (dmd_of (andT (decTr (by omega)) (decTr (by omega))) rfl))))
theorem climb_ok : ∀ m, m ≤ 1099511627777 → COK Tryd.prog GL 54 (conA [.v i64S, .v i64S, .v b32S, .v (.sl b32S)] (climbF m))
  | 0, _ => conA_ok (fun xs _ hc => absurd hc.1 (by
      have : Nat.blt (List.length xs.2.2.2.1) 0 = false := rfl
      rw [this]; decide)) (fun _ => rfl)
  | m + 1, hm => conA_ok (fun xs _ hc => by
      obtain ⟨n, i, d, p, ⟨⟩⟩ := xs
      obtain ⟨h1, h2, h3, _⟩ := hc
      have h2 := andB h2
      have h3 := andB h3
      have a1 : (1 : Int) ≤ n := of_decide_eq_true h2.1
      have a2 : (n : Int) ≤ 65536 := of_decide_eq_true h2.2
      have a3 : (0 : Int) ≤ i := of_decide_eq_true h3.1
      have a4 : (i : Int) < n := of_decide_eq_true h3.2
      obtain ⟨n, rfl⟩ := Int.eq_ofNat_of_zero_le (Int.le_trans (by decide) a1)
      obtain ⟨i, rfl⟩ := Int.eq_ofNat_of_zero_le a3
      have a1 : (1 : Int) ≤ ((n : Nat) : Int) := a1
      have a2 : ((n : Nat) : Int) ≤ 65536 := a2
      have a4 : ((i : Nat) : Int) < ((n : Nat) : Int) := a4
      exact PC_of_fw (t := []) shA_ok (CCons (climb_ok m (by omega)) T0_ok) mixed Tryd.func54 (c := Tryd.f54.body.getD .skip) rfl (by kernel_rfl) (by kernel_rfl) loopsNil rfl (climb_fw m n i d p (by omega) (Nat.le_of_ble_eq_true h1) (by omega) (by omega) (by omega))) (fun _ => rfl)
def inI (n i : Int) : Bool := decide (1 ≤ n) && (decide (n ≤ 65536) && (decide (0 ≤ i) && decide (i < n)))
noncomputable def checkB (r : List (BitVec 8)) (n i : Int) (q : List (BitVec 8)) (p : List (List (BitVec 8))) : Bool :=
  inI n i && ((climbW n.toNat i.toNat (leafW q) p).2 && teq b32S (climbW n.toNat i.toNat (leafW q) p).1 r)
noncomputable def checkF : HA [.v b32S, .v i64S, .v i64S, .v (.sl u8S), .v (.sl b32S)] → RT := fun xs => .dem (Nat.ble (List.length xs.2.2.2.1) 140737488355328) (.dem (Nat.blt (List.length xs.2.2.2.2.1) 1099511627777) (.ret (.av (.val .bool (checkB xs.1 xs.2.1 xs.2.2.1 xs.2.2.2.1 xs.2.2.2.2.1)))))
theorem inI_no {n i : Int} (h : ¬ (1 ≤ n ∧ n ≤ 65536 ∧ 0 ≤ i ∧ i < n)) : inI n i = false := by
  unfold inI
  rw [← Bool.decide_and, ← Bool.decide_and, ← Bool.decide_and]
  exact decFa h
theorem check_fw (r : List (BitVec 8)) (n i : Int) (q : List (BitVec 8)) (p : List (List (BitVec 8))) (hq : Nat.ble q.length 140737488355328 = true) (hp : Nat.blt p.length 1099511627777 = true) : FW (T4 1099511627777) Tryd.f37.ntmps (LTab.look []) Tryd.f37 (argsOf [b32S, i64S, i64S, .sl u8S, .sl b32S] (r, n, i, q, p, ())) (fun x => x = .av (.val .bool (checkB r n i q p))) := by
  rw [fwCheck]
  unfold checkB
  refine ifB_dec (fun c => by rw [inI_no (by omega)]; rfl) (fun c => ifB_dec (fun d => by rw [inI_no (by omega)]; rfl) (fun d => ifB_dec (fun e => by rw [inI_no (by omega)]; rfl) (fun e => ifB_dec (fun f => by rw [inI_no (by omega)]; rfl) (fun f => ?_))))
  have h : inI n i = true := andT (decTr (by omega)) (andT (decTr (by omega)) (andT (decTr (by omega)) (decTr (by omega))))
  rw [h]
  refine dmd_of hq (dmd_of hp (dmd_of (andT (decTr (by omega)) (decTr (by omega))) (dmd_of (andT (decTr (by omega)) (decTr (by omega))) ?_)))
  cases (climbW n.toNat i.toNat (leafW q) p).2 <;> rfl
theorem check_ok : COK Tryd.prog GL 37 (conA [.v b32S, .v i64S, .v i64S, .v (.sl u8S), .v (.sl b32S)] checkF) :=
  conA_ok (fun xs _ hc => PC_of_fw (t := []) shA_ok (CCons (climb_ok 1099511627777 (Nat.le_refl _)) T0_ok) mixed Tryd.func37 (c := Tryd.f37.body.getD .skip) rfl (by kernel_rfl) (by kernel_rfl) loopsNil rfl (check_fw xs.1 xs.2.1 xs.2.2.1 xs.2.2.2.1 xs.2.2.2.2.1 hc.1 hc.2.1)) (fun _ => rfl)
noncomputable def T5c : CTab := (37, conA [.v b32S, .v i64S, .v i64S, .v (.sl u8S), .v (.sl b32S)] checkF) :: T3c 1099511627777
noncomputable abbrev T5 : Go.Ty.Cx := mkX Tryd.prog GL shA T5c
theorem T5_ok : ∀ p ∈ T5c, COK Tryd.prog GL p.1 p.2 := CCons check_ok (CCons (path_ok _) (T1_ok _))

/-! ## The path of each leaf -/
theorem fwTreeP (l : Sh.T (rwS)) (i : Sh.T (i64S)) (P : SV → Prop) : FW T5 Tryd.f10.ntmps (LTab.look []) Tryd.f10 (argsOf [rwS, i64S] (l, i, ())) P =
 (  ifB (decide (60 < (((List.length l) : Nat) : Int))) (P (SV.av (AV.val Sh.bool true)))
    (ifB (decide (i < 0)) (P (SV.av (AV.val Sh.bool true)))
      (ifB (decide ((((List.length l) : Nat) : Int) ≤ i)) (P (SV.av (AV.val Sh.bool true)))
        (dmd ((List.length l).blt 1099511627777)
          (dmd (rokL l)
            (dmd (decide (0 ≤ i) && decide (i < (((List.length l) : Nat) : Int)))
              (ifB (decide (List.length l = 1))
                (dmd ((List.length l).blt 1099511627777)
                  (dmd (rokL l)
                    (dmd (decide (0 ≤ i) && decide (i < (((List.length l) : Nat) : Int)))
                      (dmd ((List.length (rd (Sh.int IntKind.u8).sl l (Int.toNat i))).ble 140737488355328)
                        (P
                          (SV.av
                            (AV.val Sh.bool
                              (checkB (rootW l) ((((List.length l) : Nat) : Int)) i (rd (Sh.int IntKind.u8).sl l (Int.toNat i))
                                []))))))))
                (ifB (decide ((((pathW l (Int.toNat i)).length : Nat) : Int) ≤ 6))
                  (dmd ((List.length l).blt 1099511627777)
                    (dmd (rokL l)
                      (dmd (decide (0 ≤ i) && decide (i < (((List.length l) : Nat) : Int)))
                        (dmd ((List.length (rd (Sh.int IntKind.u8).sl l (Int.toNat i))).ble 140737488355328)
                          (dmd
                            ((List.take (pathW l (Int.toNat i)).length (List.drop 0 (pathW l (Int.toNat i)))).length.blt
                              1099511627777)
                            (P
                              (SV.av
                                (AV.val Sh.bool
                                  (checkB (rootW l) ((((List.length l) : Nat) : Int)) i (rd (Sh.int IntKind.u8).sl l (Int.toNat i))
                                    (List.take (pathW l (Int.toNat i)).length
                                      (List.drop 0 (pathW l (Int.toNat i)))))))))))))
                  (P (SV.av (AV.val Sh.bool false))))))))))) := by kernel_rfl
theorem check_path (l : List (List (BitVec 8))) (i : Nat) (hl : l.length ≤ 60) (hi : i < l.length) : checkB (rootW l) ((l.length : Nat) : Int) ((i : Nat) : Int) (rd (.sl u8S) l i) (pathW l i) = true := by
  have h := climb_path _ l i (Nat.le_refl _) hi
  unfold checkB
  rw [Int.toNat_natCast, Int.toNat_natCast, h]
  refine andT (andT (decTr (by omega)) (andT (decTr (by omega)) (andT (decTr (by omega)) (decTr (by omega))))) (andT rfl (teq_of rfl))
theorem treeP_fw (l : List (List (BitVec 8))) (i : Int) (sl : smL l = true) : FW T5 Tryd.f10.ntmps (LTab.look []) Tryd.f10 (argsOf [rwS, i64S] (l, i, ())) (fun r => r = .av (.val .bool true)) := by
  rw [fwTreeP]
  refine ifB_dec (fun _ => rfl) (fun a => ifB_dec (fun _ => rfl) (fun b => ifB_dec (fun _ => rfl) (fun c => ?_)))
  have b : ¬ i < (0 : Int) := b
  have c : ¬ ((l.length : Nat) : Int) ≤ i := c
  obtain ⟨j, rfl⟩ := Int.eq_ofNat_of_zero_le (show 0 ≤ i by omega)
  have hl : l.length ≤ 60 := by omega
  have hj : j < l.length := by omega
  have hr : rokL l = true := andT (decTr (by omega)) sl
  have hb : Nat.blt (List.length l) 1099511627777 = true := bleT (by omega)
  have h6 : (pathW l j).length ≤ 6 := by
    rw [path_dep _ l j (Nat.le_refl _)]
    exact dep_le 6 _ j (show l.length ≤ 64 by omega)
  have hi : (decide ((0 : Int) ≤ ((j : Nat) : Int)) && decide (((j : Nat) : Int) < ((List.length l : Nat) : Int))) = true := inB hj
  have hs := smL_rd sl hj
  have hc := check_path l j hl hj
  have ep : List.take (pathW l j).length (List.drop 0 (pathW l j)) = pathW l j := drop0_take _ _ rfl
  rw [Int.toNat_natCast, ep]
  refine dmd_of hb (dmd_of hr (dmd_of hi (ifB_dec (fun d => ?_) (fun d => ?_))))
  · rw [pathW_0 (by omega)] at hc
    exact dmd_of hb (dmd_of hr (dmd_of hi (dmd_of (bleT hs) (pbool hc))))
  · exact ifB_dec (fun _ => dmd_of hb (dmd_of hr (dmd_of hi (dmd_of (bleT hs) (dmd_of (bleT (by omega)) (pbool hc)))))) (fun e => absurd (show (((pathW l j).length : Nat) : Int) ≤ 6 by omega) e)
theorem sm_ok {l : List (List (BitVec 8))} (h : ∀ x ∈ l, Sh.okTB 140737488351232 (.sl u8S) x) : smL l = true := by
  unfold smL
  rw [List.all_eq_true]
  intro x hx
  have h3 : List.length x * 1 ≤ 140737488351232 := (h x hx).1
  exact decTr (by omega)
theorem walkTreePaths (xs : HL [rwS, i64S]) (h : okHL [rwS, i64S] xs) : PC (bx Tryd.prog GL) 10 (argsOf [rwS, i64S] xs) (.av (.val .bool true)) := by
  obtain ⟨l, i, ⟨⟩⟩ := xs
  exact PC_of_fw (t := []) shA_ok T5_ok mixed Tryd.func10 (c := Tryd.f10.body.getD .skip) rfl (by kernel_rfl) (by kernel_rfl) loopsNil rfl (treeP_fw l i (sm_ok h.1.2.2))
end Go.Proofs.YtonlmamfggfanaaDoor
