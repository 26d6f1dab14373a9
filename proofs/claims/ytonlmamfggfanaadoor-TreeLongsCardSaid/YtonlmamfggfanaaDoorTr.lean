import Derived.Test.YtonlmamfggfanaaDoorHu
namespace Go.Proofs.YtonlmamfggfanaaDoor
open Go.Ty

/-! ## Trees -/
abbrev rwS : Sh := .sl (.sl u8S)
noncomputable def leafW (p : List (BitVec 8)) : List (BitVec 8) := sumW (writeW (writeW newD [0#8]) p)
noncomputable def nodeW (a b : List (BitVec 8)) : List (BitVec 8) := sumW (writeW (writeW (writeW newD [1#8]) (List.take 32 (List.drop 0 a))) (List.take 32 (List.drop 0 b)))
theorem fwLeaf (p : Sh.T (.sl u8S)) (P : SV → Prop) : FW H6 Tryd.f52.ntmps (LTab.look []) Tryd.f52 (argsOf [.sl u8S] (p, ())) P =
 (  dmd true
    (dmd ((List.length p).ble 140737488355328)
      (P (SV.av (AV.val (Sh.arr 32 (Sh.int IntKind.u8)) (sumW (writeW (writeW newD [0#8]) p))))))) := by kernel_rfl
theorem fwNode (a : Sh.T (b32S)) (b : Sh.T (b32S)) (P : SV → Prop) : FW H6 Tryd.f26.ntmps (LTab.look []) Tryd.f26 (argsOf [b32S, b32S] (a, b, ())) P =
 (  dmd true
    (dmd ((List.take 32 (List.drop 0 a)).length.ble 140737488355328)
      (dmd ((List.take 32 (List.drop 0 b)).length.ble 140737488355328)
        (P
          (SV.av
            (AV.val (Sh.arr 32 (Sh.int IntKind.u8))
              (sumW
                (writeW (writeW (writeW newD [1#8]) (List.take 32 (List.drop 0 a))) (List.take 32 (List.drop 0 b)))))))))) := by kernel_rfl
theorem leaf_ok : COK Tryd.prog GL 52 (conA [.v (.sl u8S)] fun xs => .dem (Nat.ble (List.length xs.1) 140737488355328) (.ret (.av (.val b32S (leafW xs.1))))) :=
  conA_ok (fun xs _ hc => PC_of_fw (t := []) shA_ok H6_ok mixed Tryd.func52 (c := Tryd.f52.body.getD .skip) rfl (by kernel_rfl) (by kernel_rfl) loopsNil rfl ((fwLeaf xs.1 _).mpr (dmd_of rfl (dmd_of hc.1 rfl)))) (fun _ => rfl)
theorem tk32 (a : List (BitVec 8)) : (List.take 32 (List.drop 0 a)).length ≤ 140737488355328 := by rw [List.length_take]; omega
theorem node_ok : COK Tryd.prog GL 26 (conT [b32S, b32S] fun xs => .av (.val b32S (nodeW xs.1 xs.2.1))) :=
  conT_ok (fun xs _ => PC_of_fw (t := []) shA_ok H6_ok mixed Tryd.func26 (c := Tryd.f26.body.getD .skip) rfl (by kernel_rfl) (by kernel_rfl) loopsNil rfl ((fwNode xs.1 xs.2.1 _).mpr (dmd_of rfl (dmd_of (bleT (tk32 _)) (dmd_of (bleT (tk32 _)) rfl))))) (fun _ => rfl)

/-! ## The half -/
def hfN : Nat → Nat → Nat → Nat
  | 0, _, k => k
  | f + 1, n, k => bif decide (k < n - k) then hfN f n (2 * k) else k
def halfN (n : Nat) : Nat := hfN n n 1
theorem hf_lt : ∀ (f n k : Nat), 1 ≤ k → k < n → 1 ≤ hfN f n k ∧ hfN f n k < n
  | 0, _, _, h1, h2 => ⟨h1, h2⟩
  | f + 1, n, k, h1, h2 => by
    unfold hfN
    by_cases c : k < n - k
    · rw [decTr c]; exact hf_lt f n (2 * k) (by omega) (by omega)
    · rw [decFa c]; exact ⟨h1, h2⟩
theorem half_lt {n : Nat} (h : 2 ≤ n) : 1 ≤ halfN n ∧ halfN n < n := hf_lt n n 1 (Nat.le_refl 1) (by omega)
theorem hf_pow : ∀ (d f k n : Nat), d ≤ f → k * 2 ^ d < n → n ≤ 2 * (k * 2 ^ d) → hfN f n k = k * 2 ^ d
  | 0, 0, k, _, _, _, _ => (Nat.mul_one k).symm
  | 0, f + 1, k, n, _, h1, h2 => by
    rw [Nat.pow_zero, Nat.mul_one] at *
    unfold hfN
    rw [decFa (show ¬ k < n - k by omega)]; rfl
  | d + 1, 0, _, _, h, _, _ => absurd h (Nat.not_succ_le_zero d)
  | d + 1, f + 1, k, n, h, h1, h2 => by
    have e : k * 2 ^ (d + 1) = (2 * k) * 2 ^ d := by rw [Nat.pow_succ, Nat.mul_comm (2 ^ d) 2, ← Nat.mul_assoc, Nat.mul_comm k 2]
    rw [e] at h1 h2 ⊢
    have h3 : 2 * k ≤ (2 * k) * 2 ^ d := Nat.le_mul_of_pos_right _ (Nat.pow_pos (by decide))
    unfold hfN
    rw [decTr (show k < n - k by omega)]
    exact hf_pow d f (2 * k) n (Nat.le_of_succ_le_succ h) h1 h2
theorem half_pow {j m : Nat} (h1 : 1 ≤ m) (h2 : m ≤ 2 ^ j) : halfN (2 ^ j + m) = 2 ^ j := by
  have h3 : j < 2 ^ j := Nat.lt_two_pow_self
  have h := hf_pow j (2 ^ j + m) 1 (2 ^ j + m) (by omega) (by omega) (by omega)
  rw [Nat.one_mul] at h
  exact h
abbrev Ith : List It := [.v 0 i64S, .v 3 i64S]
abbrev oth : List (Nat × List It) := [(0, [.v 3 i64S])]
noncomputable def Qth : LQ Ith [] oth := fun x _ Kx => ∃ n : Nat, x = (((n : Nat) : Int), (1 : Int), ()) ∧ n ≤ 1099511627776 ∧ Kx.1 (((halfN n : Nat) : Int), ())
noncomputable def bth : Code := Tryd.f53.body.getD .skip
noncomputable abbrev Lth : LTab := [(2, ptL Ith [] oth Qth)]
theorem roundth (n k : Int) (Kn : HI Ith → Prop) (Kr : HI [] → Prop) (Kx : HP oth) : roundT (W H6 Tryd.f53.ntmps (LTab.look Lth) (bodyAt bth 2)) Ith [] oth (n, k, ()) Kn Kr Kx =
 (  ifB (decide (k < IntKind.i64.wrap (n - k))) (Kn (n, IntKind.i64.wrap (k * 2), PUnit.unit)) (Kx.1 (k, PUnit.unit))) := by kernel_rfl
theorem fwHalf (n : Sh.T (i64S)) (P : SV → Prop) : FW H6 Tryd.f53.ntmps (LTab.look Lth) Tryd.f53 (argsOf [i64S] (n, ())) P =
 (  Qth (n, 1, PUnit.unit) (fun _ => False) (fun x => P (SV.av (AV.val (Sh.int IntKind.i64) x.1)), PUnit.unit)) := by kernel_rfl
theorem loopth : ∀ x Kr Kx, Qth x Kr Kx → ∃ n, untl (W H6 Tryd.f53.ntmps (LTab.look Lth) (bodyAt bth 2)) Ith [] oth n x Kr Kx := by
  rintro x Kr Kx ⟨n, ex, hn, hK⟩
  have key : ∀ (f k : Nat), 1 ≤ k → k ≤ n + 1 → n - k ≤ f → Kx.1 (((hfN f n k : Nat) : Int), ()) → untl (W H6 Tryd.f53.ntmps (LTab.look Lth) (bodyAt bth 2)) Ith [] oth (f + 1) (((n : Nat) : Int), ((k : Nat) : Int), ()) Kr Kx := by
    intro f
    induction f with
    | zero =>
      intro k h1 h2 h3 h
      rw [untl_succ, roundth, IntWalk.i64_in (((n : Nat) : Int) - ((k : Nat) : Int)) (by omega)]
      exact ifB_dec (fun c => absurd c (by omega)) (fun _ => h)
    | succ f ih =>
      intro k h1 h2 h3 h
      rw [untl_succ, roundth, IntWalk.i64_in (((n : Nat) : Int) - ((k : Nat) : Int)) (by omega)]
      unfold hfN at h
      by_cases c : k < n - k
      · rw [decTr c] at h
        rw [i64w (a := ((k : Nat) : Int) * 2) (n := 2 * k) (by omega) (by omega)]
        exact ifB_dec (fun _ => ih (2 * k) (by omega) (by omega) (by omega) h) (fun d => absurd (show ((k : Nat) : Int) < ((n : Nat) : Int) - ((k : Nat) : Int) by omega) d)
      · rw [decFa c] at h
        exact ifB_dec (fun d => absurd d (by omega)) (fun _ => h)
  rw [ex]
  exact ⟨n + 1, key n 1 (Nat.le_refl 1) (by omega) (by omega) hK⟩
theorem half_fw (n : Int) (h0 : 0 ≤ n) (h1 : n ≤ 1099511627776) : FW H6 Tryd.f53.ntmps (LTab.look Lth) Tryd.f53 (argsOf [i64S] (n, ())) (fun r => r = .av (.val i64S ((halfN n.toNat : Nat) : Int))) := by
  obtain ⟨m, rfl⟩ := Int.eq_ofNat_of_zero_le h0
  rw [fwHalf]
  exact ⟨m, rfl, by omega, rfl⟩
theorem half_ok : COK Tryd.prog GL 53 (conA [.v i64S] fun xs => .dem (decide (0 ≤ (xs.1 : Int)) && decide ((xs.1 : Int) ≤ 1099511627776)) (.ret (.av (.val i64S ((halfN (Int.toNat xs.1) : Nat) : Int))))) :=
  conA_ok (fun xs _ hc => PC_of_fw (t := Lth) shA_ok H6_ok mixed Tryd.func53 (c := bth) rfl (by kernel_rfl) (by kernel_rfl)
    (loopsOK (by kernel_rfl) (LTCons (loop_of shA_ok H6_ok mixed (loopsOK (by kernel_rfl) (LTCons (noLoop (by kernel_rfl)) LTNil)) (by kernel_rfl) loopth) LTNil)) rfl (half_fw xs.1 (of_decide_eq_true (andB hc.1).1) (of_decide_eq_true (andB hc.1).2))) (fun _ => rfl)

/-! ## The root -/
noncomputable def rootW (l : List (List (BitVec 8))) : List (BitVec 8) :=
  if _ : l.length = 0 then digW [] else if _ : l.length = 1 then leafW (rd (.sl u8S) l 0) else nodeW (rootW (l.take (halfN l.length))) (rootW (l.drop (halfN l.length)))
termination_by l.length
decreasing_by
  · have := half_lt (n := l.length) (by omega)
    rw [List.length_take]; omega
  · have := half_lt (n := l.length) (by omega)
    rw [List.length_drop]; omega
theorem rootW_0 {l : List (List (BitVec 8))} (h : l.length = 0) : rootW l = digW [] := by rw [rootW, dif_pos h]
theorem rootW_1 {l : List (List (BitVec 8))} (h : l.length = 1) : rootW l = leafW (rd (.sl u8S) l 0) := by rw [rootW, dif_neg (by omega), dif_pos h]
theorem rootW_2 {l : List (List (BitVec 8))} (h : 2 ≤ l.length) : rootW l = nodeW (rootW (l.take (halfN l.length))) (rootW (l.drop (halfN l.length))) := by rw [rootW, dif_neg (by omega), dif_neg (by omega)]
def smL (l : List (List (BitVec 8))) : Bool := l.all fun p => decide (p.length ≤ 140737488355328)
def rokL (l : List (List (BitVec 8))) : Bool := decide (l.length ≤ 1099511627776) && smL l
theorem smL_take {l : List (List (BitVec 8))} (i : Nat) (h : smL l = true) : smL (l.take i) = true := by
  unfold smL at *; rw [List.all_eq_true] at *; exact fun x hx => h x (List.mem_of_mem_take hx)
theorem smL_drop {l : List (List (BitVec 8))} (i : Nat) (h : smL l = true) : smL (l.drop i) = true := by
  unfold smL at *; rw [List.all_eq_true] at *; exact fun x hx => h x (List.mem_of_mem_drop hx)
theorem smL_rd {l : List (List (BitVec 8))} {i : Nat} (h : smL l = true) (hi : i < l.length) : (rd (.sl u8S) l i).length ≤ 140737488355328 := by
  unfold smL at h; rw [List.all_eq_true] at h
  have e : rd (.sl u8S) l i = l[i] := rd_at hi
  rw [e]
  exact of_decide_eq_true (h _ (List.getElem_mem hi))
theorem rok_take {l : List (List (BitVec 8))} (i : Nat) (h : rokL l = true) : rokL (l.take i) = true := by
  obtain ⟨h1, h2⟩ := andB h
  have h1 := of_decide_eq_true h1
  exact andT (decTr (by rw [List.length_take]; omega)) (smL_take i h2)
theorem rok_drop {l : List (List (BitVec 8))} (i : Nat) (h : rokL l = true) : rokL (l.drop i) = true := by
  obtain ⟨h1, h2⟩ := andB h
  have h1 := of_decide_eq_true h1
  exact andT (decTr (by rw [List.length_drop]; omega)) (smL_drop i h2)
noncomputable def T0c : CTab := (52, conA [.v (.sl u8S)] fun xs => .dem (Nat.ble (List.length xs.1) 140737488355328) (.ret (.av (.val b32S (leafW xs.1))))) :: (26, conT [b32S, b32S] fun xs => .av (.val b32S (nodeW xs.1 xs.2.1))) :: (53, conA [.v i64S] fun xs => .dem (decide (0 ≤ (xs.1 : Int)) && decide ((xs.1 : Int) ≤ 1099511627776)) (.ret (.av (.val i64S ((halfN (Int.toNat xs.1) : Nat) : Int))))) :: H6c
theorem T0_ok : ∀ p ∈ T0c, COK Tryd.prog GL p.1 p.2 := CCons leaf_ok (CCons node_ok (CCons half_ok H6_ok))
noncomputable def rootF (n : Nat) : HA [.v rwS] → RT := fun xs => .dem (Nat.blt (List.length xs.1) n) (.dem (rokL xs.1) (.ret (.av (.val b32S (rootW xs.1)))))
noncomputable def T1c (n : Nat) : CTab := (25, conA [.v rwS] (rootF n)) :: T0c
noncomputable abbrev T1 (n : Nat) : Go.Ty.Cx := mkX Tryd.prog GL shA (T1c n)
theorem fwRoot (n : Nat) (l : List (List (BitVec 8))) (P : SV → Prop) : FW (T1 n) Tryd.f25.ntmps (LTab.look []) Tryd.f25 (argsOf [rwS] (l, ())) P =
 (  ifB (decide (((l.length : Nat) : Int) = 0)) (P (SV.av (AV.val (Sh.arr 32 (Sh.int IntKind.u8)) (digW []))))
    (ifB (decide (((l.length : Nat) : Int) = 1))
      (dmd (decide (0 < ((l.length : Nat) : Int)))
        (dmd ((List.length (rd (Sh.int IntKind.u8).sl l 0)).ble 140737488355328)
          (P (SV.av (AV.val (Sh.arr 32 (Sh.int IntKind.u8)) (leafW (rd (Sh.int IntKind.u8).sl l 0)))))))
      (dmd (decide (0 ≤ ((l.length : Nat) : Int)) && decide (((l.length : Nat) : Int) ≤ 1099511627776))
        (dmd (decide (0 ≤ (((halfN (((l.length : Nat) : Int)).toNat) : Nat) : Int)))
          (dmd (Nat.ble 0 ((((halfN (((l.length : Nat) : Int)).toNat) : Nat) : Int)).toNat && ((((halfN (((l.length : Nat) : Int)).toNat) : Nat) : Int)).toNat.ble l.length)
            (dmd ((List.drop 0 (List.take ((((halfN (((l.length : Nat) : Int)).toNat) : Nat) : Int)).toNat l)).length.blt n)
              (dmd (rokL (List.drop 0 (List.take ((((halfN (((l.length : Nat) : Int)).toNat) : Nat) : Int)).toNat l)))
                (dmd (decide (0 ≤ (((halfN (((l.length : Nat) : Int)).toNat) : Nat) : Int)))
                  (dmd (((((halfN (((l.length : Nat) : Int)).toNat) : Nat) : Int)).toNat.ble l.length && l.length.ble l.length)
                    (dmd ((List.drop ((((halfN (((l.length : Nat) : Int)).toNat) : Nat) : Int)).toNat (List.take l.length l)).length.blt n)
                      (dmd (rokL (List.drop ((((halfN (((l.length : Nat) : Int)).toNat) : Nat) : Int)).toNat (List.take l.length l)))
                        (P
                          (SV.av
                            (AV.val (Sh.arr 32 (Sh.int IntKind.u8))
                              (nodeW (rootW (List.drop 0 (List.take ((((halfN (((l.length : Nat) : Int)).toNat) : Nat) : Int)).toNat l)))
                                (rootW
                                  (List.drop ((((halfN (((l.length : Nat) : Int)).toNat) : Nat) : Int)).toNat (List.take l.length l)))))))))))))))))) := by kernel_rfl
theorem root_fw (n : Nat) (l : List (List (BitVec 8))) (hl : l.length < n + 1) (hr : rokL l = true) : FW (T1 n) Tryd.f25.ntmps (LTab.look []) Tryd.f25 (argsOf [rwS] (l, ())) (fun r => r = .av (.val b32S (rootW l))) := by
  obtain ⟨h1, h2⟩ := andB hr
  have h1 := of_decide_eq_true h1
  rw [fwRoot, Int.toNat_natCast, Int.toNat_natCast, List.drop_zero, List.take_length]
  refine ifB_dec (fun c => by rw [rootW_0 (by omega)]) (fun c => ifB_dec (fun d => ?_) (fun d => ?_))
  · exact dmd_of (decTr (by omega)) (dmd_of (bleT (smL_rd h2 (by omega))) (by rw [rootW_1 (by omega)]))
  · have hh := half_lt (n := l.length) (by omega)
    refine dmd_of (andT (decTr (by omega)) (decTr (by omega))) (dmd_of (decTr (by omega)) (dmd_of (andT (bleT (by omega)) (bleT (by omega))) (dmd_of (bleT ?_) (dmd_of (rok_take _ hr) (dmd_of (decTr (by omega)) (dmd_of (andT (bleT (by omega)) (bleT (by omega))) (dmd_of (bleT ?_) (dmd_of (rok_drop _ hr) ?_))))))))
    · show (l.take (halfN l.length)).length + 1 ≤ n
      rw [List.length_take]; omega
    · show (l.drop (halfN l.length)).length + 1 ≤ n
      rw [List.length_drop]; omega
    · have hr2 := rootW_2 (l := l) (by omega)
      rw [hr2]
theorem root_ok : ∀ n, COK Tryd.prog GL 25 (conA [.v rwS] (rootF n))
  | 0 => conA_ok (fun xs _ hc => absurd hc.1 (by
      have : Nat.blt (List.length xs.1) 0 = false := rfl
      rw [this]; decide)) (fun _ => rfl)
  | n + 1 => conA_ok (fun xs _ hc => PC_of_fw (t := []) shA_ok (CCons (root_ok n) T0_ok) mixed Tryd.func25 (c := Tryd.f25.body.getD .skip) rfl (by kernel_rfl) (by kernel_rfl) loopsNil rfl (root_fw n xs.1 (Nat.le_of_ble_eq_true hc.1) hc.2.1)) (fun _ => rfl)
theorem T1_ok (n : Nat) : ∀ p ∈ T1c n, COK Tryd.prog GL p.1 p.2 := CCons (root_ok n) T0_ok

/-! ## Halves -/
set_option maxRecDepth 100000 in
theorem fwTrees (P : SV → Prop) : FW (T1 1099511627777) Tryd.f24.ntmps (LTab.look []) Tryd.f24 (argsOf [] ()) P = (P (SV.av (AV.val Sh.bool (!teq b32S (rootW []) (List.replicate 32 0#8))))) := by kernel_rfl
set_option maxRecDepth 100000 in
theorem trees_pc : PC (bx Tryd.prog GL) 24 (argsOf [] ()) (.av (.val .bool true)) :=
  PC_of_fw (t := []) (ct := T1c 1099511627777) (st := shA) (c := Tryd.f24.body.getD .skip) shA_ok (T1_ok _) mixed Tryd.func24 rfl (by kernel_rfl) (by kernel_rfl) loopsNil rfl ((fwTrees _).mpr (by
    rw [rootW_0 rfl, teq_ne (s := b32S) (fun h => by rw [dig_nil] at h; cases h)]; rfl))
theorem trees_ok : COK Tryd.prog GL 24 (conT [] fun _ => .av (.val .bool true)) := conT_ok (fun _ _ => trees_pc) (fun _ => rfl)
noncomputable def T2c : CTab := (24, conT [] fun _ => .av (.val .bool true)) :: T1c 1099511627777
noncomputable abbrev T2 : Go.Ty.Cx := mkX Tryd.prog GL shA T2c
theorem T2_ok : ∀ p ∈ T2c, COK Tryd.prog GL p.1 p.2 := CCons trees_ok (T1_ok _)
theorem fwTreeH (l : Sh.T (rwS)) (m : Sh.T (rwS)) (n : Sh.T (i64S)) (P : SV → Prop) : FW T2 Tryd.f6.ntmps (LTab.look []) Tryd.f6 (argsOf [rwS, rwS, i64S] (l, m, n, ())) P =
 (  ifB (decide (n < 0)) (P (SV.av (AV.val Sh.bool true)))
    (ifB (decide (5 < n)) (P (SV.av (AV.val Sh.bool true)))
      (dmd (decide (0 ≤ n))
        (ifB (decide ((((List.length l) : Nat) : Int) < ishl IntKind.i64 1 (Int.toNat n))) (P (SV.av (AV.val Sh.bool true)))
          (ifB (decide ((((List.length m) : Nat) : Int) = 0)) (P (SV.av (AV.val Sh.bool true)))
            (dmd (decide (0 ≤ n))
              (ifB (decide (ishl IntKind.i64 1 (Int.toNat n) < (((List.length m) : Nat) : Int))) (P (SV.av (AV.val Sh.bool true)))
                (dmd (decide (0 ≤ n))
                  (dmd (decide (0 ≤ ishl IntKind.i64 1 (Int.toNat n)))
                    (dmd
                      (Nat.ble 0 (ishl IntKind.i64 1 (Int.toNat n)).toNat &&
                        (ishl IntKind.i64 1 (Int.toNat n)).toNat.ble (List.length l))
                      (ifB ((List.drop 0 (List.take (ishl IntKind.i64 1 (Int.toNat n)).toNat l)).length.beq 0)
                        (ifB ((List.length m).beq 0)
                          (dmd (rokL [])
                            (dmd
                              ((List.drop 0 (List.take (ishl IntKind.i64 1 (Int.toNat n)).toNat l)).length.blt
                                1099511627777)
                              (dmd (rokL (List.drop 0 (List.take (ishl IntKind.i64 1 (Int.toNat n)).toNat l)))
                                (dmd ((List.length m).blt 1099511627777)
                                  (dmd (rokL m)
                                    (P
                                      (SV.av
                                        (AV.val Sh.bool
                                          (teq (Sh.arr 32 (Sh.int IntKind.u8)) (rootW [])
                                            (nodeW
                                              (rootW (List.drop 0 (List.take (ishl IntKind.i64 1 (Int.toNat n)).toNat l)))
                                              (rootW m)))))))))))
                          (dmd ((List.length m * 24).ble 140737488355328)
                            (dmd ((List.take (List.length m) (List.drop 0 m)).length.blt 1099511627777)
                              (dmd (rokL (List.take (List.length m) (List.drop 0 m)))
                                (dmd
                                  ((List.drop 0 (List.take (ishl IntKind.i64 1 (Int.toNat n)).toNat l)).length.blt
                                    1099511627777)
                                  (dmd (rokL (List.drop 0 (List.take (ishl IntKind.i64 1 (Int.toNat n)).toNat l)))
                                    (dmd ((List.length m).blt 1099511627777)
                                      (dmd (rokL m)
                                        (P
                                          (SV.av
                                            (AV.val Sh.bool
                                              (teq (Sh.arr 32 (Sh.int IntKind.u8))
                                                (rootW (List.take (List.length m) (List.drop 0 m)))
                                                (nodeW
                                                  (rootW
                                                    (List.drop 0 (List.take (ishl IntKind.i64 1 (Int.toNat n)).toNat l)))
                                                  (rootW m))))))))))))))
                        (dmd
                          (((List.drop 0 (List.take (ishl IntKind.i64 1 (Int.toNat n)).toNat l)).length * 24).ble
                            140737488355328)
                          (dmd
                            ((List.drop 0 (List.take (ishl IntKind.i64 1 (Int.toNat n)).toNat l)).length.beq
                                (List.drop 0 (List.take (ishl IntKind.i64 1 (Int.toNat n)).toNat l)).length &&
                              (((List.drop 0 (List.take (ishl IntKind.i64 1 (Int.toNat n)).toNat l)).length +
                                      List.length m) *
                                    24).ble
                                140737488355328)
                            (dmd
                              ((List.take
                                      ((List.drop 0 (List.take (ishl IntKind.i64 1 (Int.toNat n)).toNat l)).length +
                                        List.length m)
                                      (List.drop 0
                                        ((List.drop 0 (List.take (ishl IntKind.i64 1 (Int.toNat n)).toNat l)).append
                                          m))).length.blt
                                1099511627777)
                              (dmd
                                (rokL
                                  (List.take
                                    ((List.drop 0 (List.take (ishl IntKind.i64 1 (Int.toNat n)).toNat l)).length +
                                      List.length m)
                                    (List.drop 0
                                      ((List.drop 0 (List.take (ishl IntKind.i64 1 (Int.toNat n)).toNat l)).append m))))
                                (dmd
                                  ((List.drop 0 (List.take (ishl IntKind.i64 1 (Int.toNat n)).toNat l)).length.blt
                                    1099511627777)
                                  (dmd (rokL (List.drop 0 (List.take (ishl IntKind.i64 1 (Int.toNat n)).toNat l)))
                                    (dmd ((List.length m).blt 1099511627777)
                                      (dmd (rokL m)
                                        (P
                                          (SV.av
                                            (AV.val Sh.bool
                                              (teq (Sh.arr 32 (Sh.int IntKind.u8))
                                                (rootW
                                                  (List.take
                                                    ((List.drop 0
                                                          (List.take (ishl IntKind.i64 1 (Int.toNat n)).toNat l)).length +
                                                      List.length m)
                                                    (List.drop 0
                                                      ((List.drop 0
                                                            (List.take (ishl IntKind.i64 1 (Int.toNat n)).toNat l)).append
                                                        m))))
                                                (nodeW
                                                  (rootW
                                                    (List.drop 0 (List.take (ishl IntKind.i64 1 (Int.toNat n)).toNat l)))
                                                  (rootW m))))))))))))))))))))))))) := by kernel_rfl
theorem shl1 {j : Nat} (h : j ≤ 5) : ishl .i64 1 j = ((2 ^ j : Nat) : Int) := by
  match j, h with
  | 0, _ => rfl
  | 1, _ => rfl
  | 2, _ => rfl
  | 3, _ => rfl
  | 4, _ => rfl
  | 5, _ => rfl
  | j + 6, h => omega
theorem two5 {j : Nat} (h : j ≤ 5) : 1 ≤ 2 ^ j ∧ 2 ^ j ≤ 32 := by
  match j, h with
  | 0, _ => decide
  | 1, _ => decide
  | 2, _ => decide
  | 3, _ => decide
  | 4, _ => decide
  | 5, _ => decide
  | j + 6, h => omega
theorem treeH_fw (l m : List (List (BitVec 8))) (n : Int) (_ : l.length ≤ 5864062014800) (hm : m.length ≤ 5864062014800) (sl : smL l = true) (sm : smL m = true) : FW T2 Tryd.f6.ntmps (LTab.look []) Tryd.f6 (argsOf [rwS, rwS, i64S] (l, m, n, ())) (fun r => r = .av (.val .bool true)) := by
  rw [fwTreeH]
  refine ifB_dec (fun _ => rfl) (fun a => ifB_dec (fun _ => rfl) (fun b => ?_))
  have a : ¬ n < (0 : Int) := a
  have b : ¬ (5 : Int) < n := b
  obtain ⟨j, rfl⟩ := Int.eq_ofNat_of_zero_le (show 0 ≤ n by omega)
  have hj : j ≤ 5 := by omega
  have hp : ∀ k, 1 ≤ k → k ≤ 2 ^ j → halfN (2 ^ j + k) = 2 ^ j := fun k h1 h2 => half_pow h1 h2
  obtain ⟨q1, q2⟩ := two5 hj
  rw [Int.toNat_natCast, shl1 hj, Int.toNat_natCast]
  generalize 2 ^ j = q at *
  refine dmd_of (decTr (Int.natCast_nonneg j)) (ifB_dec (fun _ => rfl) (fun c => ifB_dec (fun _ => rfl) (fun d => dmd_of (decTr (Int.natCast_nonneg j)) (ifB_dec (fun _ => rfl) (fun e => ?_)))))
  have hm1 : 1 ≤ m.length := by omega
  have hm2 : m.length ≤ q := by omega
  have hq : q ≤ l.length := by omega
  have hk : (l.take q).length = q := by rw [List.length_take]; omega
  have ea : List.take ((l.take q).length + m.length) (List.drop 0 ((l.take q).append m)) = l.take q ++ m := drop0_take (l.take q ++ m) _ List.length_append.symm
  rw [List.drop_zero, ea]
  have e1 : (l.take q ++ m).length = q + m.length := by rw [List.length_append, hk]
  have ra : rokL (l.take q ++ m) = true := by
    refine andT (decTr (by rw [e1]; omega)) ?_
    have := smL_take q sl
    unfold smL at *
    rw [List.all_append, this, sm]; rfl
  have rl : rokL (l.take q) = true := andT (decTr (by omega)) (smL_take q sl)
  have rm : rokL m = true := andT (decTr (by omega)) sm
  have hr : rootW (l.take q ++ m) = nodeW (rootW (l.take q)) (rootW m) := by
    rw [rootW_2 (by omega), e1, hp m.length hm1 hm2]
    have h1 : (l.take q ++ m).take q = l.take q := by rw [List.take_append_of_le_length (by omega), List.take_take, Nat.min_self]
    have h2 : (l.take q ++ m).drop q = m := by rw [List.drop_append, List.drop_of_length_le (by omega), hk, Nat.sub_self]; rfl
    rw [h1, h2]
  refine dmd_of (decTr (Int.natCast_nonneg j)) (dmd_of (decTr (Int.natCast_nonneg q)) (dmd_of (andT rfl (bleT hq)) ?_))
  rw [beq0 (show (l.take q).length ≠ 0 by omega)]
  refine dmd_of (bleT (by omega)) (dmd_of (andT (beqn _) (bleT (by omega))) (dmd_of (bleT (by omega)) (dmd_of ra (dmd_of (bleT (by omega)) (dmd_of rl (dmd_of (bleT (by omega)) (dmd_of rm (pbool (teq_of hr)))))))))
theorem walkTreeHalves (xs : HL [rwS, rwS, i64S]) (h : okHL [rwS, rwS, i64S] xs) : PC (bx Tryd.prog GL) 6 (argsOf [rwS, rwS, i64S] xs) (.av (.val .bool true)) := by
  obtain ⟨l, m, n, ⟨⟩⟩ := xs
  have h1 : List.length l * 24 ≤ 140737488351232 := h.1.1
  have h2 : List.length m * 24 ≤ 140737488351232 := h.2.1.1
  have s : ∀ l : List (List (BitVec 8)), (∀ x ∈ l, Sh.okTB 140737488351232 (.sl u8S) x) → smL l = true := fun l h => by
    unfold smL
    rw [List.all_eq_true]
    intro x hx
    have h3 : List.length x * 1 ≤ 140737488351232 := (h x hx).1
    exact decTr (by omega)
  exact PC_of_fw (t := []) shA_ok T2_ok mixed Tryd.func6 (c := Tryd.f6.body.getD .skip) rfl (by kernel_rfl) (by kernel_rfl) loopsNil rfl (treeH_fw l m n (by omega) (by omega) (s l h.1.2.2) (s m h.2.1.2.2))
end Go.Proofs.YtonlmamfggfanaaDoor
