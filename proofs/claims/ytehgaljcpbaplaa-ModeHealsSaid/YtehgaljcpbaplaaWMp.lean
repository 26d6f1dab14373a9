import Derived.Test.YtehgaljcpbaplaaWAc
import Derived.Test.YtehgaljcpbaplaaPc
namespace Go.Proofs.Ytehgaljcpbaplaa
open Go.Ty

/-! ## The stream in pieces -/
theorem strK_add (w : WW) (n : Int) (iv : List (BitVec 8)) (at_ : BitVec 64) (i j : Nat) : strK w n iv at_ (i + j) = strK w n iv (at_ + BitVec.ofNat 64 i) j := by
  unfold strK
  rw [BitVec.ofNat_add, BitVec.add_assoc]
theorem rd_appL {x y : List (BitVec 8)} {j : Nat} (h : j < x.length) : rd u8S (x ++ y) j = rd u8S x j := by
  rw [rd_at (s := u8S) (by rw [List.length_append]; omega), rd_at (s := u8S) h, List.getElem_append_left h]
theorem rd_appR {x y : List (BitVec 8)} {j : Nat} (h : j < y.length) : rd u8S (x ++ y) (x.length + j) = rd u8S y j := by
  rw [rd_at (s := u8S) (by rw [List.length_append]; omega), rd_at (s := u8S) h, List.getElem_append_right (by omega)]
  simp only [Nat.add_sub_cancel_left]
theorem strW_app (w : WW) (n : Int) (iv : List (BitVec 8)) (at_ : BitVec 64) (x y : List (BitVec 8)) : strW w n iv at_ (x ++ y) = strW w n iv at_ x ++ strW w n iv (at_ + BitVec.ofNat 64 x.length) y := by
  refine rd8_ext (by rw [strW_len, List.length_append, List.length_append, strW_len, strW_len]) (fun i hi => ?_)
  have hi : i < x.length + y.length := by rw [List.length_append, strW_len, strW_len] at hi; exact hi
  rw [rd_strW _ _ _ _ _ _ (by rw [List.length_append]; exact hi)]
  by_cases c : i < x.length
  · rw [rd_appL (x := strW w n iv at_ x) (by rw [strW_len]; exact c), rd_strW _ _ _ _ _ _ c, rd_appL c]
  · obtain ⟨j, rfl⟩ : ∃ j, i = x.length + j := ⟨i - x.length, by omega⟩
    have h1 : rd u8S (strW w n iv at_ x ++ strW w n iv (at_ + BitVec.ofNat 64 x.length) y) (x.length + j) = rd u8S (strW w n iv (at_ + BitVec.ofNat 64 x.length) y) j := by
      have := rd_appR (x := strW w n iv at_ x) (y := strW w n iv (at_ + BitVec.ofNat 64 x.length) y) (j := j) (by rw [strW_len]; omega)
      rw [strW_len] at this; exact this
    rw [h1, rd_strW _ _ _ _ _ _ (by omega), rd_appR (by omega), strK_add]
theorem strW_nil (w : WW) (n : Int) (iv : List (BitVec 8)) (at_ : BitVec 64) : strW w n iv at_ [] = [] := rfl
theorem fwModes  (P : SV → Prop) : FW A15 Try.f26.ntmps (LTab.look []) Try.f26 (argsOf [] (())) P =
 (  P (SV.av (AV.val Sh.bool true))) := by kernel_rfl
set_option maxRecDepth 20000 in
theorem modes_pc : PC (bx Try.prog GL) 26 (argsOf [] ()) (.av (.val .bool true)) :=
  PC_of_fw (t := []) (ct := a15) (st := shA) (c := Try.f26.body.getD .skip) shA_ok a15_ok mixed Try.func26 rfl (by kernel_rfl) (by kernel_rfl) loopsNil rfl (by rw [fwModes])
theorem modes_ok : COK Try.prog GL 26 (conT [] fun _ => .av (.val .bool true)) := conT_ok (fun _ _ => modes_pc) (fun _ => rfl)
noncomputable def a18 : CTab := (27, conA [.v (.sl u8S), .v (.sl i64S)] pcsF) :: (26, conT [] fun _ => .av (.val .bool true)) :: a15
noncomputable abbrev B18 : Go.Ty.Cx := mkX Try.prog GL shA a18
theorem a18_ok : ∀ p ∈ a18, COK Try.prog GL p.1 p.2 := CCons pieces_ok (CCons modes_ok a15_ok)
abbrev Ip8 : List It := [.p 11 2000 keyS, .p 6 2001 b16S, .v 2 u64S, .v 3 (.sl u8S), .g 13 2002 u8S, .v 27 (.sl (.sl u8S)), .v 28 i64S, .v 29 i64S]
abbrev op8 : List (Nat × List It) := [(0, [.p 11 2000 keyS, .p 6 2001 b16S, .v 2 u64S, .v 3 (.sl u8S), .g 13 2002 u8S])]
noncomputable def bp8 : Code := Try.f10.body.getD .skip
noncomputable def Qp8 : LQ Ip8 [] op8 := fun x _ Kx => ∃ (k : Sh.T keyS) (iv : List (BitVec 8)) (a : BitVec 64) (p : List (BitVec 8)) (l : List (List (BitVec 8))), x = (k, iv, a, p, none, l, ((l.length : Nat) : Int), (0 : Int), ()) ∧
  ((decide ((1 : Int) ≤ k.2.1) && decide (k.2.1 < (15 : Int))) = true ∧ l.length ≤ 9000000000000 ∧ l.flatten.length ≤ 140737488355328) ∧ Kx.1 (k, iv, a, p, optL (strW k.1 k.2.1 iv a l.flatten), ())
noncomputable abbrev Lp8 : LTab := [(8, ptL Ip8 [] op8 Qp8)]
theorem roundp8n (k : Sh.T keyS) (iv : List (BitVec 8)) (at_ : BitVec 64) (p : List (BitVec 8)) (l : List (List (BitVec 8))) (m i : Int) (Kn : HI Ip8 → Prop) (Kr : HI [] → Prop) (Kx : HP op8) : roundT (W B18 Try.f10.ntmps (LTab.look Lp8) (bodyAt bp8 8)) Ip8 [] op8 (k, iv, at_, p, none, l, m, i, ()) Kn Kr Kx =
 (  ifB (decide (i < m))
    (dmd (decide (0 ≤ i) && decide (i < ((l.length : Nat) : Int)))
      (dmd (decide (1 ≤ k.2.1) && decide (k.2.1 < 15))
        (dmd ((List.length (rd (Sh.int IntKind.u8).sl l i.toNat)).ble 140737488355328)
          (ifB ((strW k.1 k.2.1 iv (at_ + 0#64) (rd (Sh.int IntKind.u8).sl l i.toNat)).length.beq 0)
            (Kn (k, iv, at_, p, none, l, m, IntKind.i64.wrap (i + 1), PUnit.unit))
            (dmd (((strW k.1 k.2.1 iv (at_ + 0#64) (rd (Sh.int IntKind.u8).sl l i.toNat)).length * 1).ble 140737488355328)
              ((0 = 0 ∧
                  (strW k.1 k.2.1 iv (at_ + 0#64) (rd (Sh.int IntKind.u8).sl l i.toNat)).length =
                    (strW k.1 k.2.1 iv (at_ + 0#64) (rd (Sh.int IntKind.u8).sl l i.toNat)).length) ∧
                Kn
                  (k, iv, at_, p, some (strW k.1 k.2.1 iv (at_ + 0#64) (rd (Sh.int IntKind.u8).sl l i.toNat)), l, m,
                    IntKind.i64.wrap (i + 1), PUnit.unit)))))))
    (Kx.1 (k, iv, at_, p, none, PUnit.unit))) := by kernel_rfl
theorem roundp8s (k : Sh.T keyS) (iv : List (BitVec 8)) (at_ : BitVec 64) (p a : List (BitVec 8)) (l : List (List (BitVec 8))) (m i : Int) (Kn : HI Ip8 → Prop) (Kr : HI [] → Prop) (Kx : HP op8) : roundT (W B18 Try.f10.ntmps (LTab.look Lp8) (bodyAt bp8 8)) Ip8 [] op8 (k, iv, at_, p, some a, l, m, i, ()) Kn Kr Kx =
 (  ifB (decide (i < m))
    (dmd (decide (0 ≤ i) && decide (i < ((l.length : Nat) : Int)))
      (dmd (decide (1 ≤ k.2.1) && decide (k.2.1 < 15))
        (dmd ((List.length (rd (Sh.int IntKind.u8).sl l i.toNat)).ble 140737488355328)
          (dmd
            (a.length.beq a.length &&
              ((a.length +
                      (strW k.1 k.2.1 iv (at_ + BitVec.ofInt 64 ((a.length : Nat) : Int))
                          (rd (Sh.int IntKind.u8).sl l i.toNat)).length) *
                    1).ble
                140737488355328)
            ((0 = 0 ∧
                a.length +
                    (strW k.1 k.2.1 iv (at_ + BitVec.ofInt 64 ((a.length : Nat) : Int)) (rd (Sh.int IntKind.u8).sl l i.toNat)).length =
                  (a.append
                      (strW k.1 k.2.1 iv (at_ + BitVec.ofInt 64 ((a.length : Nat) : Int))
                        (rd (Sh.int IntKind.u8).sl l i.toNat))).length) ∧
              Kn
                (k, iv, at_, p,
                  some
                    (a.append
                      (strW k.1 k.2.1 iv (at_ + BitVec.ofInt 64 ((a.length : Nat) : Int)) (rd (Sh.int IntKind.u8).sl l i.toNat))),
                  l, m, IntKind.i64.wrap (i + 1), PUnit.unit))))))
    ((0 = 0 ∧ a.length = a.length) ∧ Kx.1 (k, iv, at_, p, some a, PUnit.unit))) := by kernel_rfl
theorem fwParts (key : Sh.T (.sl u8S)) (iv : Sh.T (b16S)) (a : Sh.T (u64S)) (p : Sh.T (.sl u8S)) (cuts : Sh.T (.sl i64S)) (P : SV → Prop) : FW B18 Try.f10.ntmps (LTab.look Lp8) Try.f10 (argsOf [.sl u8S, b16S, u64S, .sl u8S, .sl i64S] (key, iv, a, p, cuts, ())) P =
 (  ifB (!decide (keyE key = 0)) (P (SV.av (AV.val Sh.bool true)))
    (dmd ((List.length p).ble 140737488355328)
      (dmd ((List.length cuts).ble 5864062014800)
        (Qp8 ((keyW key, keyR key, PUnit.unit), iv, a, p, none, pcs p cuts, (((pcs p cuts).length : Nat) : Int), 0, PUnit.unit)
          (fun _ => False)
          (fun x =>
            optB x.2.2.2.2.1
              (dmd (decide (1 ≤ x.1.2.1) && decide (x.1.2.1 < 15))
                (dmd ((List.length x.2.2.2.1).ble 140737488355328)
                  (P
                    (SV.av
                      (AV.val Sh.bool (teq (Sh.int IntKind.u8).sl [] (strW x.1.1 x.1.2.1 x.2.1 x.2.2.1 x.2.2.2.1)))))))
              fun xs =>
              dmd (decide (1 ≤ x.1.2.1) && decide (x.1.2.1 < 15))
                (dmd ((List.length x.2.2.2.1).ble 140737488355328)
                  (P
                    (SV.av
                      (AV.val Sh.bool
                        (teq (Sh.int IntKind.u8).sl (List.take xs.length (List.drop 0 xs))
                          (strW x.1.1 x.1.2.1 x.2.1 x.2.2.1 x.2.2.2.1)))))),
            PUnit.unit))))) := by kernel_rfl
theorem rd_memL {l : List (List (BitVec 8))} {i : Nat} (h : i < l.length) : rd (.sl u8S) l i ∈ l := by rw [rd_at h]; exact List.getElem_mem h
theorem flat_nextL {l : List (List (BitVec 8))} {i : Nat} (h : i < l.length) : (l.take (i + 1)).flatten = (l.take i).flatten ++ rd (.sl u8S) l i := by
  rw [List.take_add_one, rd_at h, List.getElem?_eq_getElem h, List.flatten_append]
  show _ ++ [l[i]].flatten = _
  simp
theorem flat_take {l : List (List (BitVec 8))} (i : Nat) : (l.take i).flatten.length ≤ l.flatten.length := by
  conv => rhs; rw [← List.take_append_drop i l]
  rw [List.flatten_append, List.length_append]; omega
theorem round8 (k : Sh.T keyS) (iv : List (BitVec 8)) (a : BitVec 64) (p out : List (BitVec 8)) (l : List (List (BitVec 8))) (i : Nat) (hi : i < l.length) (hl : l.length ≤ 9000000000000) (hk : (decide ((1 : Int) ≤ k.2.1) && decide (k.2.1 < (15 : Int))) = true)
    (ho : out.length + (rd (.sl u8S) l i).length ≤ 140737488355328) {Kn : HI Ip8 → Prop} {Kr : HI [] → Prop} {Kx : HP op8} (h : Kn (k, iv, a, p, optL (out ++ strW k.1 k.2.1 iv (a + BitVec.ofNat 64 out.length) (rd (.sl u8S) l i)), l, ((l.length : Nat) : Int), ((i + 1 : Nat) : Int), ())) :
    roundT (W B18 Try.f10.ntmps (LTab.look Lp8) (bodyAt bp8 8)) Ip8 [] op8 (k, iv, a, p, optL out, l, ((l.length : Nat) : Int), (i : Int), ()) Kn Kr Kx := by
  have e1 : IntKind.i64.wrap ((i : Int) + 1) = ((i + 1 : Nat) : Int) := i64v (by omega) (by omega)
  cases out with
  | nil =>
    show roundT _ Ip8 [] op8 (k, iv, a, p, none, l, _, _, ()) Kn Kr Kx
    have h : Kn (k, iv, a, p, optL (strW k.1 k.2.1 iv (a + 0#64) (rd (.sl u8S) l i)), l, ((l.length : Nat) : Int), ((i + 1 : Nat) : Int), ()) := h
    rw [roundp8n, e1, Int.toNat_natCast]
    have hs := strW_len k.1 k.2.1 iv (a + 0#64) (rd (.sl u8S) l i)
    generalize hz : strW k.1 k.2.1 iv (a + 0#64) (rd (.sl u8S) l i) = z at h hs
    have ho : (rd (.sl u8S) l i).length ≤ 140737488355328 := by rw [List.length_nil, Nat.zero_add] at ho; exact ho
    refine ifB_of (fun _ => dmd_of (inB hi) (dmd_of hk (dmd_of (bleT ho) ?_))) (fun c => absurd (of_decide_eq_false c) (by omega))
    cases z with
    | nil => exact h
    | cons y z => exact dmd_of (b := Nat.ble ((y :: z).length * 1) 140737488355328) (bleT (by omega)) ⟨⟨rfl, rfl⟩, h⟩
  | cons o out =>
    show roundT _ Ip8 [] op8 (k, iv, a, p, some (o :: out), l, _, _, ()) Kn Kr Kx
    rw [roundp8s, e1, Int.toNat_natCast, BitVec.ofInt_natCast]
    have ho' : (rd (.sl u8S) l i).length ≤ 140737488355328 := by omega
    refine ifB_of (fun _ => dmd_of (inB hi) (dmd_of hk (dmd_of (bleT ho') (dmd_of (andT (Nat.beq_refl _) (bleT ?_)) ⟨⟨rfl, ?_⟩, h⟩)))) (fun c => absurd (of_decide_eq_false c) (by omega))
    · rw [strW_len]
      show ((o :: out).length + (rd (.sl u8S) l i).length) * 1 ≤ _
      omega
    · exact List.length_append.symm
theorem loop8 : ∀ x Kr Kx, Qp8 x Kr Kx → ∃ n, untl (W B18 Try.f10.ntmps (LTab.look Lp8) (bodyAt bp8 8)) Ip8 [] op8 n x Kr Kx := by
  rintro x Kr Kx ⟨k, iv, a, p, l, ex, ⟨hk, hl, hf⟩, hK⟩
  have key := untl_up (F := W B18 Try.f10.ntmps (LTab.look Lp8) (bodyAt bp8 8)) (l := Ip8) (lr := []) (lx := op8) (Kr := Kr) (Kx := Kx) (st := fun i => (k, iv, a, p, optL (strW k.1 k.2.1 iv a (l.take i).flatten), l, ((l.length : Nat) : Int), (i : Int), ())) l.length (fun i hi Kn hn => ?_) (fun Kn => ?_)
  · rw [ex]; exact key
  · rw [flat_nextL hi, strW_app] at hn
    have h1 := flat_take (l := l) (i + 1)
    rw [flat_nextL hi, List.length_append] at h1
    refine round8 k iv a p _ l i hi hl hk (by rw [strW_len]; omega) ?_
    rw [strW_len]; exact hn
  · rw [List.take_length]
    cases h : strW k.1 k.2.1 iv a l.flatten with
    | nil =>
      rw [h] at hK
      show roundT _ Ip8 [] op8 (_, _, _, _, none, l, _, _, ()) Kn Kr Kx
      rw [roundp8n]
      exact ifB_of (fun c => absurd (of_decide_eq_true c) (by omega)) (fun _ => hK)
    | cons o out =>
      rw [h] at hK
      show roundT _ Ip8 [] op8 (_, _, _, _, some (o :: out), l, _, _, ()) Kn Kr Kx
      rw [roundp8s]
      exact ifB_of (fun c => absurd (of_decide_eq_true c) (by omega)) (fun _ => ⟨⟨rfl, rfl⟩, hK⟩)
theorem walkParts (xs : HL [.sl u8S, b16S, u64S, .sl u8S, .sl i64S]) (h : okHLB 17179869184 [.sl u8S, b16S, u64S, .sl u8S, .sl i64S] xs) : PC (bx Try.prog GL) 10 (argsOf [.sl u8S, b16S, u64S, .sl u8S, .sl i64S] xs) (.av (.val .bool true)) := by
  obtain ⟨key, iv, a, p, cuts, ⟨⟩⟩ := xs
  have h1 : List.length p * 1 ≤ 17179869184 := h.2.2.2.1.1
  have h2 : List.length cuts * 8 ≤ 17179869184 := h.2.2.2.2.1.1
  clear h
  have hc := pcs_len p cuts
  have hf := pcs_flat p cuts
  refine PC_of_fw (t := Lp8) shA_ok a18_ok mixed Try.func10 (c := bp8) rfl (by kernel_rfl) (by kernel_rfl) (loopsOK (by kernel_rfl) (LTCons (loop_of shA_ok a18_ok mixed (loopsOK (by kernel_rfl) (LTCons (noLoop (by kernel_rfl)) LTNil)) (by kernel_rfl) loop8) LTNil)) rfl ((fwParts key iv a p cuts _).mpr ?_)
  cases hk : okL (List.length key) with
  | false => rw [keyE_no hk]; exact ifB_of (fun _ => rfl) (fun h => absurd h (by decide))
  | true =>
    obtain ⟨k1, k2, k3⟩ := keyE_ok hk
    rw [k1]
    refine ifB_of (fun h => absurd h (by decide)) (fun _ => dmd_of (bleT (by omega)) (dmd_of (bleT (by omega)) ⟨(keyW key, keyR key, ()), iv, a, p, pcs p cuts, rfl, ⟨k3, by omega, by rw [hf]; omega⟩, ?_⟩))
    rw [hf]
    show optB (optL (strW (keyW key) (keyR key) iv a p)) _ _
    cases hz : strW (keyW key) (keyR key) iv a p with
    | nil => exact dmd_of k3 (dmd_of (bleT (show List.length p ≤ _ by omega)) (pbool (teq_of (s := .sl u8S) rfl)))
    | cons o out => exact dmd_of k3 (dmd_of (bleT (show List.length p ≤ _ by omega)) (pbool (teq_of (s := .sl u8S) (drop0_take (o :: out) _ rfl))))
end Go.Proofs.Ytehgaljcpbaplaa
