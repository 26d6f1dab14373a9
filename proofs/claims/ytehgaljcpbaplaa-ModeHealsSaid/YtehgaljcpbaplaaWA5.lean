import Derived.Test.YtehgaljcpbaplaaWA4
namespace Go.Proofs.Ytehgaljcpbaplaa
open Go.Ty

/-! ## Expand -/
abbrev WW := List (List (BitVec 8))
noncomputable def st4 (w : WW) (i p : Nat) (t : List (BitVec 8)) (j : Nat) : WW := w.set i (List.set (rd a4S w i) j (rd u8S (rd a4S w p) j ^^^ rd u8S t j))
noncomputable def xorW (w : WW) (i p : Nat) (t : List (BitVec 8)) : WW := st4 (st4 (st4 (st4 w i p t 0) i p t 1) i p t 2) i p t 3
noncomputable def tA (w : WW) (i n : Int) (q : Nat) : List (BitVec 8) := List.set (subL4 [rd u8S (rd a4S w q) 1, rd u8S (rd a4S w q) 2, rd u8S (rd a4S w q) 3, rd u8S (rd a4S w q) 0]) 0
  (rd u8S (subL4 [rd u8S (rd a4S w q) 1, rd u8S (rd a4S w q) 2, rd u8S (rd a4S w q) 3, rd u8S (rd a4S w q) 0]) 0 ^^^ gpow 2#8 (BitVec.ofInt 64 (IntKind.i64.wrap (IntKind.i64.wrap (i.tdiv n) - 1))))
noncomputable def cpW (key : List (BitVec 8)) (w : WW) (i k : Nat) : WW := w.set i (over (rd a4S w i) 0 (List.take 4 (List.drop k (List.take key.length key))))
def zeroW : WW := List.replicate 60 (List.replicate 4 0#8)
/-- one word more -/
noncomputable def expStep (key : List (BitVec 8)) (n i : Nat) (w : WW) : WW :=
  bif decide (i < n) then cpW key w i (4 * i)
  else xorW w i (i - n) (bif decide (i % n = 0) then tA w i n (i - 1) else bif decide (n = 8) && decide (i % 8 = 4) then subL4 (rd a4S w (i - 1)) else rd a4S w (i - 1))
noncomputable def expI (key : List (BitVec 8)) (n : Nat) : Nat → WW
  | 0 => zeroW
  | i + 1 => expStep key n i (expI key n i)
noncomputable def expW (key : List (BitVec 8)) : WW := Classical.choose (⟨expI key (key.length / 4) (4 * (key.length / 4 + 7)), rfl⟩ : ∃ w, w = expI key (key.length / 4) (4 * (key.length / 4 + 7)))
theorem expW_def (key : List (BitVec 8)) : expW key = expI key (key.length / 4) (4 * (key.length / 4 + 7)) := Classical.choose_spec (⟨expI key (key.length / 4) (4 * (key.length / 4 + 7)), rfl⟩ : ∃ w, w = expI key (key.length / 4) (4 * (key.length / 4 + 7)))
def okL (n : Nat) : Bool := decide (n = 16) || (decide (n = 24) || decide (n = 32))
noncomputable def keyW (key : List (BitVec 8)) : WW := bif okL key.length then expW key else zeroW
def keyR (key : List (BitVec 8)) : Int := bif okL key.length then ((key.length / 4 + 6 : Nat) : Int) else 0
def keyE (key : List (BitVec 8)) : Int := bif okL key.length then 0 else 1
noncomputable def expF : HL [.sl u8S] → SV := fun xs => .tup [.val keyS (keyW xs.1, keyR xs.1, ()), .val i64S (keyE xs.1)]
abbrev Ix : List It := [.v 0 (.sl u8S), .p 2 2000 keyS, .v 4 i64S, .p 5 2001 keyS, .v 32 i64S, .v 33 i64S]
abbrev ox : List (Nat × List It) := [(0, [.p 2 2000 keyS, .p 5 2001 keyS])]
noncomputable def bx_ : Code := Try.f18.body.getD .skip
noncomputable def Qx : LQ Ix [] ox := fun x _ Kx => (okL (List.length x.1) = true ∧ x.2.2.1 = ((List.length x.1 / 4 : Nat) : Int) ∧ x.2.2.2.1.1 = zeroW ∧ x.2.2.2.2.1 = ((4 * (List.length x.1 / 4 + 7) : Nat) : Int) ∧ x.2.2.2.2.2.1 = 0) ∧ Kx.1 (x.2.1, (expW x.1, x.2.2.2.1.2.1, ()), ())
noncomputable abbrev Lx : LTab := [(6, ptL Ix [] ox Qx)]
def D8 (a b : Bool) (p : Prop) : Prop := dmd a (dmd b (dmd a (dmd b (dmd a (dmd b (dmd a (dmd b p)))))))
theorem roundx (key : List (BitVec 8)) (o : Sh.T keyS) (n : Int) (w : WW) (r : Int) (m i : Int) (Kn : HI Ix → Prop) (Kr : HI [] → Prop) (Kx : HP ox) : roundT (W A7 Try.f18.ntmps (LTab.look Lx) (bodyAt bx_ 6)) Ix [] ox (key, o, n, (w, r, ()), m, i, ()) Kn Kr Kx =
  ifB (decide (i < m))
    (ifB (decide (i < n))
      (dmd (decide (0 ≤ i) && decide (i < 60)) (dmd (decide (0 ≤ IntKind.i64.wrap (4 * i))) (dmd ((IntKind.i64.wrap (4 * i)).toNat.ble key.length && key.length.ble key.length)
        (Kn (key, o, n, (cpW key w i.toNat (IntKind.i64.wrap (4 * i)).toNat, r, ()), m, IntKind.i64.wrap (i + 1), ())))))
      (dmd (decide (0 ≤ IntKind.i64.wrap (i - 1)) && decide (IntKind.i64.wrap (i - 1) < 60)) (dmd (!decide (n = 0))
        (ifB (decide (i.tmod n = 0))
          (dmd (!decide (n = 0)) (D8 (decide (0 ≤ IntKind.i64.wrap (i - n)) && decide (IntKind.i64.wrap (i - n) < 60)) (decide (0 ≤ i) && decide (i < 60)) (Kn (key, o, n, (xorW w i.toNat (IntKind.i64.wrap (i - n)).toNat (tA w i n (IntKind.i64.wrap (i - 1)).toNat), r, ()), m, IntKind.i64.wrap (i + 1), ()))))
          (ifB (decide (n = 8))
            (ifB (decide (i.tmod 8 = 4))
              (D8 (decide (0 ≤ IntKind.i64.wrap (i - n)) && decide (IntKind.i64.wrap (i - n) < 60)) (decide (0 ≤ i) && decide (i < 60)) (Kn (key, o, n, (xorW w i.toNat (IntKind.i64.wrap (i - n)).toNat (subL4 (rd a4S w (IntKind.i64.wrap (i - 1)).toNat)), r, ()), m, IntKind.i64.wrap (i + 1), ())))
              (D8 (decide (0 ≤ IntKind.i64.wrap (i - n)) && decide (IntKind.i64.wrap (i - n) < 60)) (decide (0 ≤ i) && decide (i < 60)) (Kn (key, o, n, (xorW w i.toNat (IntKind.i64.wrap (i - n)).toNat (rd a4S w (IntKind.i64.wrap (i - 1)).toNat), r, ()), m, IntKind.i64.wrap (i + 1), ()))))
            (D8 (decide (0 ≤ IntKind.i64.wrap (i - n)) && decide (IntKind.i64.wrap (i - n) < 60)) (decide (0 ≤ i) && decide (i < 60)) (Kn (key, o, n, (xorW w i.toNat (IntKind.i64.wrap (i - n)).toNat (rd a4S w (IntKind.i64.wrap (i - 1)).toNat), r, ()), m, IntKind.i64.wrap (i + 1), ()))))))))
    (Kx.1 (o, (w, r, ()), ())) := by kernel_rfl
theorem fwExp (key : List (BitVec 8)) (P : SV → Prop) : FW A7 Try.f18.ntmps (LTab.look Lx) Try.f18 (argsOf [.sl u8S] (key, ())) P =
  ifB (!decide ((List.length key : Int) = 16)) (ifB (!decide ((List.length key : Int) = 24)) (ifB (!decide ((List.length key : Int) = 32)) (P (SV.tup [AV.val keyS (zeroW, 0, ()), AV.val i64S 1]))
    (Qx (key, (zeroW, 0, ()), IntKind.i64.wrap ((List.length key : Int).tdiv 4), (zeroW, IntKind.i64.wrap (IntKind.i64.wrap ((List.length key : Int).tdiv 4) + 6), ()), IntKind.i64.wrap (4 * IntKind.i64.wrap (IntKind.i64.wrap (IntKind.i64.wrap ((List.length key : Int).tdiv 4) + 6) + 1)), 0, ()) (fun _ => False) (fun y => P (SV.tup [AV.val keyS y.2.1, AV.val i64S 0]), ()))) (Qx (key, (zeroW, 0, ()), IntKind.i64.wrap ((List.length key : Int).tdiv 4), (zeroW, IntKind.i64.wrap (IntKind.i64.wrap ((List.length key : Int).tdiv 4) + 6), ()), IntKind.i64.wrap (4 * IntKind.i64.wrap (IntKind.i64.wrap (IntKind.i64.wrap ((List.length key : Int).tdiv 4) + 6) + 1)), 0, ()) (fun _ => False) (fun y => P (SV.tup [AV.val keyS y.2.1, AV.val i64S 0]), ()))) (Qx (key, (zeroW, 0, ()), IntKind.i64.wrap ((List.length key : Int).tdiv 4), (zeroW, IntKind.i64.wrap (IntKind.i64.wrap ((List.length key : Int).tdiv 4) + 6), ()), IntKind.i64.wrap (4 * IntKind.i64.wrap (IntKind.i64.wrap (IntKind.i64.wrap ((List.length key : Int).tdiv 4) + 6) + 1)), 0, ()) (fun _ => False) (fun y => P (SV.tup [AV.val keyS y.2.1, AV.val i64S 0]), ())) := by kernel_rfl
theorem D8_of {a b : Bool} {p : Prop} (h1 : a = true) (h2 : b = true) (h3 : p) : D8 a b p := by subst h1 h2; exact h3
set_option maxRecDepth 100000 in
theorem loopx : ∀ x Kr Kx, Qx x Kr Kx → ∃ n, untl (W A7 Try.f18.ntmps (LTab.look Lx) (bodyAt bx_ 6)) Ix [] ox n x Kr Kx := by
  rintro ⟨key, o, n0, ⟨w0, r, ⟨⟩⟩, m0, i0, v⟩ Kr Kx ⟨⟨h1, h2, h3, h4, h5⟩, hK⟩
  have h1 : okL (List.length key) = true := h1
  have h2 : n0 = ((List.length key / 4 : Nat) : Int) := h2
  have h3 : w0 = zeroW := h3
  have h4 : m0 = ((4 * (List.length key / 4 + 7) : Nat) : Int) := h4
  have h5 : i0 = 0 := h5
  have hK : Kx.1 (o, (expW key, r, ()), ()) := hK
  obtain ⟨nn, hn⟩ : ∃ nn, nn = List.length key / 4 := ⟨_, rfl⟩
  have hlen : List.length key = 4 * nn ∧ (nn = 4 ∨ nn = 6 ∨ nn = 8) := by
    unfold okL at h1
    rw [Bool.or_eq_true, Bool.or_eq_true, decide_eq_true_eq, decide_eq_true_eq, decide_eq_true_eq] at h1
    omega
  obtain ⟨hl, hnn⟩ := hlen
  rw [expW_def, ← hn] at hK
  rw [← hn] at h2 h4
  have key_ : ∀ (k i : Nat), i + k = 4 * (nn + 7) → ∀ w, w = expI key nn i → untl (W A7 Try.f18.ntmps (LTab.look Lx) (bodyAt bx_ 6)) Ix [] ox (k + 1) (key, o, (nn : Int), (w, r, ()), ((4 * (nn + 7) : Nat) : Int), (i : Int), ()) Kr Kx := by
    intro k
    induction k with
    | zero =>
      intro i hi w hw
      rw [untl_succ, roundx]
      refine ifB_of (fun h => absurd (of_decide_eq_true h) (by omega)) (fun _ => ?_)
      rw [hw, show i = 4 * (nn + 7) by omega]; exact hK
    | succ k ih =>
      intro i hi w hw
      rw [untl_succ, roundx]
      have hi60 : i < 60 := by omega
      have e1 : IntKind.i64.wrap ((i : Int) + 1) = ((i + 1 : Nat) : Int) := by rw [IntWalk.i64_in _ (by omega)]; omega
      have e4 : IntKind.i64.wrap (4 * (i : Int)) = ((4 * i : Nat) : Int) := by rw [IntWalk.i64_in _ (by omega)]; omega
      have hB : (decide ((0 : Int) ≤ (i : Int)) && decide ((i : Int) < 60)) = true := by
        rw [decide_eq_true (show (0 : Int) ≤ (i : Int) by omega), decide_eq_true (show (i : Int) < 60 by omega)]; rfl
      rw [e1, e4, Int.toNat_natCast, Int.toNat_natCast]
      refine ifB_of (fun _ => ifB_of (fun h => ?_) (fun h => ?_)) (fun h => absurd (of_decide_eq_false h) (by omega))
      · have h : (i : Int) < (nn : Int) := of_decide_eq_true h
        have hlt : i < nn := by omega
        refine dmd_of hB (dmd_of (decide_eq_true (by omega)) (dmd_of ?_ (ih (i + 1) (by omega) _ ?_)))
        · rw [Bool.and_eq_true]
          exact ⟨Nat.ble_eq_true_of_le (by omega), Nat.ble_eq_true_of_le (Nat.le_refl _)⟩
        · show _ = expStep key nn i (expI key nn i)
          unfold expStep
          rw [decide_eq_true hlt, cond_true, hw]
      · have h : ¬ (i : Int) < (nn : Int) := of_decide_eq_false h
        have hge : nn ≤ i := by omega
        have en : IntKind.i64.wrap ((i : Int) - (nn : Int)) = ((i - nn : Nat) : Int) := by rw [IntWalk.i64_in _ (by omega)]; omega
        have e0 : IntKind.i64.wrap ((i : Int) - 1) = ((i - 1 : Nat) : Int) := by rw [IntWalk.i64_in _ (by omega)]; omega
        have hA : (decide ((0 : Int) ≤ ((i - nn : Nat) : Int)) && decide (((i - nn : Nat) : Int) < 60)) = true := by
          rw [decide_eq_true (show (0 : Int) ≤ ((i - nn : Nat) : Int) by omega), decide_eq_true (show ((i - nn : Nat) : Int) < 60 by omega)]; rfl
        have hC : (decide ((0 : Int) ≤ ((i - 1 : Nat) : Int)) && decide (((i - 1 : Nat) : Int) < 60)) = true := by
          rw [decide_eq_true (show (0 : Int) ≤ ((i - 1 : Nat) : Int) by omega), decide_eq_true (show ((i - 1 : Nat) : Int) < 60 by omega)]; rfl
        have hz : (!decide ((nn : Int) = 0)) = true := by rw [decide_eq_false (show ¬ (nn : Int) = 0 by omega)]; rfl
        have hm : (i : Int).tmod (nn : Int) = ((i % nn : Nat) : Int) := (Int.ofNat_tmod i nn).symm
        have hm8 : (i : Int).tmod 8 = ((i % 8 : Nat) : Int) := (Int.ofNat_tmod i 8).symm
        have stp : expI key nn (i + 1) = expStep key nn i (expI key nn i) := rfl
        rw [en, e0, hm, hm8, Int.toNat_natCast, Int.toNat_natCast]
        refine dmd_of hC (dmd_of hz (ifB_of (fun hc => dmd_of hz (D8_of hA hB (ih (i + 1) (by omega) _ ?_))) (fun hc => ifB_of (fun hd => ifB_of (fun he => D8_of hA hB (ih (i + 1) (by omega) _ ?_)) (fun he => D8_of hA hB (ih (i + 1) (by omega) _ ?_))) (fun hd => D8_of hA hB (ih (i + 1) (by omega) _ ?_)))))
        · have hc : ((i % nn : Nat) : Int) = 0 := of_decide_eq_true hc
          rw [stp]
          unfold expStep
          rw [decide_eq_false (show ¬ i < nn by omega), decide_eq_true (show i % nn = 0 by omega), cond_false, cond_true, hw]
        · have hc : ¬ ((i % nn : Nat) : Int) = 0 := of_decide_eq_false hc
          have hd : (nn : Int) = 8 := of_decide_eq_true hd
          have he : ((i % 8 : Nat) : Int) = 4 := of_decide_eq_true he
          rw [stp]
          unfold expStep
          rw [decide_eq_false (show ¬ i < nn by omega), decide_eq_false (show ¬ i % nn = 0 by omega), decide_eq_true (show nn = 8 by omega), decide_eq_true (show i % 8 = 4 by omega), cond_false, cond_false, Bool.and_self, cond_true, hw]
        · have hc : ¬ ((i % nn : Nat) : Int) = 0 := of_decide_eq_false hc
          have he : ¬ ((i % 8 : Nat) : Int) = 4 := of_decide_eq_false he
          rw [stp]
          unfold expStep
          rw [decide_eq_false (show ¬ i < nn by omega), decide_eq_false (show ¬ i % nn = 0 by omega), decide_eq_false (show ¬ i % 8 = 4 by omega), cond_false, cond_false, Bool.and_false, cond_false, hw]
        · have hc : ¬ ((i % nn : Nat) : Int) = 0 := of_decide_eq_false hc
          have hd : ¬ (nn : Int) = 8 := of_decide_eq_false hd
          rw [stp]
          unfold expStep
          rw [decide_eq_false (show ¬ i < nn by omega), decide_eq_false (show ¬ i % nn = 0 by omega), decide_eq_false (show ¬ nn = 8 by omega), cond_false, cond_false, Bool.false_and, cond_false, hw]
  have := key_ (4 * (nn + 7)) 0 (by omega) zeroW rfl
  rw [h2, h3, h4, h5]
  exact ⟨_, this⟩
theorem exp_ok : COK Try.prog GL 18 (conT [.sl u8S] expF) := by
  refine conT_ok (fun xs hw => ?_) (fun xs => rfl)
  obtain ⟨key, ⟨⟩⟩ := xs
  have hl : okL (List.length key) = true → List.length key < 64 := fun h => by
    unfold okL at h
    rw [Bool.or_eq_true, Bool.or_eq_true, decide_eq_true_eq, decide_eq_true_eq, decide_eq_true_eq] at h
    omega
  refine PC_of_fw (t := Lx) shA_ok a7_ok mixed Try.func18 (c := bx_) rfl (by kernel_rfl) (by kernel_rfl) (loopsOK (by kernel_rfl) (LTCons (loop_of shA_ok a7_ok mixed (loopsOK (by kernel_rfl) (LTCons (noLoop (by kernel_rfl)) LTNil)) (by kernel_rfl) loopx) LTNil)) rfl ?_
  refine (fwExp key (fun r' => r' = expF (key, ()))).mpr ?_
  have eF : expF (key, ()) = .tup [.val keyS (keyW key, keyR key, ()), .val i64S (keyE key)] := rfl
  rw [eF]
  have good : okL (List.length key) = true → (Qx (key, (zeroW, 0, ()), IntKind.i64.wrap ((List.length key : Int).tdiv 4), (zeroW, IntKind.i64.wrap (IntKind.i64.wrap ((List.length key : Int).tdiv 4) + 6), ()), IntKind.i64.wrap (4 * IntKind.i64.wrap (IntKind.i64.wrap (IntKind.i64.wrap ((List.length key : Int).tdiv 4) + 6) + 1)), 0, ()) (fun _ => False) (fun y => SV.tup [AV.val keyS y.2.1, AV.val i64S 0] = .tup [.val keyS (keyW key, keyR key, ()), .val i64S (keyE key)], ())) := by
    intro h
    have hlt := hl h
    have ht : (List.length key : Int).tdiv 4 = ((List.length key / 4 : Nat) : Int) := (Int.ofNat_tdiv (List.length key) 4).symm
    have q1 : IntKind.i64.wrap ((List.length key / 4 : Nat) : Int) = ((List.length key / 4 : Nat) : Int) := IntWalk.i64_in _ (by omega)
    have q2 : IntKind.i64.wrap (((List.length key / 4 : Nat) : Int) + 6) = ((List.length key / 4 + 6 : Nat) : Int) := by rw [IntWalk.i64_in _ (by omega)]; omega
    have q3 : IntKind.i64.wrap (((List.length key / 4 + 6 : Nat) : Int) + 1) = ((List.length key / 4 + 7 : Nat) : Int) := by rw [IntWalk.i64_in _ (by omega)]; omega
    have q4 : IntKind.i64.wrap (4 * ((List.length key / 4 + 7 : Nat) : Int)) = ((4 * (List.length key / 4 + 7) : Nat) : Int) := by rw [IntWalk.i64_in _ (by omega)]; omega
    rw [ht, q1, q2, q3, q4]
    refine ⟨⟨h, rfl, rfl, rfl, rfl⟩, ?_⟩
    show SV.tup [AV.val keyS (expW key, ((List.length key / 4 + 6 : Nat) : Int), ()), AV.val i64S 0] = _
    unfold keyW keyR keyE
    rw [h]; rfl
  have k16 : okL 16 = true := rfl
  have k24 : okL 24 = true := rfl
  have k32 : okL 32 = true := rfl
  refine ifB_of (fun h1 => ifB_of (fun h2 => ifB_of (fun h3 => ?_) (fun h3 => good ?_)) (fun h2 => good ?_)) (fun h1 => good ?_)
  · have n1 : ¬ (List.length key : Int) = 16 := fun e => by rw [decide_eq_true e] at h1; cases h1
    have n2 : ¬ (List.length key : Int) = 24 := fun e => by rw [decide_eq_true e] at h2; cases h2
    have n3 : ¬ (List.length key : Int) = 32 := fun e => by rw [decide_eq_true e] at h3; cases h3
    have : okL (List.length key) = false := by
      unfold okL
      rw [decide_eq_false (show ¬ List.length key = 16 by omega), decide_eq_false (show ¬ List.length key = 24 by omega), decide_eq_false (show ¬ List.length key = 32 by omega)]; rfl
    unfold keyW keyR keyE
    rw [this]; rfl
  · by_cases c : (List.length key : Int) = 32
    · rw [show List.length key = 32 by omega]; exact k32
    · rw [decide_eq_false c] at h3; cases h3
  · by_cases c : (List.length key : Int) = 24
    · rw [show List.length key = 24 by omega]; exact k24
    · rw [decide_eq_false c] at h2; cases h2
  · by_cases c : (List.length key : Int) = 16
    · rw [show List.length key = 16 by omega]; exact k16
    · rw [decide_eq_false c] at h1; cases h1
noncomputable def a8 : CTab := (18, conT [.sl u8S] expF) :: a7
theorem a8_ok : ∀ p ∈ a8, COK Try.prog GL p.1 p.2 := CCons exp_ok a7_ok
noncomputable abbrev A8 : Go.Ty.Cx := mkX Try.prog GL shA a8
end Go.Proofs.Ytehgaljcpbaplaa
