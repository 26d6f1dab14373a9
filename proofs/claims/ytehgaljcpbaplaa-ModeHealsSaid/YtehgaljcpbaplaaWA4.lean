import Derived.Test.YtehgaljcpbaplaaWA3
namespace Go.Proofs.Ytehgaljcpbaplaa
open Go.Ty

/-! ## Encrypt -/
noncomputable def encW (w : List (List (BitVec 8))) (n : Int) (b : List (BitVec 8)) : List (BitVec 8) := Go.Gfn.enc (kxI w) n.toNat b
noncomputable def decW (w : List (List (BitVec 8))) (n : Int) (b : List (BitVec 8)) : List (BitVec 8) := Go.Gfn.dec (kxI w) n.toNat b
noncomputable def encF : HA [.v keyS, .v b16S] → RT := fun xs => .dem (decide (1 ≤ xs.1.2.1) && decide (xs.1.2.1 < 15)) (.ret (.av (.val b16S (encW xs.1.1 xs.1.2.1 xs.2.1))))
noncomputable def decF : HA [.v keyS, .v b16S] → RT := fun xs => .dem (decide (1 ≤ xs.1.2.1) && decide (xs.1.2.1 < 15)) (.ret (.av (.val b16S (decW xs.1.1 xs.1.2.1 xs.2.1))))
abbrev Ie : List It := [.f 2 keyS, .p 3 2000 b16S, .p 4 2001 b16S, .v 5 i64S]
abbrev oe : List (Nat × List It) := [(0, [.p 3 2000 b16S, .p 4 2001 b16S])]
noncomputable def be : Code := Try.f22.body.getD .skip
noncomputable def Qe : LQ Ie [] oe := fun x _ Kx => ∃ b, (List.length b = 16 ∧ x.2.1 = Go.Gfn.encR (kxI x.1.1) x.1.2.1.toNat b 0 ∧ x.2.2.2.1 = 1) ∧ (1 ≤ x.1.2.1 ∧ x.1.2.1 < 15) ∧ Kx.1 (encW x.1.1 x.1.2.1 b, x.2.2.1, ())
noncomputable abbrev Le : LTab := [(3, ptL Ie [] oe Qe)]
theorem rounde (k : Sh.T keyS) (b o : List (BitVec 8)) (i : Int) (Kn : HI Ie → Prop) (Kr : HI [] → Prop) (Kx : HP oe) : roundT (W A6 Try.f22.ntmps (LTab.look Le) (bodyAt be 3)) Ie [] oe (k, b, o, i, ()) Kn Kr Kx =
 (  ifB (decide (i ≤ k.2.1))
    (ifB (decide (i < k.2.1))
      (dmd (decide (0 ≤ i) && decide (i < 15))
        (Kn
          (k,
            byW k.1 i
              (Go.Gfn.mixL
                [Go.Gfn.gsub (rd (Sh.int IntKind.u8) b 0), Go.Gfn.gsub (rd (Sh.int IntKind.u8) b 5),
                  Go.Gfn.gsub (rd (Sh.int IntKind.u8) b 10), Go.Gfn.gsub (rd (Sh.int IntKind.u8) b 15),
                  Go.Gfn.gsub (rd (Sh.int IntKind.u8) b 4), Go.Gfn.gsub (rd (Sh.int IntKind.u8) b 9),
                  Go.Gfn.gsub (rd (Sh.int IntKind.u8) b 14), Go.Gfn.gsub (rd (Sh.int IntKind.u8) b 3),
                  Go.Gfn.gsub (rd (Sh.int IntKind.u8) b 8), Go.Gfn.gsub (rd (Sh.int IntKind.u8) b 13),
                  Go.Gfn.gsub (rd (Sh.int IntKind.u8) b 2), Go.Gfn.gsub (rd (Sh.int IntKind.u8) b 7),
                  Go.Gfn.gsub (rd (Sh.int IntKind.u8) b 12), Go.Gfn.gsub (rd (Sh.int IntKind.u8) b 1),
                  Go.Gfn.gsub (rd (Sh.int IntKind.u8) b 6), Go.Gfn.gsub (rd (Sh.int IntKind.u8) b 11)]),
            o, IntKind.i64.wrap (i + 1), PUnit.unit)))
      (dmd (decide (0 ≤ i) && decide (i < 15))
        (Kn
          (k,
            byW k.1 i
              [Go.Gfn.gsub (rd (Sh.int IntKind.u8) b 0), Go.Gfn.gsub (rd (Sh.int IntKind.u8) b 5),
                Go.Gfn.gsub (rd (Sh.int IntKind.u8) b 10), Go.Gfn.gsub (rd (Sh.int IntKind.u8) b 15),
                Go.Gfn.gsub (rd (Sh.int IntKind.u8) b 4), Go.Gfn.gsub (rd (Sh.int IntKind.u8) b 9),
                Go.Gfn.gsub (rd (Sh.int IntKind.u8) b 14), Go.Gfn.gsub (rd (Sh.int IntKind.u8) b 3),
                Go.Gfn.gsub (rd (Sh.int IntKind.u8) b 8), Go.Gfn.gsub (rd (Sh.int IntKind.u8) b 13),
                Go.Gfn.gsub (rd (Sh.int IntKind.u8) b 2), Go.Gfn.gsub (rd (Sh.int IntKind.u8) b 7),
                Go.Gfn.gsub (rd (Sh.int IntKind.u8) b 12), Go.Gfn.gsub (rd (Sh.int IntKind.u8) b 1),
                Go.Gfn.gsub (rd (Sh.int IntKind.u8) b 6), Go.Gfn.gsub (rd (Sh.int IntKind.u8) b 11)],
            o, IntKind.i64.wrap (i + 1), PUnit.unit))))
    (Kx.1 (b, o, PUnit.unit))) := by kernel_rfl
theorem fwEnc (k : Sh.T (keyS)) (b : Sh.T (b16S)) (P : SV → Prop) : FW A6 Try.f22.ntmps (LTab.look Le) Try.f22 (argsOf [keyS, b16S] (k, b, ())) P =
 (  Qe (k, byW k.1 0 b, [0#8, 0#8, 0#8, 0#8, 0#8, 0#8, 0#8, 0#8, 0#8, 0#8, 0#8, 0#8, 0#8, 0#8, 0#8, 0#8], 1, PUnit.unit)
    (fun _ => False) (fun y => P (SV.av (AV.val (Sh.arr 16 (Sh.int IntKind.u8)) y.1)), PUnit.unit)) := by kernel_rfl
theorem sub_list {b : List (BitVec 8)} (h : b.length = 16) : [Go.Gfn.gsub (rd (Sh.int IntKind.u8) b 0), Go.Gfn.gsub (rd (Sh.int IntKind.u8) b 5), Go.Gfn.gsub (rd (Sh.int IntKind.u8) b 10), Go.Gfn.gsub (rd (Sh.int IntKind.u8) b 15), Go.Gfn.gsub (rd (Sh.int IntKind.u8) b 4), Go.Gfn.gsub (rd (Sh.int IntKind.u8) b 9), Go.Gfn.gsub (rd (Sh.int IntKind.u8) b 14), Go.Gfn.gsub (rd (Sh.int IntKind.u8) b 3), Go.Gfn.gsub (rd (Sh.int IntKind.u8) b 8), Go.Gfn.gsub (rd (Sh.int IntKind.u8) b 13), Go.Gfn.gsub (rd (Sh.int IntKind.u8) b 2), Go.Gfn.gsub (rd (Sh.int IntKind.u8) b 7), Go.Gfn.gsub (rd (Sh.int IntKind.u8) b 12), Go.Gfn.gsub (rd (Sh.int IntKind.u8) b 1), Go.Gfn.gsub (rd (Sh.int IntKind.u8) b 6), Go.Gfn.gsub (rd (Sh.int IntKind.u8) b 11)] = Go.Gfn.subL b := by
  obtain ⟨b0, b1, b2, b3, b4, b5, b6, b7, b8, b9, b10, b11, b12, b13, b14, b15, rfl⟩ := Go.Gfn.of16 h
  rfl
theorem unsub_list {b : List (BitVec 8)} (h : b.length = 16) : [Go.Gfn.gunsub (rd (Sh.int IntKind.u8) b 0), Go.Gfn.gunsub (rd (Sh.int IntKind.u8) b 13), Go.Gfn.gunsub (rd (Sh.int IntKind.u8) b 10), Go.Gfn.gunsub (rd (Sh.int IntKind.u8) b 7), Go.Gfn.gunsub (rd (Sh.int IntKind.u8) b 4), Go.Gfn.gunsub (rd (Sh.int IntKind.u8) b 1), Go.Gfn.gunsub (rd (Sh.int IntKind.u8) b 14), Go.Gfn.gunsub (rd (Sh.int IntKind.u8) b 11), Go.Gfn.gunsub (rd (Sh.int IntKind.u8) b 8), Go.Gfn.gunsub (rd (Sh.int IntKind.u8) b 5), Go.Gfn.gunsub (rd (Sh.int IntKind.u8) b 2), Go.Gfn.gunsub (rd (Sh.int IntKind.u8) b 15), Go.Gfn.gunsub (rd (Sh.int IntKind.u8) b 12), Go.Gfn.gunsub (rd (Sh.int IntKind.u8) b 9), Go.Gfn.gunsub (rd (Sh.int IntKind.u8) b 6), Go.Gfn.gunsub (rd (Sh.int IntKind.u8) b 3)] = Go.Gfn.unsubL b := by
  obtain ⟨b0, b1, b2, b3, b4, b5, b6, b7, b8, b9, b10, b11, b12, b13, b14, b15, rfl⟩ := Go.Gfn.of16 h
  rfl
set_option maxRecDepth 100000 in
theorem loope : ∀ x Kr Kx, Qe x Kr Kx → ∃ n, untl (W A6 Try.f22.ntmps (LTab.look Le) (bodyAt be 3)) Ie [] oe n x Kr Kx := by
  rintro ⟨⟨w, R0, u⟩, b0, o, i0, v⟩ Kr Kx ⟨b, ⟨hl, h1, h2⟩, hR, hK⟩
  obtain ⟨R, eR⟩ : ∃ R : Int, R = R0 := ⟨R0, rfl⟩
  subst eR
  have h1 : b0 = Go.Gfn.encR (kxI w) R.toNat b 0 := h1
  have h2 : i0 = 1 := h2
  have hR : (1 : Int) ≤ R ∧ R < (15 : Int) := hR
  have hK : Kx.1 (encW w R b, o, ()) := hK
  have key : ∀ (m r : Nat), r + m = R.toNat → ∀ (s : List (BitVec 8)), s = Go.Gfn.encR (kxI w) R.toNat b r → ∀ i : Int, i = (r : Int) + 1 → untl (W A6 Try.f22.ntmps (LTab.look Le) (bodyAt be 3)) Ie [] oe (m + 1) ((w, R, u), s, o, i, ()) Kr Kx := by
    intro m
    induction m with
    | zero =>
      intro r hr s hs i hi
      rw [untl_succ, rounde]
      have hr : r = R.toNat := by omega
      refine ifB_of (fun h => ?_) (fun _ => ?_)
      · have h : i ≤ R := of_decide_eq_true h
        omega
      · have : s = encW w R b := by rw [hs, hr]; rfl
        rw [this]; exact hK
    | succ m ih =>
      intro r hr s hs i hi
      rw [untl_succ, rounde]
      have hsl : s.length = 16 := by rw [hs]; exact Go.Gfn.encR_len hl r
      have e1 : IntKind.i64.wrap (i + 1) = i + 1 := IntWalk.i64_in _ (by omega)
      have hb : (decide (0 ≤ i) && decide (i < 15)) = true := by
        rw [decide_eq_true (show 0 ≤ i by omega), decide_eq_true (show i < 15 by omega)]; rfl
      have ht : i.toNat = r + 1 := by omega
      rw [sub_list hsl, e1]
      refine ifB_of (fun _ => ifB_of (fun h => dmd_of hb ?_) (fun h => dmd_of hb ?_)) (fun h => ?_)
      · refine ih (r + 1) (by omega) _ ?_ _ (by omega)
        have h : i < R := of_decide_eq_true h
        show byW w i (Go.Gfn.mixL (Go.Gfn.subL s)) = Go.Gfn.byL (kxI w (r + 1)) (bif decide (r + 1 < R.toNat) then Go.Gfn.mixL (Go.Gfn.subL (Go.Gfn.encR (kxI w) R.toNat b r)) else Go.Gfn.subL (Go.Gfn.encR (kxI w) R.toNat b r))
        rw [decide_eq_true (show r + 1 < R.toNat by omega), cond_true, ← hs]
        unfold byW
        rw [ht]
      · refine ih (r + 1) (by omega) _ ?_ _ (by omega)
        have h : ¬ i < R := of_decide_eq_false h
        show byW w i (Go.Gfn.subL s) = Go.Gfn.byL (kxI w (r + 1)) (bif decide (r + 1 < R.toNat) then Go.Gfn.mixL (Go.Gfn.subL (Go.Gfn.encR (kxI w) R.toNat b r)) else Go.Gfn.subL (Go.Gfn.encR (kxI w) R.toNat b r))
        rw [decide_eq_false (show ¬ r + 1 < R.toNat by omega), cond_false, ← hs]
        unfold byW
        rw [ht]
      · have h : ¬ i ≤ R := of_decide_eq_false h
        omega
  exact ⟨_, key R.toNat 0 (by omega) b0 h1 i0 (by rw [h2]; rfl)⟩
theorem enc_ok : COK Try.prog GL 22 (conA [.v keyS, .v b16S] encF) := by
  refine conA_ok (fun xs hw hc => ?_) (fun xs => rfl)
  obtain ⟨⟨w, R0, ⟨⟩⟩, b, ⟨⟩⟩ := xs
  obtain ⟨R, eR⟩ : ∃ R : Int, R = R0 := ⟨R0, rfl⟩
  subst eR
  have hl : List.length b = 16 := hw.2.1.1
  have hc1 : (decide ((1 : Int) ≤ R) && decide (R < (15 : Int))) = true := hc.1
  rw [Bool.and_eq_true, decide_eq_true_eq, decide_eq_true_eq] at hc1
  refine PC_of_fw (t := Le) shA_ok a6_ok mixed Try.func22 (c := be) rfl (by kernel_rfl) (by kernel_rfl) (loopsOK (by kernel_rfl) (LTCons (loop_of shA_ok a6_ok mixed (loopsOK (by kernel_rfl) (LTCons (noLoop (by kernel_rfl)) LTNil)) (by kernel_rfl) loope) LTNil)) rfl ?_
  have e := fwEnc (w, R, ()) b (fun r' => r' = (encF ((w, R, ()), b, ())).val)
  refine e.mpr ?_
  exact ⟨b, ⟨hl, rfl, rfl⟩, hc1, rfl⟩
/-! ## Decrypt -/
abbrev Id_ : List It := [.f 2 keyS, .p 3 2000 b16S, .p 4 2001 b16S, .v 5 i64S]
abbrev od : List (Nat × List It) := [(0, [.f 2 keyS, .p 3 2000 b16S, .p 4 2001 b16S])]
noncomputable def bd : Code := Try.f23.body.getD .skip
noncomputable def Qd : LQ Id_ [] od := fun x _ Kx => ∃ b, (List.length b = 16 ∧ ∃ j : Nat, x.2.1 = Go.Gfn.decR (kxI x.1.1) x.1.2.1.toNat b j ∧ x.2.2.2.1 = x.1.2.1 - j ∧ (j : Int) ≤ x.1.2.1) ∧ (1 ≤ x.1.2.1 ∧ x.1.2.1 < 15) ∧ Kx.1 (x.1, Go.Gfn.decR (kxI x.1.1) x.1.2.1.toNat b x.1.2.1.toNat, x.2.2.1, ())
noncomputable abbrev Ld : LTab := [(2, ptP (W A6 Try.f23.ntmps (LTab.look []) (bodyAt bd 2)) Id_ [] od Qd)]
theorem roundd (k : Sh.T keyS) (b o : List (BitVec 8)) (i : Int) (Kn : HI Id_ → Prop) (Kr : HI [] → Prop) (Kx : HP od) : roundT (W A6 Try.f23.ntmps (LTab.look Ld) (bodyAt bd 2)) Id_ [] od (k, b, o, i, ()) Kn Kr Kx =
 (  ifB (decide (1 ≤ i))
    (dmd (decide (0 ≤ i) && decide (i < 15))
      (ifB (decide (i < k.2.1))
        (Kn
          (k,
            [Go.Gfn.gunsub (rd (Sh.int IntKind.u8) (Go.Gfn.unmixL (byW k.1 i b)) 0),
              Go.Gfn.gunsub (rd (Sh.int IntKind.u8) (Go.Gfn.unmixL (byW k.1 i b)) 13),
              Go.Gfn.gunsub (rd (Sh.int IntKind.u8) (Go.Gfn.unmixL (byW k.1 i b)) 10),
              Go.Gfn.gunsub (rd (Sh.int IntKind.u8) (Go.Gfn.unmixL (byW k.1 i b)) 7),
              Go.Gfn.gunsub (rd (Sh.int IntKind.u8) (Go.Gfn.unmixL (byW k.1 i b)) 4),
              Go.Gfn.gunsub (rd (Sh.int IntKind.u8) (Go.Gfn.unmixL (byW k.1 i b)) 1),
              Go.Gfn.gunsub (rd (Sh.int IntKind.u8) (Go.Gfn.unmixL (byW k.1 i b)) 14),
              Go.Gfn.gunsub (rd (Sh.int IntKind.u8) (Go.Gfn.unmixL (byW k.1 i b)) 11),
              Go.Gfn.gunsub (rd (Sh.int IntKind.u8) (Go.Gfn.unmixL (byW k.1 i b)) 8),
              Go.Gfn.gunsub (rd (Sh.int IntKind.u8) (Go.Gfn.unmixL (byW k.1 i b)) 5),
              Go.Gfn.gunsub (rd (Sh.int IntKind.u8) (Go.Gfn.unmixL (byW k.1 i b)) 2),
              Go.Gfn.gunsub (rd (Sh.int IntKind.u8) (Go.Gfn.unmixL (byW k.1 i b)) 15),
              Go.Gfn.gunsub (rd (Sh.int IntKind.u8) (Go.Gfn.unmixL (byW k.1 i b)) 12),
              Go.Gfn.gunsub (rd (Sh.int IntKind.u8) (Go.Gfn.unmixL (byW k.1 i b)) 9),
              Go.Gfn.gunsub (rd (Sh.int IntKind.u8) (Go.Gfn.unmixL (byW k.1 i b)) 6),
              Go.Gfn.gunsub (rd (Sh.int IntKind.u8) (Go.Gfn.unmixL (byW k.1 i b)) 3)],
            o, IntKind.i64.wrap (i - 1), PUnit.unit))
        (Kn
          (k,
            [Go.Gfn.gunsub (rd (Sh.int IntKind.u8) (byW k.1 i b) 0), Go.Gfn.gunsub (rd (Sh.int IntKind.u8) (byW k.1 i b) 13),
              Go.Gfn.gunsub (rd (Sh.int IntKind.u8) (byW k.1 i b) 10), Go.Gfn.gunsub (rd (Sh.int IntKind.u8) (byW k.1 i b) 7),
              Go.Gfn.gunsub (rd (Sh.int IntKind.u8) (byW k.1 i b) 4), Go.Gfn.gunsub (rd (Sh.int IntKind.u8) (byW k.1 i b) 1),
              Go.Gfn.gunsub (rd (Sh.int IntKind.u8) (byW k.1 i b) 14), Go.Gfn.gunsub (rd (Sh.int IntKind.u8) (byW k.1 i b) 11),
              Go.Gfn.gunsub (rd (Sh.int IntKind.u8) (byW k.1 i b) 8), Go.Gfn.gunsub (rd (Sh.int IntKind.u8) (byW k.1 i b) 5),
              Go.Gfn.gunsub (rd (Sh.int IntKind.u8) (byW k.1 i b) 2), Go.Gfn.gunsub (rd (Sh.int IntKind.u8) (byW k.1 i b) 15),
              Go.Gfn.gunsub (rd (Sh.int IntKind.u8) (byW k.1 i b) 12), Go.Gfn.gunsub (rd (Sh.int IntKind.u8) (byW k.1 i b) 9),
              Go.Gfn.gunsub (rd (Sh.int IntKind.u8) (byW k.1 i b) 6), Go.Gfn.gunsub (rd (Sh.int IntKind.u8) (byW k.1 i b) 3)],
            o, IntKind.i64.wrap (i - 1), PUnit.unit))))
    (Kx.1 (k, b, o, PUnit.unit))) := by kernel_rfl
theorem fwDec (k : Sh.T (keyS)) (b : Sh.T (b16S)) (P : SV → Prop) : FW A6 Try.f23.ntmps (LTab.look Ld) Try.f23 (argsOf [keyS, b16S] (k, b, ())) P =
 (  ifB (decide (1 ≤ k.2.1))
    (dmd (decide (0 ≤ k.2.1) && decide (k.2.1 < 15))
      (ifB (decide (k.2.1 < k.2.1))
        (Qd
          (k,
            [Go.Gfn.gunsub (rd (Sh.int IntKind.u8) (Go.Gfn.unmixL (byW k.1 k.2.1 b)) 0),
              Go.Gfn.gunsub (rd (Sh.int IntKind.u8) (Go.Gfn.unmixL (byW k.1 k.2.1 b)) 13),
              Go.Gfn.gunsub (rd (Sh.int IntKind.u8) (Go.Gfn.unmixL (byW k.1 k.2.1 b)) 10),
              Go.Gfn.gunsub (rd (Sh.int IntKind.u8) (Go.Gfn.unmixL (byW k.1 k.2.1 b)) 7),
              Go.Gfn.gunsub (rd (Sh.int IntKind.u8) (Go.Gfn.unmixL (byW k.1 k.2.1 b)) 4),
              Go.Gfn.gunsub (rd (Sh.int IntKind.u8) (Go.Gfn.unmixL (byW k.1 k.2.1 b)) 1),
              Go.Gfn.gunsub (rd (Sh.int IntKind.u8) (Go.Gfn.unmixL (byW k.1 k.2.1 b)) 14),
              Go.Gfn.gunsub (rd (Sh.int IntKind.u8) (Go.Gfn.unmixL (byW k.1 k.2.1 b)) 11),
              Go.Gfn.gunsub (rd (Sh.int IntKind.u8) (Go.Gfn.unmixL (byW k.1 k.2.1 b)) 8),
              Go.Gfn.gunsub (rd (Sh.int IntKind.u8) (Go.Gfn.unmixL (byW k.1 k.2.1 b)) 5),
              Go.Gfn.gunsub (rd (Sh.int IntKind.u8) (Go.Gfn.unmixL (byW k.1 k.2.1 b)) 2),
              Go.Gfn.gunsub (rd (Sh.int IntKind.u8) (Go.Gfn.unmixL (byW k.1 k.2.1 b)) 15),
              Go.Gfn.gunsub (rd (Sh.int IntKind.u8) (Go.Gfn.unmixL (byW k.1 k.2.1 b)) 12),
              Go.Gfn.gunsub (rd (Sh.int IntKind.u8) (Go.Gfn.unmixL (byW k.1 k.2.1 b)) 9),
              Go.Gfn.gunsub (rd (Sh.int IntKind.u8) (Go.Gfn.unmixL (byW k.1 k.2.1 b)) 6),
              Go.Gfn.gunsub (rd (Sh.int IntKind.u8) (Go.Gfn.unmixL (byW k.1 k.2.1 b)) 3)],
            [0#8, 0#8, 0#8, 0#8, 0#8, 0#8, 0#8, 0#8, 0#8, 0#8, 0#8, 0#8, 0#8, 0#8, 0#8, 0#8],
            IntKind.i64.wrap (k.2.1 - 1), PUnit.unit)
          (fun _ => False) (fun y => P (SV.av (AV.val (Sh.arr 16 (Sh.int IntKind.u8)) (byW y.1.1 0 y.2.1))), PUnit.unit))
        (Qd
          (k,
            [Go.Gfn.gunsub (rd (Sh.int IntKind.u8) (byW k.1 k.2.1 b) 0),
              Go.Gfn.gunsub (rd (Sh.int IntKind.u8) (byW k.1 k.2.1 b) 13),
              Go.Gfn.gunsub (rd (Sh.int IntKind.u8) (byW k.1 k.2.1 b) 10),
              Go.Gfn.gunsub (rd (Sh.int IntKind.u8) (byW k.1 k.2.1 b) 7),
              Go.Gfn.gunsub (rd (Sh.int IntKind.u8) (byW k.1 k.2.1 b) 4),
              Go.Gfn.gunsub (rd (Sh.int IntKind.u8) (byW k.1 k.2.1 b) 1),
              Go.Gfn.gunsub (rd (Sh.int IntKind.u8) (byW k.1 k.2.1 b) 14),
              Go.Gfn.gunsub (rd (Sh.int IntKind.u8) (byW k.1 k.2.1 b) 11),
              Go.Gfn.gunsub (rd (Sh.int IntKind.u8) (byW k.1 k.2.1 b) 8),
              Go.Gfn.gunsub (rd (Sh.int IntKind.u8) (byW k.1 k.2.1 b) 5),
              Go.Gfn.gunsub (rd (Sh.int IntKind.u8) (byW k.1 k.2.1 b) 2),
              Go.Gfn.gunsub (rd (Sh.int IntKind.u8) (byW k.1 k.2.1 b) 15),
              Go.Gfn.gunsub (rd (Sh.int IntKind.u8) (byW k.1 k.2.1 b) 12),
              Go.Gfn.gunsub (rd (Sh.int IntKind.u8) (byW k.1 k.2.1 b) 9),
              Go.Gfn.gunsub (rd (Sh.int IntKind.u8) (byW k.1 k.2.1 b) 6),
              Go.Gfn.gunsub (rd (Sh.int IntKind.u8) (byW k.1 k.2.1 b) 3)],
            [0#8, 0#8, 0#8, 0#8, 0#8, 0#8, 0#8, 0#8, 0#8, 0#8, 0#8, 0#8, 0#8, 0#8, 0#8, 0#8],
            IntKind.i64.wrap (k.2.1 - 1), PUnit.unit)
          (fun _ => False)
          (fun y => P (SV.av (AV.val (Sh.arr 16 (Sh.int IntKind.u8)) (byW y.1.1 0 y.2.1))), PUnit.unit))))
    (P (SV.av (AV.val (Sh.arr 16 (Sh.int IntKind.u8)) (byW k.1 0 b))))) := by kernel_rfl
set_option maxRecDepth 100000 in
theorem loopd : ∀ x Kr Kx, Qd x Kr Kx → untl (W A6 Try.f23.ntmps (LTab.look Ld) (bodyAt bd 2)) Id_ [] od 16 x Kr Kx := by
  rintro ⟨⟨w, R0, ⟨⟩⟩, b0, o, i0, v⟩ Kr Kx ⟨b, ⟨hl, j0, h1, h2, h3⟩, hR, hK⟩
  obtain ⟨R, eR⟩ : ∃ R : Int, R = R0 := ⟨R0, rfl⟩
  subst eR
  have h1 : b0 = Go.Gfn.decR (kxI w) R.toNat b j0 := h1
  have h2 : (i0 : Int) = R - j0 := h2
  have h3 : (j0 : Int) ≤ R := h3
  have hR : (1 : Int) ≤ R ∧ R < (15 : Int) := hR
  have hK : Kx.1 ((w, R, ()), Go.Gfn.decR (kxI w) R.toNat b R.toNat, o, ()) := hK
  have key : ∀ (m : Nat) (j : Nat), (j : Int) ≤ R → R.toNat - j ≤ m → ∀ (s : List (BitVec 8)), s = Go.Gfn.decR (kxI w) R.toNat b j → ∀ i : Int, i = R - j → untl (W A6 Try.f23.ntmps (LTab.look Ld) (bodyAt bd 2)) Id_ [] od (m + 1) ((w, R, ()), s, o, i, ()) Kr Kx := by
    intro m
    induction m with
    | zero =>
      intro j hj hm s hs i hi
      rw [untl_succ, roundd]
      refine ifB_of (fun h => ?_) (fun _ => ?_)
      · have h : 1 ≤ i := of_decide_eq_true h
        omega
      · have hj : j = R.toNat := by omega
        rw [hs, hj]; exact hK
    | succ m ih =>
      intro j hj hm s hs i hi
      rw [untl_succ, roundd]
      have hsl : s.length = 16 := by rw [hs]; exact Go.Gfn.decR_len hl j
      have hbl : (byW w i s).length = 16 := Go.Gfn.byL_len _ hsl
      refine ifB_of (fun h => ?_) (fun h => ?_)
      · have h : 1 ≤ i := of_decide_eq_true h
        have e1 : IntKind.i64.wrap (i - 1) = i - 1 := IntWalk.i64_in _ (by omega)
        have hb : (decide (0 ≤ i) && decide (i < 15)) = true := by
          rw [decide_eq_true (show 0 ≤ i by omega), decide_eq_true (show i < 15 by omega)]; rfl
        have ht : i.toNat = R.toNat - j := by omega
        rw [e1]
        refine dmd_of hb (ifB_of (fun h => ?_) (fun h => ?_))
        · have h : i < R := of_decide_eq_true h
          refine ih (j + 1) (by omega) (by omega) _ ?_ _ (by omega)
          refine (unsub_list (Go.Gfn.unmixL_len hbl)).trans ?_
          show Go.Gfn.unsubL (Go.Gfn.unmixL (byW w i s)) = Go.Gfn.unsubL (bif decide (R.toNat - j < R.toNat) then Go.Gfn.unmixL (Go.Gfn.byL (kxI w (R.toNat - j)) (Go.Gfn.decR (kxI w) R.toNat b j)) else Go.Gfn.byL (kxI w (R.toNat - j)) (Go.Gfn.decR (kxI w) R.toNat b j))
          rw [decide_eq_true (show R.toNat - j < R.toNat by omega), cond_true, ← hs]
          unfold byW
          rw [ht]
        · have h : ¬ i < R := of_decide_eq_false h
          refine ih (j + 1) (by omega) (by omega) _ ?_ _ (by omega)
          refine (unsub_list hbl).trans ?_
          show Go.Gfn.unsubL (byW w i s) = Go.Gfn.unsubL (bif decide (R.toNat - j < R.toNat) then Go.Gfn.unmixL (Go.Gfn.byL (kxI w (R.toNat - j)) (Go.Gfn.decR (kxI w) R.toNat b j)) else Go.Gfn.byL (kxI w (R.toNat - j)) (Go.Gfn.decR (kxI w) R.toNat b j))
          rw [decide_eq_false (show ¬ R.toNat - j < R.toNat by omega), cond_false, ← hs]
          unfold byW
          rw [ht]
      · have h : ¬ 1 ≤ i := of_decide_eq_false h
        have hj : j = R.toNat := by omega
        rw [hs, hj]; exact hK
  exact key 15 j0 h3 (by omega) b0 h1 i0 h2
theorem dec_ok : COK Try.prog GL 23 (conA [.v keyS, .v b16S] decF) := by
  refine conA_ok (fun xs hw hc => ?_) (fun xs => rfl)
  obtain ⟨⟨w, R0, ⟨⟩⟩, b, ⟨⟩⟩ := xs
  obtain ⟨R, eR⟩ : ∃ R : Int, R = R0 := ⟨R0, rfl⟩
  subst eR
  have hl : List.length b = 16 := hw.2.1.1
  have hc1 : (decide ((1 : Int) ≤ R) && decide (R < (15 : Int))) = true := hc.1
  rw [Bool.and_eq_true, decide_eq_true_eq, decide_eq_true_eq] at hc1
  refine PC_of_fw (t := Ld) shA_ok a6_ok mixed Try.func23 (c := bd) rfl (by kernel_rfl) (by kernel_rfl) (loopsOK (by kernel_rfl) (LTCons (peel_of shA_ok a6_ok mixed (loopsOK (by kernel_rfl) (LTCons (noLoop (by kernel_rfl)) LTNil)) (loopsOK (by kernel_rfl) LTNil) (by kernel_rfl) 16 loopd) LTNil)) rfl ?_
  have e := fwDec (w, R, ()) b (fun r' => r' = (decF ((w, R, ()), b, ())).val)
  refine e.mpr ?_
  have hbl : (byW w R b).length = 16 := Go.Gfn.byL_len _ hl
  have e1 : IntKind.i64.wrap (R - 1) = R - 1 := IntWalk.i64_in _ (by omega)
  have hb : (decide ((0 : Int) ≤ R) && decide (R < (15 : Int))) = true := by
    rw [decide_eq_true (show (0 : Int) ≤ R by omega), decide_eq_true (show R < (15 : Int) by omega)]; rfl
  have fin : byW w 0 (Go.Gfn.decR (kxI w) R.toNat b R.toNat) = decW w R b := rfl
  refine ifB_of (fun _ => dmd_of hb (ifB_of (fun h => ?_) (fun _ => ?_))) (fun h => ?_)
  · have h : R < R := of_decide_eq_true h
    omega
  · refine ⟨b, ⟨hl, 1, ?_, e1, hc1.1⟩, hc1, ?_⟩
    · refine (unsub_list hbl).trans ?_
      show Go.Gfn.unsubL (byW w R b) = Go.Gfn.unsubL (bif decide (R.toNat - 0 < R.toNat) then Go.Gfn.unmixL (Go.Gfn.byL (kxI w (R.toNat - 0)) b) else Go.Gfn.byL (kxI w (R.toNat - 0)) b)
      rw [Nat.sub_zero, decide_eq_false (Nat.lt_irrefl _), cond_false]; rfl
    · exact rfl
  · have h : ¬ (1 : Int) ≤ R := of_decide_eq_false h
    omega
noncomputable def a7 : CTab := (22, conA [.v keyS, .v b16S] encF) :: (23, conA [.v keyS, .v b16S] decF) :: a6
theorem a7_ok : ∀ p ∈ a7, COK Try.prog GL p.1 p.2 := CCons enc_ok (CCons dec_ok a6_ok)
noncomputable abbrev A7 : Go.Ty.Cx := mkX Try.prog GL shA a7
end Go.Proofs.Ytehgaljcpbaplaa
