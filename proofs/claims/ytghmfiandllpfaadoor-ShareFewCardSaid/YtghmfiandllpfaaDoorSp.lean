import Derived.Test.YtghmfiandllpfaaDoorSd
import Derived.Test.YtghmfiandllpfaaDoorBe
namespace Go.Proofs.YtghmfiandllpfaaDoor
open Go.Ty
open Go.Lag (Pol ev)

noncomputable def LW : Num := wordsN 4 Lb.LL
noncomputable def dS (s : Src) : Nat → Src
  | 0 => s
  | i + 1 => belG (dS s i) LW
noncomputable def dE (s : Src) (i : Nat) : Int := belE (dS s i) LW
noncomputable def dX (s : Src) (i : Nat) : Num := belX (dS s i) LW
noncomputable def cL (a : Num) (s : Src) : Nat → List Num
  | 0 => [a]
  | i + 1 => cL a s i ++ [dX s i]
theorem cL_len (a : Num) (s : Src) : ∀ i, (cL a s i).length = i + 1
  | 0 => rfl
  | i + 1 => by
    show (cL a s i ++ [dX s i]).length = _
    rw [List.length_append, cL_len a s i]; rfl
noncomputable def badD (s : Src) (i : Nat) : Bool := !decide (dE s i = 0)
noncomputable def hW (c : List Num) (k x : Nat) : Nat → Num
  | 0 => rd numS c (k - 1)
  | t + 1 => wordsN 4 ((valN (wordsN 4 (valN (hW c k x t) * valN (wordsN 4 x) % Lb.LL)) + valN (rd numS c (k - 2 - t))) % Lb.LL)
noncomputable def shr (c : List Num) (k i : Nat) : Shr := (((i + 1 : Nat) : Int), hW c k (i + 1) (k - 1), ())
noncomputable def oW (c : List Num) (k n : Nat) : Nat → List Shr
  | 0 => List.replicate n ((0 : Int), List.replicate 4 0#64, ())
  | i + 1 => (oW c k n i).set i (shr c k i)
theorem oW_len (c : List Num) (k n : Nat) : ∀ i, (oW c k n i).length = n
  | 0 => List.length_replicate
  | i + 1 => by
    show ((oW c k n i).set i _).length = n
    rw [List.length_set, oW_len c k n i]
theorem oW_at (c : List Num) (k n : Nat) {j : Nat} (hj : j < n) : ∀ i, j < i → (oW c k n i)[j]'(by rw [oW_len]; exact hj) = shr c k j
  | 0, h => by omega
  | i + 1, h => by
    show ((oW c k n i).set i (shr c k i))[j]'(by rw [List.length_set, oW_len]; exact hj) = _
    rw [List.getElem_set]
    by_cases e : i = j
    · subst e; rw [if_pos rfl]
    · rw [if_neg e]; exact oW_at c k n hj i (by omega)
def argB (k n : Int) : Bool := decide (k < 1) || (decide (n < k) || decide (20 < n))
noncomputable def splE (a : Num) (k n : Int) (sd : List (BitVec 8)) : Int := bif argB k n || decide (0 ≤ Lb.cmpI (valN a) (valN LW)) then 1 else match firstN (badD (srcN sd 0#64)) (k.toNat - 1) with
  | some j => dE (srcN sd 0#64) j
  | none => 0
noncomputable def splC (a : Num) (k : Int) (sd : List (BitVec 8)) : List Num := cL a (srcN sd 0#64) (k.toNat - 1)
noncomputable def splO (a : Num) (k n : Int) (sd : List (BitVec 8)) : List Shr := bif decide (splE a k n sd = 0) then oW (splC a k sd) k.toNat n.toNat n.toNat else []
noncomputable def D0c : CTab := (26, conNew [.v (.sl u8S)] srcS (fun xs => Nat.ble (List.length xs.1) 140737488355328) fun xs => srcN xs.1 0#64) :: (28, conG srcS [.v numS] (fun x xs => belG x xs.1) fun x xs => .ret (.tup [.val numS (belX x xs.1), .val i64S (belE x xs.1)])) :: C1c
noncomputable abbrev D0 : Go.Ty.Cx := mkX Tryd.prog GL shA D0c
theorem D0_ok : ∀ p ∈ D0c, COK Tryd.prog GL p.1 p.2 := CCons dnew_ok (CCons below_ok C1_ok)
abbrev Is1 : List It := [.v 1 i64S, .v 2 i64S, .r 10 2000 numS, .p 11 2001 srcS]
abbrev rs1 : List It := [.v 8 (.sl shS), .v 9 i64S]
abbrev os1 : List (Nat × List It) := [(0, [.v 1 i64S, .v 2 i64S, .r 10 2000 numS])]
abbrev Is2 : List It := [.v 1 i64S, .r 10 2000 numS, .r 14 2001 shS, .v 59 i64S, .v 60 i64S]
abbrev os2 : List (Nat × List It) := [(2, [.r 14 2001 shS])]
abbrev Is3 : List It := [.v 1 i64S, .r 10 2000 numS, .r 14 2001 shS, .v 15 i64S, .p 16 2002 numS, .v 17 i64S, .v 59 i64S, .v 60 i64S]
abbrev os3 : List (Nat × List It) := [(4, [.v 1 i64S, .r 10 2000 numS, .r 14 2001 shS, .v 15 i64S, .p 16 2002 numS, .v 59 i64S, .v 60 i64S])]
noncomputable def st1 (k n : Int) (c : List Num) (s : Src) : HI Is1 := (k, n, c, s, ())
noncomputable def rt1 (e : Int) : HI rs1 := (([] : List Shr), e, ())
noncomputable def st2 (k : Int) (c : List Num) (o : List Shr) (m i : Int) : HI Is2 := (k, c, o, m, i, ())
noncomputable def st3 (k : Int) (c : List Num) (o : List Shr) (i : Int) (y : Num) (j m : Int) : HI Is3 := (k, c, o, i, y, j, m, i, ())
noncomputable def Qs1 : LQ Is1 rs1 os1 := fun z Kr Kx => ∃ (k n : Nat) (a : Num) (s : Src), z = st1 (k : Int) (n : Int) [a] s ∧ (1 ≤ k ∧ k ≤ 20) ∧ (∀ j, firstN (badD s) (k - 1) = some j → Kr (rt1 (dE s j))) ∧ (firstN (badD s) (k - 1) = none → ∀ c, c = cL a s (k - 1) → Kx.1 ((k : Int), (n : Int), c, ()))
noncomputable def Qs2 : LQ Is2 [] os2 := fun z _ Kx => ∃ (k n : Nat) (c : List Num), z = st2 (k : Int) c (oW c k n 0) (n : Int) 0 ∧ (1 ≤ k ∧ k ≤ 1000 ∧ n ≤ 20 ∧ c.length = k) ∧ ∀ o, o = oW c k n n → Kx.1 (o, ())
noncomputable def Qs3 : LQ Is3 [] os3 := fun z _ Kx => ∃ (k i : Nat) (c : List Num) (o : List Shr) (y : Num) (m : Int), z = st3 (k : Int) c o (i : Int) y ((k : Int) - 2) m ∧ (1 ≤ k ∧ k ≤ 1000 ∧ i < 200 ∧ c.length = k ∧ y = hW c k (i + 1) 0) ∧
  ∀ y', y' = hW c k (i + 1) (k - 1) → Kx.1 ((k : Int), c, o, (i : Int), y', m, (i : Int), ())
noncomputable def bsp : Code := Tryd.f14.body.getD .skip
noncomputable abbrev Lsp : LTab := [(5, ptL Is1 rs1 os1 Qs1), (12, ptL Is2 [] os2 Qs2), (16, ptL Is3 [] os3 Qs3)]
theorem rounds1 (k n : Int) (c : List (List (BitVec 64))) (s : Src) (Kn : HI Is1 → Prop) (Kr : HI rs1 → Prop) (Kx : HP os1) : roundT (W D0 Tryd.f14.ntmps (LTab.look Lsp) (bodyAt bsp 5)) Is1 rs1 os1 (k, n, c, s, ()) Kn Kr Kx =
 (  ifB (decide (((c.length : Nat) : Int) < k))
 (ifB (!decide (belE s (wordsN 4 Lb.LL) = 0)) (Kr ([], belE s (wordsN 4 Lb.LL), PUnit.unit))
 (dmd
 (c.length.beq c.length &&
 ((c.length +
 (List.take 1
 (List.drop 0
 ((List.replicate 1 (List.replicate 4 0#64)).set 0 (belX s (wordsN 4 Lb.LL))))).length) *
 32).ble
 140737488355328)
 ((0 = 0 ∧
 c.length +
 (List.take 1
 (List.drop 0 ((List.replicate 1 (List.replicate 4 0#64)).set 0 (belX s (wordsN 4 Lb.LL))))).length =
 (c.append
 (List.take 1
 (List.drop 0 ((List.replicate 1 (List.replicate 4 0#64)).set 0 (belX s (wordsN 4 Lb.LL)))))).length) ∧
 Kn
 (k, n,
 c.append
 (List.take 1 (List.drop 0 ((List.replicate 1 (List.replicate 4 0#64)).set 0 (belX s (wordsN 4 Lb.LL))))),
 belG s (wordsN 4 Lb.LL), PUnit.unit))))
 ((0 = 0 ∧ c.length = c.length) ∧ Kx.1 (k, n, c, PUnit.unit))) := by kernel_rfl
theorem rounds2 (k : Int) (c : List (List (BitVec 64))) (o : List Shr) (m i : Int) (Kn : HI Is2 → Prop) (Kr : HI [] → Prop) (Kx : HP os2) : roundT (W D0 Tryd.f14.ntmps (LTab.look Lsp) (bodyAt bsp 12)) Is2 [] os2 (k, c, o, m, i, ()) Kn Kr Kx =
 (  ifB (decide (i < m))
 (dmd (decide (0 ≤ IntKind.i64.wrap (k - 1)) && decide (IntKind.i64.wrap (k - 1) < ((c.length : Nat) : Int)))
 ((0 = 0 ∧ c.length = c.length) ∧
 (0 = 0 ∧ o.length = o.length) ∧
 Qs3
 (k, c, o, i, rd (Sh.arr 4 (Sh.int IntKind.u64)) c (0 + (IntKind.i64.wrap (k - 1)).toNat),
 IntKind.i64.wrap (k - 2), m, i, PUnit.unit)
 (fun _ => Kr PUnit.unit)
 (fun x =>
 dmd (decide (0 ≤ x.2.2.2.1) && decide (x.2.2.2.1 < (((List.length x.2.2.1) : Nat) : Int)))
 ((0 = 0 ∧ List.length x.2.1 = List.length x.2.1) ∧
 (0 = 0 ∧
 List.length x.2.2.1 =
 (List.set x.2.2.1 (0 + Int.toNat x.2.2.2.1)
 (IntKind.i64.wrap (x.2.2.2.1 + 1), x.2.2.2.2.1, PUnit.unit)).length) ∧
 Kn
 (x.1, x.2.1,
 List.set x.2.2.1 (0 + Int.toNat x.2.2.2.1)
 (IntKind.i64.wrap (x.2.2.2.1 + 1), x.2.2.2.2.1, PUnit.unit),
 x.2.2.2.2.2.1, IntKind.i64.wrap (x.2.2.2.2.2.2.1 + 1), PUnit.unit)),
 PUnit.unit)))
 ((0 = 0 ∧ o.length = o.length) ∧ Kx.1 (o, PUnit.unit))) := by kernel_rfl
theorem rounds3 (k : Int) (c : List (List (BitVec 64))) (o : List Shr) (i : Int) (y : List (BitVec 64)) (j m i2 : Int) (Kn : HI Is3 → Prop) (Kr : HI [] → Prop) (Kx : HP os3) : roundT (W D0 Tryd.f14.ntmps (LTab.look Lsp) (bodyAt bsp 16)) Is3 [] os3 (k, c, o, i, y, j, m, i2, ()) Kn Kr Kx =
 (  ifB (decide (0 ≤ j))
 (dmd (decide (0 ≤ IntKind.i64.wrap (i + 1)) && decide (IntKind.i64.wrap (i + 1) ≤ 255))
 (dmd (decide (0 ≤ j) && decide (j < ((c.length : Nat) : Int)))
 ((0 = 0 ∧ c.length = c.length) ∧
 (0 = 0 ∧ o.length = o.length) ∧
 Kn
 (k, c, o, i,
 wordsN 4
 ((valN (wordsN 4 (valN y * valN (wordsN 4 (IntKind.i64.wrap (i + 1)).toNat) % Lb.LL)) +
 valN (rd (Sh.arr 4 (Sh.int IntKind.u64)) c (0 + j.toNat))) %
 Lb.LL),
 IntKind.i64.wrap (j - 1), m, i2, PUnit.unit))))
 ((0 = 0 ∧ c.length = c.length) ∧ (0 = 0 ∧ o.length = o.length) ∧ Kx.1 (k, c, o, i, y, m, i2, PUnit.unit))) := by kernel_rfl
theorem fwSplit (s : Sh.T (numS)) (k : Sh.T (i64S)) (n : Sh.T (i64S)) (sd : Sh.T (.sl u8S)) (P : SV → Prop) : FW D0 Tryd.f14.ntmps (LTab.look Lsp) Tryd.f14 (argsOf [numS, i64S, i64S, .sl u8S] (s, k, n, sd, ())) P =
 (  ifB (decide (k < 1)) (P (SV.tup [AV.cell Cel.nilS, AV.val (Sh.int IntKind.i64) 1]))
 (ifB (decide (n < k)) (P (SV.tup [AV.cell Cel.nilS, AV.val (Sh.int IntKind.i64) 1]))
 (ifB (decide (20 < n)) (P (SV.tup [AV.cell Cel.nilS, AV.val (Sh.int IntKind.i64) 1]))
 (ifB (decide (0 ≤ Lb.cmpI (valN s) (valN (wordsN 4 Lb.LL))))
 (P (SV.tup [AV.cell Cel.nilS, AV.val (Sh.int IntKind.i64) 1]))
 (dmd ((List.length sd).ble 140737488355328)
 ((0 = 0 ∧ 1 = ((List.replicate 1 (List.replicate 4 0#64)).set 0 s).length) ∧
 Qs1 (k, n, (List.replicate 1 (List.replicate 4 0#64)).set 0 s, srcN sd 0#64, PUnit.unit)
 (fun x =>
 P
 (SV.tup
 [AV.val ((Sh.int IntKind.i64).pair ((Sh.arr 4 (Sh.int IntKind.u64)).pair Sh.unit)).sl x.1,
 AV.val (Sh.int IntKind.i64) x.2.1]))
 (fun x =>
 dmd
 (decide (0 ≤ x.2.1) &&
 (decide (x.2.1 ≤ x.2.1) &&
 (decide (x.2.1 * 40 ≤ 140737488355328) && decide (x.2.1 < 9223372036854775808))))
 ((0 = 0 ∧ List.length x.2.2.1 = List.length x.2.2.1) ∧
 (0 = 0 ∧
 Int.toNat x.2.1 =
 (List.replicate (Int.toNat x.2.1) (Sh.dft shS)).length) ∧
 Qs2
 (x.1, x.2.2.1, List.replicate (Int.toNat x.2.1) (Sh.dft shS),
 (((Int.toNat x.2.1) : Nat) : Int), 0, PUnit.unit)
 (fun _ => False)
 (fun x =>
 P
 (SV.tup
 [AV.val ((Sh.int IntKind.i64).pair ((Sh.arr 4 (Sh.int IntKind.u64)).pair Sh.unit)).sl
 (List.take (List.length x.1) (List.drop 0 x.1)),
 AV.val (Sh.int IntKind.i64) 0]),
 PUnit.unit)),
 PUnit.unit))))))) := by kernel_rfl
theorem one_set {α : Type} (z a : α) : List.take 1 (List.drop 0 ((List.replicate 1 z).set 0 a)) = [a] := rfl
theorem round1 (k n : Nat) (a : Num) (s : Src) (i : Nat) (hi : i < k - 1) (hk : k ≤ 20) (Kn : HI Is1 → Prop) (Kr : HI rs1 → Prop) (Kx : HP os1) (c : List Num) (hc : c = cL a s i) (t : Src) (ht : t = dS s i)
    (h1 : badD s i = true → Kr (rt1 (dE s i))) (h2 : badD s i = false → Kn (st1 (k : Int) (n : Int) (cL a s (i + 1)) (dS s (i + 1)))) :
    roundT (W D0 Tryd.f14.ntmps (LTab.look Lsp) (bodyAt bsp 5)) Is1 rs1 os1 (st1 (k : Int) (n : Int) c t) Kn Kr Kx := by
  have hl : c.length = i + 1 := by rw [hc, cL_len]
  have e1 : cL a s (i + 1) = c ++ [belX t LW] := by rw [hc, ht]; rfl
  have e2 : dS s (i + 1) = belG t LW := by rw [ht]; rfl
  rw [e1, e2] at h2
  unfold badD dE at h1 h2
  rw [← ht] at h1 h2
  clear hc ht e1 e2
  refine (rounds1 _ _ c t Kn Kr Kx).mpr ?_
  rw [one_set]
  refine ifB_dec (fun _ => ifB_of h1 (fun b => dmd_of (andT (Nat.beq_refl _) (bleT (by rw [hl]; show (i + 1 + 1) * 32 ≤ _; omega))) ⟨⟨rfl, List.length_append.symm⟩, h2 b⟩)) (fun d => absurd (show ((c.length : Nat) : Int) < ((k : Nat) : Int) by omega) d)
theorem loops1 : ∀ z Kr Kx, Qs1 z Kr Kx → ∃ n, untl (W D0 Tryd.f14.ntmps (LTab.look Lsp) (bodyAt bsp 5)) Is1 rs1 os1 n z Kr Kx := by
  rintro z Kr Kx ⟨k, n, a, s, ez, ⟨hk1, hk⟩, hr, hn⟩
  rw [ez]
  cases hf : firstN (badD s) (k - 1) with
  | some j =>
    obtain ⟨h1, h2, h3⟩ := first_some hf
    refine untl_up (F := W D0 Tryd.f14.ntmps (LTab.look Lsp) (bodyAt bsp 5)) (l := Is1) (lr := rs1) (lx := os1) (Kr := Kr) (Kx := Kx) (st := fun i => st1 (k : Int) (n : Int) (cL a s i) (dS s i)) j (fun i hi Kn hK => ?_) (fun Kn => ?_)
    · exact round1 k n a s i (by omega) hk Kn Kr Kx _ rfl _ rfl (fun c => by rw [h3 i hi] at c; cases c) (fun _ => hK)
    · exact round1 k n a s j h1 hk Kn Kr Kx _ rfl _ rfl (fun _ => hr j hf) (fun c => by rw [h2] at c; cases c)
  | none =>
    have h3 := first_none hf
    refine untl_up (F := W D0 Tryd.f14.ntmps (LTab.look Lsp) (bodyAt bsp 5)) (l := Is1) (lr := rs1) (lx := os1) (Kr := Kr) (Kx := Kx) (st := fun i => st1 (k : Int) (n : Int) (cL a s i) (dS s i)) (k - 1) (fun i hi Kn hK => ?_) (fun Kn => ?_)
    · exact round1 k n a s i hi hk Kn Kr Kx _ rfl _ rfl (fun c => by rw [h3 i hi] at c; cases c) (fun _ => hK)
    · have hl : (cL a s (k - 1)).length = k := by rw [cL_len]; omega
      have hn := hn hf (cL a s (k - 1)) rfl
      generalize cL a s (k - 1) = c at *
      generalize dS s (k - 1) = t
      refine (rounds1 _ _ c t Kn Kr Kx).mpr ?_
      exact ifB_dec (fun d => absurd (show ((c.length : Nat) : Int) < ((k : Nat) : Int) from d) (by omega)) (fun _ => ⟨⟨rfl, rfl⟩, hn⟩)
set_option maxRecDepth 20000 in
theorem loops3 : ∀ z Kr Kx, Qs3 z Kr Kx → ∃ n, untl (W D0 Tryd.f14.ntmps (LTab.look Lsp) (bodyAt bsp 16)) Is3 [] os3 n z Kr Kx := by
  rintro z Kr Kx ⟨k, i, c, o, y, m, ez, ⟨hk1, hk2, hi, hc, rfl⟩, hK⟩
  rw [ez]
  have key := untl_up (F := W D0 Tryd.f14.ntmps (LTab.look Lsp) (bodyAt bsp 16)) (l := Is3) (lr := []) (lx := os3) (Kr := Kr) (Kx := Kx) (st := fun t => st3 (k : Int) c o (i : Int) (hW c k (i + 1) t) ((k : Int) - 2 - (t : Int)) m) (k - 1) (fun t ht Kn hn => ?_) (fun Kn => ?_)
  · have e0 : ((k : Int) - 2 - ((0 : Nat) : Int)) = (k : Int) - 2 := by omega
    rw [e0] at key
    exact key
  · obtain ⟨j, hj⟩ : ∃ j : Nat, (k : Int) - 2 - (t : Int) = (j : Int) := ⟨k - 2 - t, by omega⟩
    have hj2 : k - 2 - t = j := by omega
    have ew : IntKind.i64.wrap ((i : Int) + 1) = ((i + 1 : Nat) : Int) := i64w (by omega) (by omega)
    have ej : IntKind.i64.wrap ((j : Int) - 1) = (k : Int) - 2 - ((t + 1 : Nat) : Int) := by rw [IntWalk.i64_in _ (by omega)]; omega
    have en : hW c k (i + 1) (t + 1) = wordsN 4 ((valN (wordsN 4 (valN (hW c k (i + 1) t) * valN (wordsN 4 (i + 1)) % Lb.LL)) + valN (rd numS c j)) % Lb.LL) := by rw [← hj2]; rfl
    rw [hj]
    rw [en, ← ej] at hn
    generalize hW c k (i + 1) t = y at *
    refine (rounds3 _ c o _ y _ m _ Kn Kr Kx).mpr ?_
    rw [ew, Int.toNat_natCast, Int.toNat_natCast, Nat.zero_add]
    refine ifB_dec (fun _ => dmd_of ?_ (dmd_of ?_ ⟨⟨rfl, rfl⟩, ⟨rfl, rfl⟩, ?_⟩)) (fun d => absurd (show (0 : Int) ≤ (j : Int) by omega) d)
    · exact andT (decTr (by omega)) (decTr (by omega))
    · exact andT (decTr (by omega)) (decTr (by omega))
    · exact hn
  · have hK := hK _ rfl
    generalize hW c k (i + 1) (k - 1) = y at *
    refine (rounds3 _ c o _ y _ m _ Kn Kr Kx).mpr ?_
    exact ifB_dec (fun d => absurd (show (0 : Int) ≤ (k : Int) - 2 - ((k - 1 : Nat) : Int) from d) (by omega)) (fun _ => ⟨⟨rfl, rfl⟩, ⟨rfl, rfl⟩, hK⟩)
set_option maxRecDepth 20000 in
theorem loops2 : ∀ z Kr Kx, Qs2 z Kr Kx → ∃ n, untl (W D0 Tryd.f14.ntmps (LTab.look Lsp) (bodyAt bsp 12)) Is2 [] os2 n z Kr Kx := by
  rintro z Kr Kx ⟨k, n, c, ez, ⟨hk1, hb, hn, hc⟩, hK⟩
  rw [ez]
  refine untl_up (F := W D0 Tryd.f14.ntmps (LTab.look Lsp) (bodyAt bsp 12)) (l := Is2) (lr := []) (lx := os2) (Kr := Kr) (Kx := Kx) (st := fun i => st2 (k : Int) c (oW c k n i) (n : Int) (i : Int)) n (fun i hi Kn h => ?_) (fun Kn => ?_)
  · have hol := oW_len c k n i
    have eo : oW c k n (i + 1) = (oW c k n i).set i (shr c k i) := rfl
    rw [eo] at h
    generalize oW c k n i = o at *
    have ek : IntKind.i64.wrap ((k : Int) - 1) = ((k - 1 : Nat) : Int) := by rw [IntWalk.i64_in _ (by omega)]; omega
    have ek2 : IntKind.i64.wrap ((k : Int) - 2) = (k : Int) - 2 := IntWalk.i64_in _ (by omega)
    refine (rounds2 _ c o _ _ Kn Kr Kx).mpr ?_
    rw [ek, ek2, Int.toNat_natCast, Nat.zero_add]
    refine ifB_dec (fun _ => dmd_of (andT (decTr (by omega)) (decTr (by omega))) ⟨⟨rfl, rfl⟩, ⟨rfl, rfl⟩, k, i, c, o, _, (n : Int), rfl, ⟨hk1, hb, by omega, hc, rfl⟩, fun y hy => ?_⟩) (fun d => absurd (show (i : Int) < (n : Int) by omega) d)
    show dmd (decide ((0 : Int) ≤ (i : Int)) && decide ((i : Int) < ((o.length : Nat) : Int))) ((0 = 0 ∧ c.length = c.length) ∧ (0 = 0 ∧ o.length = (o.set (0 + (i : Int).toNat) (IntKind.i64.wrap ((i : Int) + 1), y, ())).length) ∧
      Kn ((k : Int), c, o.set (0 + (i : Int).toNat) (IntKind.i64.wrap ((i : Int) + 1), y, ()), (n : Int), IntKind.i64.wrap ((i : Int) + 1), ()))
    rw [i64w (a := (i : Int) + 1) (n := i + 1) (by omega) (by omega), Int.toNat_natCast, Nat.zero_add]
    refine dmd_of (inB (by omega)) ⟨⟨rfl, rfl⟩, ⟨rfl, by rw [List.length_set]⟩, ?_⟩
    unfold shr at h
    rw [← hy] at h
    exact h
  · have hK := hK _ rfl
    have hol := oW_len c k n n
    generalize oW c k n n = o at *
    refine (rounds2 _ c o _ _ Kn Kr Kx).mpr ?_
    exact ifB_dec (fun d => absurd d (by omega)) (fun _ => ⟨⟨rfl, rfl⟩, hK⟩)
theorem bodySp : bodyAt (bodyAt bsp 12) 16 = bodyAt bsp 16 := by kernel_rfl
theorem lokS1 : LoopsOK D0 Tryd.f14.ntmps (LTab.look Lsp) (bodyAt bsp 5) := loopsOK (by kernel_rfl) (LTCons (noLoop (by kernel_rfl)) (LTCons (noLoop (by kernel_rfl)) (LTCons (noLoop (by kernel_rfl)) LTNil)))
theorem lokS3 : LoopsOK D0 Tryd.f14.ntmps (LTab.look Lsp) (bodyAt bsp 16) := loopsOK (by kernel_rfl) (LTCons (noLoop (by kernel_rfl)) (LTCons (noLoop (by kernel_rfl)) (LTCons (noLoop (by kernel_rfl)) LTNil)))
theorem lokS2 : LoopsOK D0 Tryd.f14.ntmps (LTab.look Lsp) (bodyAt bsp 12) :=
  loopsOK (by kernel_rfl) (LTCons (noLoop (by kernel_rfl)) (LTCons (noLoop (by kernel_rfl)) (LTCons (loop_of (t := Lsp) (c := bodyAt bsp 12) (k := 16) shA_ok D0_ok mixed (by rw [bodySp]; exact lokS3) (by kernel_rfl) (by rw [bodySp]; exact loops3)) LTNil)))
theorem lokSp : LoopsOK D0 Tryd.f14.ntmps (LTab.look Lsp) bsp :=
  loopsOK (by kernel_rfl) (LTCons (loop_of (t := Lsp) (c := bsp) (k := 5) shA_ok D0_ok mixed lokS1 (by kernel_rfl) loops1) (LTCons (loop_of (t := Lsp) (c := bsp) (k := 12) shA_ok D0_ok mixed lokS2 (by kernel_rfl) loops2) (LTCons (loop_of (t := Lsp) (c := bsp) (k := 16) shA_ok D0_ok mixed lokS3 (by kernel_rfl) loops3) LTNil)))
noncomputable def splR (a : Num) (k n : Int) (sd : List (BitVec 8)) : SV := .tup [.val (.sl shS) (splO a k n sd), .val i64S (splE a k n sd)]
theorem splR_1 {a : Num} {k n : Int} {sd : List (BitVec 8)} {e : Int} (h : splE a k n sd = e) (he : e ≠ 0) : splR a k n sd = .tup [.val (.sl shS) [], .val i64S e] := by
  unfold splR splO
  rw [h, decFa he]; rfl
theorem splR_0 {a : Num} {k n : Int} {sd : List (BitVec 8)} (h : splE a k n sd = 0) : splR a k n sd = .tup [.val (.sl shS) (oW (splC a k sd) k.toNat n.toNat n.toNat), .val i64S 0] := by
  unfold splR splO
  rw [h]; rfl
theorem split_fw (a : Num) (k n : Int) (sd : List (BitVec 8)) (hs : sd.length ≤ 140737488355328) : FW D0 Tryd.f14.ntmps (LTab.look Lsp) Tryd.f14 (argsOf [numS, i64S, i64S, .sl u8S] (a, k, n, sd, ())) (fun r => nrmS [.sl shS, i64S] r = splR a k n sd) := by
  rw [fwSplit]
  have bad : (argB k n || decide (0 ≤ Lb.cmpI (valN a) (valN LW))) = true → nrmS [.sl shS, i64S] (.tup [.cell .nilS, .val i64S 1]) = splR a k n sd := fun h => by
    rw [splR_1 (e := 1) (by unfold splE; rw [h]; rfl) (by decide)]; rfl
  refine ifB_dec (fun c => bad (by unfold argB; rw [decTr c]; rfl)) (fun c1 => ifB_dec (fun c => bad (by unfold argB; rw [decFa c1, decTr c]; rfl)) (fun c2 => ifB_dec (fun c => bad (by unfold argB; rw [decFa c1, decFa c2, decTr c]; rfl)) (fun c3 => ifB_dec (fun c => bad (by unfold LW; rw [decTr c, Bool.or_true])) (fun c4 => dmd_of (bleT hs) ?_))))
  have c1 : ¬ k < (1 : Int) := c1
  have c2 : ¬ n < k := c2
  have c3 : ¬ (20 : Int) < n := c3
  have hb : (argB k n || decide (0 ≤ Lb.cmpI (valN a) (valN LW))) = false := by unfold argB LW; rw [decFa c1, decFa c2, decFa c3, decFa c4]; rfl
  obtain ⟨k, rfl⟩ := Int.eq_ofNat_of_zero_le (show 0 ≤ k by omega)
  obtain ⟨n, rfl⟩ := Int.eq_ofNat_of_zero_le (show 0 ≤ n by omega)
  have hE : splE a ((k : Nat) : Int) ((n : Nat) : Int) sd = match firstN (badD (srcN sd 0#64)) (k - 1) with | some j => dE (srcN sd 0#64) j | none => 0 := by
    unfold splE; rw [hb]; rfl
  have hC : splC a ((k : Nat) : Int) sd = cL a (srcN sd 0#64) (k - 1) := rfl
  generalize srcN sd 0#64 = s at *
  refine ⟨⟨rfl, rfl⟩, k, n, a, s, rfl, ⟨by omega, by omega⟩, fun j hj => ?_, fun hn c hc => ?_⟩
  · rw [hj] at hE
    have hne : dE s j ≠ 0 := by
      have := (first_some hj).2.1
      unfold badD at this
      simpa using this
    rw [splR_1 hE hne]; rfl
  · rw [hn] at hE
    rw [splR_0 hE, hC, ← hc]
    have hl : c.length = k := by rw [hc, cL_len]; omega
    clear hE hC hc hn hb bad
    show dmd (decide ((0 : Int) ≤ ((n : Nat) : Int)) && (decide (((n : Nat) : Int) ≤ ((n : Nat) : Int)) && (decide (((n : Nat) : Int) * 40 ≤ 140737488355328) && decide (((n : Nat) : Int) < 9223372036854775808)))) _
    refine dmd_of (andT (decTr (by omega)) (andT (decTr (Int.le_refl _)) (andT (decTr (by omega)) (decTr (by omega))))) ⟨⟨rfl, rfl⟩, ⟨rfl, List.length_replicate.symm⟩, k, n, c, ?_, ⟨by omega, by omega, by omega, hl⟩, fun o ho => ?_⟩
    · rfl
    · show nrmS [.sl shS, i64S] (.tup [.val (.sl shS) (List.take o.length (List.drop 0 o)), .val i64S 0]) = _
      have e : List.take o.length (List.drop 0 o) = o := drop0_take _ _ rfl
      rw [e, ho]; rfl
theorem split_ok : COK Tryd.prog GL 14 (conA [.v numS, .v i64S, .v i64S, .v (.sl u8S)] fun xs => .dem (Nat.ble (List.length xs.2.2.2.1) 140737488355328) (.ret (.tup [.val (.sl shS) (splO xs.1 xs.2.1 xs.2.2.1 xs.2.2.2.1), .val i64S (splE xs.1 xs.2.1 xs.2.2.1 xs.2.2.2.1)]))) :=
  conA_ok (fun xs _ hc => PC_of_fwn (t := Lsp) [.sl shS, i64S] shA_ok D0_ok mixed Tryd.func14 (c := bsp) rfl (by kernel_rfl) (by kernel_rfl) lokSp rfl (split_fw xs.1 xs.2.1 xs.2.2.1 xs.2.2.2.1 (Nat.le_of_ble_eq_true hc.1))) (fun _ => rfl)
end Go.Proofs.YtghmfiandllpfaaDoor
