import Derived.Test.YtghmfiandllpfaaDoorSc
namespace Go.Proofs.YtghmfiandllpfaaDoor
open Go.Ty
open Go.Lag (upN lagN lag Fld)

noncomputable instance neLL : NeZero Lb.LL := ⟨by have := Lb.LL_pos; omega⟩
abbrev FL : Type := Fin Lb.LL
noncomputable def toF (n : Nat) : FL := Fin.ofNat Lb.LL n
noncomputable def wF (a : FL) : List (BitVec 64) := wordsN 4 a.val
theorem LL_256 : Lb.LL < 2 ^ 256 := by have := Lb.LL_lt; omega
theorem val_w (a : FL) : valN (wF a) = a.val := Lb.v4 (Nat.lt_trans a.isLt LL_256)
theorem toF_val (n : Nat) : (toF n).val = n % Lb.LL := rfl
theorem toF_self (a : FL) : toF a.val = a := Fin.ext (Nat.mod_eq_of_lt a.isLt)
theorem invL_lt (A : Nat) : Lb.invN A Lb.LL < Lb.LL := by
  unfold Lb.invN
  by_cases h2 : ∃ x, x < Lb.LL ∧ A * x % Lb.LL = 1
  · rw [dif_pos h2]; exact (Classical.choose_spec h2).1
  · rw [dif_neg h2]; exact Lb.LL_pos
theorem fer_invL {A : Nat} (h : A % Lb.LL ≠ 0) : A * Lb.invN A Lb.LL % Lb.LL = 1 := by
  have hf := Lb.ferLL
  have h1 := hf.1
  have e : A * A ^ (Lb.LL - 2) % Lb.LL = 1 := by
    rw [Nat.mul_comm, ← Nat.pow_succ]
    have : Lb.LL - 2 + 1 = Lb.LL - 1 := by omega
    show A ^ (Lb.LL - 2 + 1) % Lb.LL = 1
    rw [this]; exact hf.2 A h
  have hx := Nat.mod_lt (A ^ (Lb.LL - 2)) (show 0 < Lb.LL by omega)
  have e2 : A * (A ^ (Lb.LL - 2) % Lb.LL) % Lb.LL = 1 := by rw [Nat.mul_mod_mod]; exact e
  rw [Lb.invN_eq hx e2]; exact e2
noncomputable def iv (a : FL) : FL := ⟨Lb.invN a.val Lb.LL, invL_lt _⟩
theorem one_val : (1 : FL).val = 1 := by
  show 1 % Lb.LL = 1
  exact Nat.mod_eq_of_lt Lb.LL_1
theorem zero_val : (0 : FL).val = 0 := by
  show 0 % Lb.LL = 0
  exact Nat.zero_mod _
theorem fld : Fld iv := by
  refine ⟨fun e => ?_, fun a ha => Fin.ext ?_⟩
  · have := congrArg Fin.val e
    rw [one_val, zero_val] at this
    cases this
  · have h : a.val % Lb.LL ≠ 0 := fun h => ha (Fin.ext (by rw [zero_val]; rw [Nat.mod_eq_of_lt a.isLt] at h; exact h))
    rw [Fin.val_mul, one_val]
    exact fer_invL h
theorem mulW (a b : FL) : wordsN 4 (valN (wF a) * valN (wF b) % Lb.LL) = wF (a * b) := by
  unfold wF; rw [← wF, ← wF, val_w, val_w, Fin.val_mul]
theorem addW (a b : FL) : wordsN 4 ((valN (wF a) + valN (wF b)) % Lb.LL) = wF (a + b) := by
  unfold wF; rw [← wF, ← wF, val_w, val_w, Fin.val_add]
theorem yW (n : Nat) (b : FL) : wordsN 4 (n * valN (wF b) % Lb.LL) = wF (toF n * b) := by
  unfold wF; rw [← wF, val_w, Fin.val_mul, toF_val, Nat.mod_mul_mod]
theorem invW (a : FL) : wordsN 4 (Lb.invN (valN (wF a)) Lb.LL) = wF (iv a) := by
  rw [val_w]; rfl
theorem subW {m k : Nat} (hm : m < 2 ^ 256) (hk : k < 2 ^ 256) : wordsN 4 ((valN (wordsN 4 m) + valN (wordsN 4 ((Lb.LL - valN (wordsN 4 k) % Lb.LL) % Lb.LL))) % Lb.LL) = wF (toF m - toF k) := by
  rw [Lb.v4 hm, Lb.v4 hk, Lb.vl']
  show _ = wordsN 4 (toF m - toF k).val
  rw [Fin.sub_def]
  show _ = wordsN 4 ((Lb.LL - k % Lb.LL + m % Lb.LL) % Lb.LL)
  rw [Nat.add_mod_mod, Nat.add_mod_mod, Nat.add_comm]
theorem w_zero : List.replicate 4 0#64 = wF 0 := by unfold wF; rw [zero_val, wordsN_eq]; decide
theorem w_one : (List.replicate 4 0#64).set 0 1#64 = wF 1 := by unfold wF; rw [one_val, wordsN_eq]; decide

noncomputable def XF (l : List Shr) (i : Nat) : FL := toF (Xi l i).toNat
noncomputable def YF (l : List Shr) (i : Nat) : FL := toF (valN (Yi l i))
noncomputable def atF (l : List Shr) (x : Int) : FL := lag iv (XF l) (YF l) l.length (toF x.toNat)
noncomputable def atX (l : List Shr) (x : Int) : List (BitVec 64) := bif decide (chkE l x = 0) then wF (atF l x) else List.replicate 4 0#64
abbrev Iao : List It := [.v 0 (.sl shS), .v 1 i64S, .p 4 2000 numS, .p 7 2001 numS, .v 21 (.sl shS), .v 22 i64S, .v 23 i64S]
abbrev oao : List (Nat × List It) := [(0, [.p 4 2000 numS, .p 7 2001 numS])]
abbrev Iai : List It := [.v 0 (.sl shS), .v 1 i64S, .p 4 2000 numS, .p 7 2001 numS, .v 8 i64S, .p 9 2002 shS, .p 10 2003 numS, .p 11 2004 numS, .v 21 (.sl shS), .v 22 i64S, .v 23 i64S, .v 30 (.sl shS), .v 31 i64S, .v 32 i64S]
abbrev oai : List (Nat × List It) := [(2, [.v 0 (.sl shS), .v 1 i64S, .p 4 2000 numS, .p 7 2001 numS, .p 9 2002 shS, .p 10 2003 numS, .p 11 2004 numS, .v 21 (.sl shS), .v 22 i64S, .v 23 i64S])]
noncomputable def stAo (l : List Shr) (x : Int) (r s : List (BitVec 64)) (i : Int) : HI Iao := (l, x, r, s, l, ((l.length : Nat) : Int), i, ())
noncomputable def stAi (l : List Shr) (x : Int) (r s : List (BitVec 64)) (i : Int) (y : Shr) (u d : List (BitVec 64)) (j : Int) : HI Iai := (l, x, r, s, i, y, u, d, l, ((l.length : Nat) : Int), i, l, ((l.length : Nat) : Int), j, ())
noncomputable def Qao : LQ Iao [] oao := fun z _ Kx => ∃ (l : List Shr) (x : Int) (r : List (BitVec 64)), z = stAo l x r (List.replicate 4 0#64) 0 ∧ chkE l x = 0 ∧ ∀ g, g = wF (atF l x) → Kx.1 (r, g, ())
noncomputable def Qai : LQ Iai [] oai := fun z _ Kx => ∃ (l : List Shr) (x : Int) (r s : List (BitVec 64)) (i : Nat) (y : Shr) (u d : List (BitVec 64)), z = stAi l x r s (i : Int) y u d 0 ∧ (chkE l x = 0 ∧ i < l.length ∧ y = rd shS l i ∧ u = wF 1 ∧ d = wF 1) ∧
  ∀ g h, g = wF (upN (XF l) i (toF x.toNat) l.length) → h = wF (upN (XF l) i (XF l i) l.length) → Kx.1 (l, x, r, s, y, g, h, l, ((l.length : Nat) : Int), (i : Int), ())
noncomputable def bao : Code := Tryd.f16.body.getD .skip
noncomputable abbrev Lao : LTab := [(6, ptL Iao [] oao Qao), (10, ptL Iai [] oai Qai)]
theorem roundai (l : List (Sh.T shS)) (x : Int) (r s : List (BitVec 64)) (i0 : Int) (y : Sh.T shS) (u d : List (BitVec 64)) (l1 : List (Sh.T shS)) (m1 i1 : Int) (l2 : List (Sh.T shS)) (m2 i2 : Int) (Kn : HI Iai → Prop) (Kr : HI [] → Prop) (Kx : HP oai) : roundT (W C1 Tryd.f16.ntmps (LTab.look Lao) (bodyAt bao 10)) Iai [] oai (l, x, r, s, i0, y, u, d, l1, m1, i1, l2, m2, i2, ()) Kn Kr Kx =
 (  ifB (decide (i2 < m2))
 (dmd (decide (0 ≤ i2) && decide (i2 < ((l2.length : Nat) : Int)))
 (ifB (!decide (i0 = i2))
 (dmd (decide (0 ≤ x) && decide (x ≤ 255))
 (dmd
 (decide (0 ≤ (rd ((Sh.int IntKind.i64).pair ((Sh.arr 4 (Sh.int IntKind.u64)).pair Sh.unit)) l2 i2.toNat).1) &&
 decide
 ((rd ((Sh.int IntKind.i64).pair ((Sh.arr 4 (Sh.int IntKind.u64)).pair Sh.unit)) l2 i2.toNat).1 ≤ 255))
 (dmd (decide (0 ≤ y.1) && decide (y.1 ≤ 255))
 (dmd
 (decide
 (0 ≤ (rd ((Sh.int IntKind.i64).pair ((Sh.arr 4 (Sh.int IntKind.u64)).pair Sh.unit)) l2 i2.toNat).1) &&
 decide
 ((rd ((Sh.int IntKind.i64).pair ((Sh.arr 4 (Sh.int IntKind.u64)).pair Sh.unit)) l2 i2.toNat).1 ≤ 255))
 (Kn
 (l, x, r, s, i0, y,
 wordsN 4
 (valN u *
 valN
 (wordsN 4
 ((valN (wordsN 4 x.toNat) +
 valN
 (wordsN 4
 ((Lb.LL -
 valN
 (wordsN 4
 (Int.toNat
 (rd
 ((Sh.int IntKind.i64).pair
 ((Sh.arr 4 (Sh.int IntKind.u64)).pair Sh.unit))
 l2 i2.toNat).1)) %
 Lb.LL) %
 Lb.LL))) %
 Lb.LL)) %
 Lb.LL),
 wordsN 4
 (valN d *
 valN
 (wordsN 4
 ((valN (wordsN 4 (Int.toNat y.1)) +
 valN
 (wordsN 4
 ((Lb.LL -
 valN
 (wordsN 4
 (Int.toNat
 (rd
 ((Sh.int IntKind.i64).pair
 ((Sh.arr 4 (Sh.int IntKind.u64)).pair Sh.unit))
 l2 i2.toNat).1)) %
 Lb.LL) %
 Lb.LL))) %
 Lb.LL)) %
 Lb.LL),
 l1, m1, i1, l2, m2, IntKind.i64.wrap (i2 + 1), PUnit.unit))))))
 (Kn (l, x, r, s, i0, y, u, d, l1, m1, i1, l2, m2, IntKind.i64.wrap (i2 + 1), PUnit.unit))))
 (Kx.1 (l, x, r, s, y, u, d, l1, m1, i1, PUnit.unit))) := by kernel_rfl
theorem roundao (l : List (Sh.T shS)) (x : Int) (r s : List (BitVec 64)) (l1 : List (Sh.T shS)) (m1 i1 : Int) (Kn : HI Iao → Prop) (Kr : HI [] → Prop) (Kx : HP oao) : roundT (W C1 Tryd.f16.ntmps (LTab.look Lao) (bodyAt bao 6)) Iao [] oao (l, x, r, s, l1, m1, i1, ()) Kn Kr Kx =
 (  ifB (decide (i1 < m1))
 (dmd (decide (0 ≤ i1) && decide (i1 < ((l1.length : Nat) : Int)))
 (Qai
 (l, x, r, s, i1, rd ((Sh.int IntKind.i64).pair ((Sh.arr 4 (Sh.int IntKind.u64)).pair Sh.unit)) l1 i1.toNat,
 (List.replicate 4 0#64).set 0 1#64, (List.replicate 4 0#64).set 0 1#64, l1, m1, i1, l, ((l.length : Nat) : Int), 0, PUnit.unit)
 (fun _ => Kr PUnit.unit)
 (fun x =>
 Kn
 (x.1, x.2.1, x.2.2.1,
 wordsN 4
 ((valN x.2.2.2.1 +
 valN
 (wordsN 4
 (valN x.2.2.2.2.1.2.1 *
 valN
 (wordsN 4
 (valN x.2.2.2.2.2.1 * valN (wordsN 4 (Lb.invN (valN x.2.2.2.2.2.2.1) Lb.LL)) % Lb.LL)) %
 Lb.LL))) %
 Lb.LL),
 x.2.2.2.2.2.2.2.1, x.2.2.2.2.2.2.2.2.1, IntKind.i64.wrap (x.2.2.2.2.2.2.2.2.2.1 + 1), PUnit.unit),
 PUnit.unit)))
 (Kx.1 (r, s, PUnit.unit))) := by kernel_rfl
theorem fwAtS (l : Sh.T (.sl shS)) (x : Sh.T (i64S)) (P : SV → Prop) : FW C1 Tryd.f16.ntmps (LTab.look Lao) Tryd.f16 (argsOf [.sl shS, i64S] (l, x, ())) P =
 (  ifB (!decide (chkE l x = 0))
 (P (SV.tup [AV.val (Sh.arr 4 (Sh.int IntKind.u64)) (List.replicate 4 0#64), AV.val (Sh.int IntKind.i64) (chkE l x)]))
 (Qao (l, x, List.replicate 4 0#64, List.replicate 4 0#64, l, (((List.length l) : Nat) : Int), 0, PUnit.unit) (fun _ => False)
 (fun x => P (SV.tup [AV.val (Sh.arr 4 (Sh.int IntKind.u64)) x.2.1, AV.val (Sh.int IntKind.i64) 0]), PUnit.unit))) := by kernel_rfl
theorem small_256 {n : Int} (h : n ≤ 255) : n.toNat < 2 ^ 256 := by
  have h1 : n.toNat < 256 := by omega
  exact Nat.lt_trans h1 (by decide)
theorem stepI (l : List Shr) (x : Int) (r s : List (BitVec 64)) (i j : Nat) (hj : j < l.length) (hi : i < l.length) (hc : chkE l x = 0) (a b : FL) (Kn : HI Iai → Prop) (Kr : HI [] → Prop) (Kx : HP oai)
    (h : Kn (stAi l x r s (i : Int) (rd shS l i) (wF (bif Nat.beq i j then a else a * (toF x.toNat - XF l j))) (wF (bif Nat.beq i j then b else b * (XF l i - XF l j))) ((j + 1 : Nat) : Int))) :
    roundT (W C1 Tryd.f16.ntmps (LTab.look Lao) (bodyAt bao 10)) Iai [] oai (stAi l x r s (i : Int) (rd shS l i) (wF a) (wF b) (j : Int)) Kn Kr Kx := by
  obtain ⟨hl, _, ⟨hx0, hx1⟩, hg⟩ := chk_0 hc
  obtain ⟨a1, a2, _⟩ := hg.1 i hi
  obtain ⟨b1, b2, _⟩ := hg.1 j hj
  refine (roundai _ _ _ _ _ _ _ _ _ _ _ _ _ _ Kn Kr Kx).mpr ?_
  rw [i64w (a := (j : Int) + 1) (n := j + 1) (by omega) (by omega), Int.toNat_natCast]
  refine ifB_dec (fun _ => dmd_of (inB hj) (ifB_neg (fun e => ?_) (fun e => ?_))) (fun c => absurd (show (j : Int) < ((l.length : Nat) : Int) by omega) c)
  · have hb : Nat.beq i j = false := by
      cases hb : Nat.beq i j with
      | false => rfl
      | true => exact absurd (show (i : Int) = (j : Int) by rw [Nat.eq_of_beq_eq_true hb]) e
    rw [hb] at h
    have e1 := subW (m := x.toNat) (k := (Xi l j).toNat) (small_256 hx1) (small_256 b2)
    have e2 := subW (m := (Xi l i).toNat) (k := (Xi l j).toNat) (small_256 a2) (small_256 b2)
    have f1 := mulW a (toF x.toNat - toF (Xi l j).toNat)
    have f2 := mulW b (toF (Xi l i).toNat - toF (Xi l j).toNat)
    rw [← e1] at f1
    rw [← e2] at f2
    refine dmd_of (andT (decTr hx0) (decTr hx1)) (dmd_of (andT (decTr (show (0 : Int) ≤ Xi l j by omega)) (decTr b2)) (dmd_of (andT (decTr (show (0 : Int) ≤ Xi l i by omega)) (decTr a2)) (dmd_of (andT (decTr (show (0 : Int) ≤ Xi l j by omega)) (decTr b2)) ?_)))
    have h : Kn (stAi l x r s (i : Int) (rd shS l i) (wF (a * (toF x.toNat - toF (Xi l j).toNat))) (wF (b * (toF (Xi l i).toNat - toF (Xi l j).toNat))) ((j + 1 : Nat) : Int)) := h
    rw [← f1, ← f2] at h
    exact h
  · have e : (i : Int) = (j : Int) := e
    have hb : Nat.beq i j = true := by rw [show i = j by omega]; exact Nat.beq_refl j
    rw [hb] at h
    exact h
theorem loopai : ∀ z Kr Kx, Qai z Kr Kx → ∃ n, untl (W C1 Tryd.f16.ntmps (LTab.look Lao) (bodyAt bao 10)) Iai [] oai n z Kr Kx := by
  rintro z Kr Kx ⟨l, x, r, s, i, y, u, d, ez, ⟨hc, hi, rfl, rfl, rfl⟩, hK⟩
  rw [ez]
  refine untl_up (F := W C1 Tryd.f16.ntmps (LTab.look Lao) (bodyAt bao 10)) (l := Iai) (lr := []) (lx := oai) (Kr := Kr) (Kx := Kx) (st := fun j => stAi l x r s (i : Int) (rd shS l i) (wF (upN (XF l) i (toF x.toNat) j)) (wF (upN (XF l) i (XF l i) j)) (j : Int)) l.length (fun j hj Kn hn => ?_) (fun Kn => ?_)
  · exact stepI l x r s i j hj hi hc _ _ Kn Kr Kx hn
  · refine (roundai _ _ _ _ _ _ _ _ _ _ _ _ _ _ Kn Kr Kx).mpr ?_
    exact ifB_dec (fun c => absurd c (by omega)) (fun _ => hK _ _ rfl rfl)
theorem stepO (l : List Shr) (x : Int) (r : List (BitVec 64)) (i : Nat) (hi : i < l.length) (hc : chkE l x = 0) (a : FL) (Kn : HI Iao → Prop) (Kr : HI [] → Prop) (Kx : HP oao)
    (h : Kn (stAo l x r (wF (a + YF l i * (upN (XF l) i (toF x.toNat) l.length * iv (upN (XF l) i (XF l i) l.length)))) ((i + 1 : Nat) : Int))) :
    roundT (W C1 Tryd.f16.ntmps (LTab.look Lao) (bodyAt bao 6)) Iao [] oao (stAo l x r (wF a) (i : Int)) Kn Kr Kx := by
  obtain ⟨hl, _, _, _⟩ := chk_0 hc
  refine (roundao _ _ _ _ _ _ _ Kn Kr Kx).mpr ?_
  rw [Int.toNat_natCast]
  refine ifB_dec (fun _ => dmd_of (inB hi) ⟨l, x, r, wF a, i, rd shS l i, _, _, rfl, ⟨hc, hi, rfl, w_one, w_one⟩, fun g k hg hk => ?_⟩) (fun c => absurd (show (i : Int) < ((l.length : Nat) : Int) by omega) c)
  show Kn (l, x, r, wordsN 4 ((valN (wF a) + valN (wordsN 4 (valN (Yi l i) * valN (wordsN 4 (valN g * valN (wordsN 4 (Lb.invN (valN k) Lb.LL)) % Lb.LL)) % Lb.LL))) % Lb.LL), l, ((l.length : Nat) : Int), IntKind.i64.wrap ((i : Int) + 1), PUnit.unit)
  rw [i64w (a := (i : Int) + 1) (n := i + 1) (by omega) (by omega), hg, hk, invW, mulW, yW, addW]
  exact h
theorem loopao : ∀ z Kr Kx, Qao z Kr Kx → ∃ n, untl (W C1 Tryd.f16.ntmps (LTab.look Lao) (bodyAt bao 6)) Iao [] oao n z Kr Kx := by
  rintro z Kr Kx ⟨l, x, r, ez, hc, hK⟩
  rw [ez, w_zero]
  refine untl_up (F := W C1 Tryd.f16.ntmps (LTab.look Lao) (bodyAt bao 6)) (l := Iao) (lr := []) (lx := oao) (Kr := Kr) (Kx := Kx) (st := fun i => stAo l x r (wF (lagN iv (XF l) (YF l) l.length (toF x.toNat) i)) (i : Int)) l.length (fun i hi Kn hn => ?_) (fun Kn => ?_)
  · exact stepO l x r i hi hc _ Kn Kr Kx hn
  · refine (roundao _ _ _ _ _ _ _ Kn Kr Kx).mpr ?_
    exact ifB_dec (fun c => absurd c (by omega)) (fun _ => hK _ rfl)
theorem bodyAo : bodyAt (bodyAt bao 6) 10 = bodyAt bao 10 := by kernel_rfl
theorem lokAi : LoopsOK C1 Tryd.f16.ntmps (LTab.look Lao) (bodyAt bao 10) := loopsOK (by kernel_rfl) (LTCons (noLoop (by kernel_rfl)) (LTCons (noLoop (by kernel_rfl)) LTNil))
theorem lokAo : LoopsOK C1 Tryd.f16.ntmps (LTab.look Lao) (bodyAt bao 6) :=
  loopsOK (by kernel_rfl) (LTCons (noLoop (by kernel_rfl)) (LTCons (loop_of (t := Lao) (c := bodyAt bao 6) (k := 10) shA_ok C1_ok mixed (by rw [bodyAo]; exact lokAi) (by kernel_rfl) (by rw [bodyAo]; exact loopai)) LTNil))
theorem lokA : LoopsOK C1 Tryd.f16.ntmps (LTab.look Lao) bao :=
  loopsOK (by kernel_rfl) (LTCons (loop_of (t := Lao) (c := bao) (k := 6) shA_ok C1_ok mixed lokAo (by kernel_rfl) loopao) (LTCons (loop_of (t := Lao) (c := bao) (k := 10) shA_ok C1_ok mixed lokAi (by kernel_rfl) loopai) LTNil))
noncomputable def atFF : HA [.v (.sl shS), .v i64S] → RT := fun xs => .ret (.tup [.val numS (atX xs.1 xs.2.1), .val i64S (chkE xs.1 xs.2.1)])
theorem at_fw (l : List Shr) (x : Int) : FW C1 Tryd.f16.ntmps (LTab.look Lao) Tryd.f16 (argsOf [.sl shS, i64S] (l, x, ())) (fun r => r = .tup [.val numS (atX l x), .val i64S (chkE l x)]) := by
  rw [fwAtS]
  unfold atX
  refine ifB_neg (fun c => by rw [decFa c]; rfl) (fun c => ⟨l, x, _, rfl, c, fun g hg => ?_⟩)
  rw [decTr c, hg, c]; rfl
theorem atS_ok : COK Tryd.prog GL 16 (conA [.v (.sl shS), .v i64S] fun xs => .ret (.tup [.val numS (atX xs.1 xs.2.1), .val i64S (chkE xs.1 xs.2.1)])) :=
  conA_ok (fun xs _ _ => PC_of_fw (t := Lao) shA_ok C1_ok mixed Tryd.func16 (c := bao) rfl (by kernel_rfl) (by kernel_rfl) lokA rfl (at_fw xs.1 xs.2.1)) (fun _ => rfl)

theorem toF_inj {a b : Nat} (ha : a < 256) (hb : b < 256) (h : toF a = toF b) : a = b := by
  have h := congrArg Fin.val h
  have hL : 256 < Lb.LL := by rw [Lb.LL_eq]; decide
  rw [toF_val, toF_val, Nat.mod_eq_of_lt (by omega), Nat.mod_eq_of_lt (by omega)] at h
  exact h
theorem distX {l : List Shr} (h : GoodP l) : Go.Lag.Dist (XF l) l.length := by
  intro i j hi hj e
  have a := h.1 i hi
  have b := h.1 j hj
  have e := toF_inj (by omega) (by omega) e
  rcases Nat.lt_trichotomy i j with c | c | c
  · exact absurd (show Xi l i = Xi l j by omega) (h.2 i j c hj)
  · exact c
  · exact absurd (show Xi l j = Xi l i by omega) (h.2 j i c hi)
end Go.Proofs.YtghmfiandllpfaaDoor
