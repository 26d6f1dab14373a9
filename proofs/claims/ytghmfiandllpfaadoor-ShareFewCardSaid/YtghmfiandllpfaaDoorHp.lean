import Derived.Test.YtghmfiandllpfaaDoorB0
namespace Go.Proofs.YtghmfiandllpfaaDoor
open Go.Ty

/-! ## What stands behind the bytes of a text -/
noncomputable abbrev H0 : Go.Ty.Cx := mkX Tryd.prog GL shA []
def padN (n : BitVec 64) : Nat := (119 - n.toNat % 64) % 64
def tailB (n : BitVec 64) (i : Nat) : List (BitVec 8) := (List.range i).map fun j => BitVec.setWidth 8 ((8#64 * n) >>> (56 - 8 * j))
def headP (i : Nat) : List (BitVec 8) := 128#8 :: List.replicate i 0#8
def padW (n : BitVec 64) : List (BitVec 8) := headP (padN n) ++ tailB n 8
theorem headP_len (i : Nat) : (headP i).length = i + 1 := by unfold headP; rw [List.length_cons, List.length_replicate]
theorem headP_succ (i : Nat) : headP i ++ [0#8] = headP (i + 1) := by unfold headP; rw [List.cons_append, List.replicate_succ']
theorem tailB_len (n : BitVec 64) (i : Nat) : (tailB n i).length = i := by unfold tailB; rw [List.length_map, List.length_range]
theorem tailB_succ (n : BitVec 64) (i : Nat) : tailB n i ++ [BitVec.setWidth 8 ((8#64 * n) >>> (56 - 8 * i))] = tailB n (i + 1) := by unfold tailB; rw [List.range_succ, List.map_append]; rfl
theorem padN_lt (n : BitVec 64) : padN n < 64 := Nat.mod_lt _ (by decide)
theorem padW_len (n : BitVec 64) : (padW n).length = padN n + 9 := by unfold padW; rw [List.length_append, headP_len, tailB_len]
theorem pad_mod (n : BitVec 64) (k : Nat) : ((n + BitVec.ofInt 64 ((k : Nat) : Int)) % 64#64).toNat = (n.toNat + k) % 64 := by
  rw [BitVec.ofInt_natCast, BitVec.toNat_umod, BitVec.toNat_add, BitVec.toNat_ofNat]
  show (n.toNat + k % 2 ^ 64) % 2 ^ 64 % 64 = _
  omega
theorem pad_at (n : BitVec 64) (i : Nat) : decide ((n + BitVec.ofInt 64 ((i + 1 : Nat) : Int)) % 64#64 = 56#64) = decide ((n.toNat + (i + 1)) % 64 = 56) := by
  have h := pad_mod n (i + 1)
  refine decide_eq_decide.2 ⟨fun e => ?_, fun e => BitVec.eq_of_toNat_eq ?_⟩
  · rw [e] at h
    rw [← h]; rfl
  · rw [h, e]; rfl
theorem one8 (x : BitVec 8) : List.take 1 (List.drop 0 ((List.replicate 1 0#8).set 0 x)) = [x] := rfl
abbrev IpP : List It := [.v 0 u64S, .r 3 2000 u8S]
abbrev opP : List (Nat × List It) := [(0, [.v 0 u64S, .r 3 2000 u8S])]
abbrev IpQ : List It := [.v 0 u64S, .r 3 2000 u8S, .v 16 i64S]
abbrev opQ : List (Nat × List It) := [(2, [.r 3 2000 u8S])]
noncomputable def QpP : LQ IpP [] opP := fun x _ Kx => ∃ n : BitVec 64, x = (n, headP 0, ()) ∧ Kx.1 (n, headP (padN n), ())
noncomputable def QpQ : LQ IpQ [] opQ := fun x _ Kx => ∃ (n : BitVec 64) (o : List (BitVec 8)), x = (n, o, (0 : Int), ()) ∧ o.length ≤ 1000 ∧ Kx.1 (o ++ tailB n 8, ())
noncomputable def bpd : Code := Tryd.f87.body.getD .skip
noncomputable abbrev Lpd : LTab := [(2, ptL IpP [] opP QpP), (5, ptL IpQ [] opQ QpQ)]
theorem roundP (n : BitVec 64) (o : List (BitVec 8)) (Kn : HI IpP → Prop) (Kr : HI [] → Prop) (Kx : HP opP) : roundT (W H0 Tryd.f87.ntmps (LTab.look Lpd) (bodyAt bpd 2)) IpP [] opP (n, o, ()) Kn Kr Kx =
 (  ifB (!decide ((n + BitVec.ofInt 64 ((o.length : Nat) : Int)) % 64#64 = 56#64))
    (dmd
      (o.length.beq o.length &&
        ((o.length + (List.take 1 (List.drop 0 ((List.replicate 1 0#8).set 0 0#8))).length) * 1).ble 140737488355328)
      ((0 = 0 ∧
          o.length + (List.take 1 (List.drop 0 ((List.replicate 1 0#8).set 0 0#8))).length =
            (o.append (List.take 1 (List.drop 0 ((List.replicate 1 0#8).set 0 0#8)))).length) ∧
        Kn (n, o.append (List.take 1 (List.drop 0 ((List.replicate 1 0#8).set 0 0#8))), PUnit.unit)))
    ((0 = 0 ∧ o.length = o.length) ∧ Kx.1 (n, o, PUnit.unit))) := by kernel_rfl
theorem roundQ (n : BitVec 64) (o : List (BitVec 8)) (i : Int) (Kn : HI IpQ → Prop) (Kr : HI [] → Prop) (Kx : HP opQ) : roundT (W H0 Tryd.f87.ntmps (LTab.look Lpd) (bodyAt bpd 5)) IpQ [] opQ (n, o, i, ()) Kn Kr Kx =
 (  ifB (decide (i < 8))
    (dmd
      (o.length.beq o.length &&
        ((o.length +
                (List.take 1
                    (List.drop 0
                      ((List.replicate 1 0#8).set 0
                        (BitVec.setWidth 8
                          ((8#64 * n) >>>
                            (BitVec.ofInt 64 (IntKind.i64.wrap (56 - IntKind.i64.wrap (8 * i)))).toNat))))).length) *
              1).ble
          140737488355328)
      ((0 = 0 ∧
          o.length +
              (List.take 1
                  (List.drop 0
                    ((List.replicate 1 0#8).set 0
                      (BitVec.setWidth 8
                        ((8#64 * n) >>>
                          (BitVec.ofInt 64 (IntKind.i64.wrap (56 - IntKind.i64.wrap (8 * i)))).toNat))))).length =
            (o.append
                (List.take 1
                  (List.drop 0
                    ((List.replicate 1 0#8).set 0
                      (BitVec.setWidth 8
                        ((8#64 * n) >>>
                          (BitVec.ofInt 64 (IntKind.i64.wrap (56 - IntKind.i64.wrap (8 * i)))).toNat)))))).length) ∧
        Kn
          (n,
            o.append
              (List.take 1
                (List.drop 0
                  ((List.replicate 1 0#8).set 0
                    (BitVec.setWidth 8
                      ((8#64 * n) >>> (BitVec.ofInt 64 (IntKind.i64.wrap (56 - IntKind.i64.wrap (8 * i)))).toNat))))),
            IntKind.i64.wrap (i + 1), PUnit.unit)))
    ((0 = 0 ∧ o.length = o.length) ∧ Kx.1 (o, PUnit.unit))) := by kernel_rfl
theorem fwPad (n : Sh.T (u64S)) (P : SV → Prop) : FW H0 Tryd.f87.ntmps (LTab.look Lpd) Tryd.f87 (argsOf [u64S] (n, ())) P =
 (  (0 = 0 ∧ 1 = ((List.replicate 1 0#8).set 0 128#8).length) ∧
    QpP (n, (List.replicate 1 0#8).set 0 128#8, PUnit.unit) (fun _ => False)
      (fun x =>
        (0 = 0 ∧ List.length x.2.1 = List.length x.2.1) ∧
          QpQ (x.1, x.2.1, 0, PUnit.unit) (fun _ => False)
            (fun x => P (SV.av (AV.val (Sh.int IntKind.u8).sl (List.take (List.length x.1) (List.drop 0 x.1)))),
              PUnit.unit),
        PUnit.unit)) := by kernel_rfl
theorem loopP : ∀ x Kr Kx, QpP x Kr Kx → ∃ n, untl (W H0 Tryd.f87.ntmps (LTab.look Lpd) (bodyAt bpd 2)) IpP [] opP n x Kr Kx := by
  rintro x Kr Kx ⟨n, ex, hK⟩
  have hz := padN_lt n
  have key := untl_up (F := W H0 Tryd.f87.ntmps (LTab.look Lpd) (bodyAt bpd 2)) (l := IpP) (lr := []) (lx := opP) (Kr := Kr) (Kx := Kx) (st := fun i => (n, headP i, ())) (padN n) (fun i hi Kn hn => ?_) (fun Kn => ?_)
  · rw [ex]; exact key
  · rw [roundP, headP_len, pad_at, one8]
    refine ifB_of (fun _ => dmd_of (andT (Nat.beq_refl _) (bleT ?_)) ⟨⟨rfl, ?_⟩, ?_⟩) (fun c => ?_)
    · show (i + 1 + 1) * 1 ≤ _
      omega
    · show i + 1 + 1 = (headP i ++ [0#8]).length
      rw [headP_succ, headP_len]
    · show Kn (n, headP i ++ [0#8], ())
      rw [headP_succ]; exact hn
    · have c : decide ((n.toNat + (i + 1)) % 64 = 56) = true := by
        cases h : decide ((n.toNat + (i + 1)) % 64 = 56) with
        | true => rfl
        | false => rw [h] at c; cases c
      have c := of_decide_eq_true c
      unfold padN at hi
      omega
  · rw [roundP, headP_len, pad_at]
    refine ifB_of (fun c => ?_) (fun _ => ⟨⟨rfl, rfl⟩, hK⟩)
    have e : decide ((n.toNat + (padN n + 1)) % 64 = 56) = true := decTr (by unfold padN; omega)
    rw [e] at c; cases c
theorem loopQ : ∀ x Kr Kx, QpQ x Kr Kx → ∃ n, untl (W H0 Tryd.f87.ntmps (LTab.look Lpd) (bodyAt bpd 5)) IpQ [] opQ n x Kr Kx := by
  rintro x Kr Kx ⟨n, o, ex, ho, hK⟩
  have key := untl_up (F := W H0 Tryd.f87.ntmps (LTab.look Lpd) (bodyAt bpd 5)) (l := IpQ) (lr := []) (lx := opQ) (Kr := Kr) (Kx := Kx) (st := fun i => (n, o ++ tailB n i, (i : Int), ())) 8 (fun i hi Kn hn => ?_) (fun Kn => ?_)
  · rw [ex]
    have e : o ++ tailB n 0 = o := by show o ++ [] = o; exact List.append_nil o
    rw [e] at key
    exact key
  · rw [roundQ, one8]
    have hl : (o ++ tailB n i).length = o.length + i := by rw [List.length_append, tailB_len]
    have e1 : IntKind.i64.wrap (56 - IntKind.i64.wrap (8 * (i : Int))) = ((56 - 8 * i : Nat) : Int) := by
      rw [i64w (a := 8 * (i : Int)) (n := 8 * i) (by omega) (by omega), i64w (n := 56 - 8 * i) (by omega) (by omega)]
    have e2 : (BitVec.ofInt 64 ((56 - 8 * i : Nat) : Int)).toNat = 56 - 8 * i := by
      rw [BitVec.ofInt_natCast, BitVec.toNat_ofNat]; omega
    rw [e1, e2, hl, i64w (a := (i : Int) + 1) (n := i + 1) (by omega) (by omega)]
    refine ifB_of (fun _ => dmd_of (andT (Nat.beq_refl _) (bleT ?_)) ⟨⟨rfl, ?_⟩, ?_⟩) (fun c => absurd (of_decide_eq_false c) (by omega))
    · show (o.length + i + 1) * 1 ≤ _
      omega
    · show o.length + i + 1 = ((o ++ tailB n i) ++ [_]).length
      rw [List.length_append, hl]; rfl
    · show Kn (n, (o ++ tailB n i) ++ [_], _, ())
      rw [List.append_assoc, tailB_succ]; exact hn
  · rw [roundQ]
    exact ifB_of (fun c => absurd (of_decide_eq_true c) (by decide)) (fun _ => ⟨⟨rfl, rfl⟩, hK⟩)
theorem pad_fw (n : BitVec 64) : FW H0 Tryd.f87.ntmps (LTab.look Lpd) Tryd.f87 (argsOf [u64S] (n, ())) (fun r => r = .av (.val (.sl u8S) (padW n))) := by
  rw [fwPad]
  refine ⟨⟨rfl, rfl⟩, n, rfl, ⟨rfl, rfl⟩, n, headP (padN n), rfl, ?_, ?_⟩
  · have := padN_lt n
    rw [headP_len]; omega
  · show SV.av (AV.val (.sl u8S) (List.take (List.length (padW n)) (List.drop 0 (padW n)))) = _
    rw [drop0_take _ _ rfl]
theorem pad_loops : LoopsOK H0 Tryd.f87.ntmps (LTab.look Lpd) bpd :=
  have inn {k : Nat} {N : Nat} (h1 : hasLoop (bodyAt bpd k) 2 = false) (h2 : hasLoop (bodyAt bpd k) 5 = false) (hk : keysOnce (bodyAt bpd k) = true) : LoopsOK H0 N (LTab.look Lpd) (bodyAt bpd k) := loopsOK hk (LTCons (noLoop h1) (LTCons (noLoop h2) LTNil))
  loopsOK (by kernel_rfl) (LTCons (loop_of shA_ok CNil mixed (inn (by kernel_rfl) (by kernel_rfl) (by kernel_rfl)) (by kernel_rfl) loopP) (LTCons (loop_of shA_ok CNil mixed (inn (by kernel_rfl) (by kernel_rfl) (by kernel_rfl)) (by kernel_rfl) loopQ) LTNil))
theorem pad_ok : COK Tryd.prog GL 87 (conT [u64S] fun xs => .av (.val (.sl u8S) (padW xs.1))) := by
  refine conT_ok (fun xs hw => ?_) (fun _ => rfl)
  exact PC_of_fw (t := Lpd) shA_ok CNil mixed Tryd.func87 (c := bpd) rfl (by kernel_rfl) (by kernel_rfl) pad_loops rfl (pad_fw xs.1)
end Go.Proofs.YtghmfiandllpfaaDoor
