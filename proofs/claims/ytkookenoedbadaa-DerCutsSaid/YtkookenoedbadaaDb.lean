import Derived.Test.YtkookenoedbadaaDa
namespace Go.Proofs.Ytkookenoedbadaa
open Go.Ty

/-! ## The length at the front -/
def lenD (b : List (BitVec 8)) : Nat × Nat × Int :=
  bif decide (b.length = 0) then (0, 0, 3) else bif decide (rd u8S b 0 < 128#8) then ((rd u8S b 0).toNat, 1, 0) else
  bif decide (rd u8S b 0 = 128#8) then (0, 0, 4) else bif decide (130#8 < rd u8S b 0) then (0, 0, 4) else
  bif decide (b.length + 127 < (rd u8S b 0).toNat) then (0, 0, 3) else
  bif decide (rd u8S b 0 = 129#8) then (bif decide ((rd u8S b 1).toNat < 128) then (0, 0, 4) else ((rd u8S b 1).toNat, 2, 0)) else
  bif decide (256 * (rd u8S b 1).toNat + (rd u8S b 2).toNat < 256) then (0, 0, 4) else (256 * (rd u8S b 1).toNat + (rd u8S b 2).toNat, 3, 0)
def lenN (b : List (BitVec 8)) : Nat := (lenD b).1
def lenA (b : List (BitVec 8)) : Nat := (lenD b).2.1
def lenE (b : List (BitVec 8)) : Int := (lenD b).2.2
theorem two8 (x y : BitVec 8) : ior .i64 (ishl .i64 ((x.toNat : Nat) : Int) 8) ((y.toNat : Nat) : Int) = ((256 * x.toNat + y.toNat : Nat) : Int) := by
  have hx := x.isLt
  have hy := y.isLt
  have e1 : ishl .i64 ((x.toNat : Nat) : Int) 8 = ((x.toNat * 256 : Nat) : Int) := by
    show IntKind.i64.wrap (((x.toNat : Nat) : Int) * 2 ^ 8) = _
    exact i64w (by omega) (by omega)
  rw [e1]
  show IntKind.i64.wrap (((BitVec.ofInt 64 ((x.toNat * 256 : Nat) : Int) ||| BitVec.ofInt 64 ((y.toNat : Nat) : Int)).toNat : Nat) : Int) = _
  rw [BitVec.ofInt_natCast, BitVec.ofInt_natCast, BitVec.toNat_or, BitVec.toNat_ofNat, BitVec.toNat_ofNat, Nat.mod_eq_of_lt (by omega), Nat.mod_eq_of_lt (by omega)]
  have e2 : x.toNat * 256 ||| y.toNat = x.toNat * 256 + y.toNat := by
    have h := Nat.shiftLeft_add_eq_or_of_lt (i := 8) (b := y.toNat) (by omega) x.toNat
    rw [Nat.shiftLeft_eq] at h
    exact h.symm
  rw [e2]
  exact i64w (by omega) (by omega)
theorem fwLength (b : Sh.T (.sl u8S)) (P : SV → Prop) : FW D0 Try.f54.ntmps (LTab.look []) Try.f54 (argsOf [.sl u8S] (b, ())) P =
 (  ifB (decide ((((List.length b) : Nat) : Int) = 0))
    (P (SV.tup [AV.val (Sh.int IntKind.i64) 0, AV.val (Sh.int IntKind.i64) 0, AV.val (Sh.int IntKind.i64) 3]))
    (dmd (decide (0 < (((List.length b) : Nat) : Int)))
      (ifB (decide (rd (Sh.int IntKind.u8) b 0 < 128#8))
        (P
          (SV.tup
            [AV.val (Sh.int IntKind.i64) (((BitVec.toNat (rd (Sh.int IntKind.u8) b 0)) : Nat) : Int), AV.val (Sh.int IntKind.i64) 1,
              AV.val (Sh.int IntKind.i64) 0]))
        (ifB (decide (rd (Sh.int IntKind.u8) b 0 = 128#8))
          (P (SV.tup [AV.val (Sh.int IntKind.i64) 0, AV.val (Sh.int IntKind.i64) 0, AV.val (Sh.int IntKind.i64) 4]))
          (ifB (decide (130#8 < rd (Sh.int IntKind.u8) b 0))
            (P (SV.tup [AV.val (Sh.int IntKind.i64) 0, AV.val (Sh.int IntKind.i64) 0, AV.val (Sh.int IntKind.i64) 4]))
            (ifB (decide ((((List.length b) : Nat) : Int) < IntKind.i64.wrap ((((BitVec.toNat (rd (Sh.int IntKind.u8) b 0)) : Nat) : Int) - 127)))
              (P (SV.tup [AV.val (Sh.int IntKind.i64) 0, AV.val (Sh.int IntKind.i64) 0, AV.val (Sh.int IntKind.i64) 3]))
              (ifB (decide (rd (Sh.int IntKind.u8) b 0 = 129#8))
                (dmd (decide (1 < (((List.length b) : Nat) : Int)))
                  (ifB (decide ((((BitVec.toNat (rd (Sh.int IntKind.u8) b 1)) : Nat) : Int) < 128))
                    (P
                      (SV.tup
                        [AV.val (Sh.int IntKind.i64) 0, AV.val (Sh.int IntKind.i64) 0, AV.val (Sh.int IntKind.i64) 4]))
                    (P
                      (SV.tup
                        [AV.val (Sh.int IntKind.i64) (((BitVec.toNat (rd (Sh.int IntKind.u8) b 1)) : Nat) : Int),
                          AV.val (Sh.int IntKind.i64) 2, AV.val (Sh.int IntKind.i64) 0]))))
                (dmd (decide (1 < (((List.length b) : Nat) : Int)))
                  (dmd (decide (2 < (((List.length b) : Nat) : Int)))
                    (ifB
                      (decide
                        (ior IntKind.i64 (ishl IntKind.i64 ((((BitVec.toNat (rd (Sh.int IntKind.u8) b 1)) : Nat) : Int)) 8)
                            (((BitVec.toNat (rd (Sh.int IntKind.u8) b 2)) : Nat) : Int) <
                          256))
                      (P
                        (SV.tup
                          [AV.val (Sh.int IntKind.i64) 0, AV.val (Sh.int IntKind.i64) 0, AV.val (Sh.int IntKind.i64) 4]))
                      (P
                        (SV.tup
                          [AV.val (Sh.int IntKind.i64)
                              (ior IntKind.i64 (ishl IntKind.i64 ((((BitVec.toNat (rd (Sh.int IntKind.u8) b 1)) : Nat) : Int)) 8)
                                (((BitVec.toNat (rd (Sh.int IntKind.u8) b 2)) : Nat) : Int)),
                            AV.val (Sh.int IntKind.i64) 3, AV.val (Sh.int IntKind.i64) 0])))))))))))) := by kernel_rfl
noncomputable def lenF : HA [.v (.sl u8S)] → RT := fun xs => .dem (Nat.ble (List.length xs.1) 140737488355328) (.ret (.tup [.val i64S ((lenN xs.1 : Nat) : Int), .val i64S ((lenA xs.1 : Nat) : Int), .val i64S (lenE xs.1)]))
theorem cond_dec {α : Type} {p : Prop} {i : Decidable p} {a b : α} (h : p) : (bif @decide p i then a else b) = a := by rw [decTr h]; rfl
theorem cond_ndec {α : Type} {p : Prop} {i : Decidable p} {a b : α} (h : ¬ p) : (bif @decide p i then a else b) = b := by rw [decFa h]; rfl
set_option maxRecDepth 20000 in
theorem length_fw (b : List (BitVec 8)) (hb : b.length ≤ 140737488355328) : FW D0 Try.f54.ntmps (LTab.look []) Try.f54 (argsOf [.sl u8S] (b, ())) (fun r => r = .tup [.val i64S (((lenD b).1 : Nat) : Int), .val i64S (((lenD b).2.1 : Nat) : Int), .val i64S (lenD b).2.2]) := by
  rw [fwLength]
  unfold lenD
  refine ifB_dec (fun c => ?_) (fun c => dmd_of (decTr (by omega)) (ifB_dec (fun d => ?_) (fun d => ifB_dec (fun e => ?_) (fun e => ifB_dec (fun f => ?_) (fun f => ?_)))))
  · rw [cond_dec (show b.length = 0 by omega)]; rfl
  · rw [cond_ndec (show ¬ b.length = 0 by omega), cond_dec d]; rfl
  · rw [cond_ndec (show ¬ b.length = 0 by omega), cond_ndec d, cond_dec e]; rfl
  · rw [cond_ndec (show ¬ b.length = 0 by omega), cond_ndec d, cond_ndec e, cond_dec f]; rfl
  · rw [cond_ndec (show ¬ b.length = 0 by omega), cond_ndec d, cond_ndec e, cond_ndec f]
    have d' : ¬ rd u8S b 0 < 128#8 := d
    have e' : ¬ rd u8S b 0 = 128#8 := e
    have f' : ¬ 130#8 < rd u8S b 0 := f
    have hk : 129 ≤ (rd u8S b 0).toNat ∧ (rd u8S b 0).toNat ≤ 130 := by
      rw [BitVec.lt_def] at d' f'
      have d' : ¬ (rd u8S b 0).toNat < 128 := d'
      have f' : ¬ 130 < (rd u8S b 0).toNat := f'
      have e2 : ¬ (rd u8S b 0).toNat = 128 := fun h => e' (BitVec.eq_of_toNat_eq h)
      omega
    have hw : IntKind.i64.wrap (((BitVec.toNat (rd (Sh.int IntKind.u8) b 0) : Nat) : Int) - 127) = (((rd u8S b 0).toNat - 127 : Nat) : Int) := i64w (by show (((rd u8S b 0).toNat : Nat) : Int) - 127 = _; omega) (by omega)
    rw [hw]
    refine ifB_dec (fun g => ?_) (fun g => ?_)
    · rw [cond_dec (show b.length + 127 < (rd u8S b 0).toNat by omega)]; rfl
    · rw [cond_ndec (show ¬ b.length + 127 < (rd u8S b 0).toNat by omega)]
      refine ifB_dec (fun k => ?_) (fun k => ?_)
      · rw [cond_dec k]
        have k' : (rd u8S b 0).toNat = 129 := congrArg BitVec.toNat k
        refine dmd_of (decTr (by omega)) (ifB_dec (fun m => ?_) (fun m => ?_))
        · rw [cond_dec (show (rd u8S b 1).toNat < 128 by have m : (((rd u8S b 1).toNat : Nat) : Int) < 128 := m; omega)]; rfl
        · rw [cond_ndec (show ¬ (rd u8S b 1).toNat < 128 by have m : ¬ (((rd u8S b 1).toNat : Nat) : Int) < 128 := m; omega)]; rfl
      · rw [cond_ndec k]
        have k' : ¬ (rd u8S b 0).toNat = 129 := fun h => k (BitVec.eq_of_toNat_eq h)
        have h2 := two8 (rd u8S b 1) (rd u8S b 2)
        have h2 : ior IntKind.i64 (ishl IntKind.i64 ((BitVec.toNat (rd (Sh.int IntKind.u8) b 1) : Nat) : Int) 8) ((BitVec.toNat (rd (Sh.int IntKind.u8) b 2) : Nat) : Int) = ((256 * (rd u8S b 1).toNat + (rd u8S b 2).toNat : Nat) : Int) := h2
        rw [h2]
        refine dmd_of (decTr (by omega)) (dmd_of (decTr (by omega)) (ifB_dec (fun m => ?_) (fun m => ?_)))
        · rw [cond_dec (show 256 * (rd u8S b 1).toNat + (rd u8S b 2).toNat < 256 by omega)]; rfl
        · rw [cond_ndec (show ¬ 256 * (rd u8S b 1).toNat + (rd u8S b 2).toNat < 256 by omega)]; rfl
theorem length_ok : COK Try.prog GL 54 (conA [.v (.sl u8S)] lenF) :=
  conA_ok (fun xs _ hc => PC_of_fw (t := []) shA_ok CNil mixed Try.func54 (c := Try.f54.body.getD .skip) rfl (by kernel_rfl) (by kernel_rfl) loopsNil rfl (length_fw xs.1 (Nat.le_of_ble_eq_true hc.1))) (fun _ => rfl)
/-- what is known of it -/
theorem lenD_ok {b : List (BitVec 8)} (h : lenE b = 0) : 1 ≤ lenA b ∧ lenA b ≤ b.length ∧ lenA b ≤ 3 ∧ lenN b ≤ 65535 := by
  unfold lenE lenA lenN at *
  unfold lenD at *
  by_cases c : b.length = 0
  · rw [cond_dec c] at h; cases h
  rw [cond_ndec c] at h ⊢
  by_cases d : rd u8S b 0 < 128#8
  · rw [cond_dec d] at h ⊢
    have := (rd u8S b 0).isLt
    exact ⟨show (1 : Nat) ≤ 1 by decide, show 1 ≤ b.length by omega, show (1 : Nat) ≤ 3 by decide, show (rd u8S b 0).toNat ≤ 65535 by omega⟩
  rw [cond_ndec d] at h ⊢
  by_cases e : rd u8S b 0 = 128#8
  · rw [cond_dec e] at h; cases h
  rw [cond_ndec e] at h ⊢
  by_cases f : 130#8 < rd u8S b 0
  · rw [cond_dec f] at h; cases h
  rw [cond_ndec f] at h ⊢
  have hk : 129 ≤ (rd u8S b 0).toNat := by
    rw [BitVec.lt_def] at d
    have d : ¬ (rd u8S b 0).toNat < 128 := d
    have e2 : ¬ (rd u8S b 0).toNat = 128 := fun h => e (BitVec.eq_of_toNat_eq h)
    omega
  by_cases g : b.length + 127 < (rd u8S b 0).toNat
  · rw [cond_dec g] at h; cases h
  rw [cond_ndec g] at h ⊢
  have h1 := (rd u8S b 1).isLt
  have h2 := (rd u8S b 2).isLt
  by_cases k : rd u8S b 0 = 129#8
  · rw [cond_dec k] at h ⊢
    have k' : (rd u8S b 0).toNat = 129 := congrArg BitVec.toNat k
    by_cases m : (rd u8S b 1).toNat < 128
    · rw [cond_dec m] at h; cases h
    rw [cond_ndec m]
    exact ⟨show (1 : Nat) ≤ 2 by decide, show 2 ≤ b.length by omega, show (2 : Nat) ≤ 3 by decide, show (rd u8S b 1).toNat ≤ 65535 by omega⟩
  · rw [cond_ndec k] at h ⊢
    have k' : ¬ (rd u8S b 0).toNat = 129 := fun h => k (BitVec.eq_of_toNat_eq h)
    by_cases m : 256 * (rd u8S b 1).toNat + (rd u8S b 2).toNat < 256
    · rw [cond_dec m] at h; cases h
    rw [cond_ndec m]
    exact ⟨show (1 : Nat) ≤ 3 by decide, show 3 ≤ b.length by omega, show (3 : Nat) ≤ 3 by decide, show 256 * (rd u8S b 1).toNat + (rd u8S b 2).toNat ≤ 65535 by omega⟩

/-! ## The first item -/
def zeroI : Itm := (0#8, [], ())
def fstD (b : List (BitVec 8)) : Itm × Nat × Int :=
  bif decide (b.length = 0) then (zeroI, 0, 3) else bif !decide (lenE (b.drop 1) = 0) then (zeroI, 0, lenE (b.drop 1)) else
  bif decide (4096 < lenN (b.drop 1)) then (zeroI, 0, 2) else bif decide (b.length < 1 + lenA (b.drop 1) + lenN (b.drop 1)) then (zeroI, 0, 3) else
  ((rd u8S b 0, (b.drop (1 + lenA (b.drop 1))).take (lenN (b.drop 1)), ()), 1 + lenA (b.drop 1) + lenN (b.drop 1), 0)
def fstX (b : List (BitVec 8)) : Itm := (fstD b).1
def fstN (b : List (BitVec 8)) : Nat := (fstD b).2.1
def fstE (b : List (BitVec 8)) : Int := (fstD b).2.2
noncomputable def D1c : CTab := (54, conA [.v (.sl u8S)] lenF) :: []
noncomputable abbrev D1 : Go.Ty.Cx := mkX Try.prog GL shA D1c
theorem D1_ok : ∀ p ∈ D1c, COK Try.prog GL p.1 p.2 := CCons length_ok CNil
theorem fwFirst (b : Sh.T (.sl u8S)) (P : SV → Prop) : FW D1 Try.f48.ntmps (LTab.look []) Try.f48 (argsOf [.sl u8S] (b, ())) P =
 (  ifB (decide ((((List.length b) : Nat) : Int) = 0))
    (P
      (SV.tup
        [AV.val ((Sh.int IntKind.u8).pair ((Sh.int IntKind.u8).sl.pair Sh.unit)) (0#8, [], PUnit.unit),
          AV.val (Sh.int IntKind.i64) 0, AV.val (Sh.int IntKind.i64) 3]))
    (dmd (Nat.ble 1 (List.length b) && (List.length b).ble (List.length b))
      (dmd ((List.drop 1 (List.take (List.length b) b)).length.ble 140737488355328)
        (ifB (!decide (lenE (List.drop 1 (List.take (List.length b) b)) = 0))
          (P
            (SV.tup
              [AV.val ((Sh.int IntKind.u8).pair ((Sh.int IntKind.u8).sl.pair Sh.unit)) (0#8, [], PUnit.unit),
                AV.val (Sh.int IntKind.i64) 0,
                AV.val (Sh.int IntKind.i64) (lenE (List.drop 1 (List.take (List.length b) b)))]))
          (dmd (decide (0 ≤ IntKind.i64.wrap (1 + (((lenA (List.drop 1 (List.take (List.length b) b))) : Nat) : Int))))
            (dmd
              ((IntKind.i64.wrap (1 + (((lenA (List.drop 1 (List.take (List.length b) b))) : Nat) : Int))).toNat.ble (List.length b) &&
                (List.length b).ble (List.length b))
              (ifB (decide (4096 < (((lenN (List.drop 1 (List.take (List.length b) b))) : Nat) : Int)))
                (P
                  (SV.tup
                    [AV.val ((Sh.int IntKind.u8).pair ((Sh.int IntKind.u8).sl.pair Sh.unit)) (0#8, [], PUnit.unit),
                      AV.val (Sh.int IntKind.i64) 0, AV.val (Sh.int IntKind.i64) 2]))
                (ifB
                  (decide
                    ((((List.drop (IntKind.i64.wrap (1 + (((lenA (List.drop 1 (List.take (List.length b) b))) : Nat) : Int))).toNat
                            (List.take (List.length b) b)).length : Nat) : Int) <
                      (((lenN (List.drop 1 (List.take (List.length b) b))) : Nat) : Int)))
                  (P
                    (SV.tup
                      [AV.val ((Sh.int IntKind.u8).pair ((Sh.int IntKind.u8).sl.pair Sh.unit)) (0#8, [], PUnit.unit),
                        AV.val (Sh.int IntKind.i64) 0, AV.val (Sh.int IntKind.i64) 3]))
                  (dmd (decide (0 < (((List.length b) : Nat) : Int)))
                    (dmd (decide (0 ≤ (((lenN (List.drop 1 (List.take (List.length b) b))) : Nat) : Int)))
                      (dmd
                        (Nat.ble 0 ((((lenN (List.drop 1 (List.take (List.length b) b))) : Nat) : Int)).toNat &&
                          ((((lenN (List.drop 1 (List.take (List.length b) b))) : Nat) : Int)).toNat.ble
                            (List.drop (IntKind.i64.wrap (1 + (((lenA (List.drop 1 (List.take (List.length b) b))) : Nat) : Int))).toNat
                                (List.take (List.length b) b)).length)
                        (ifB
                          ((List.drop 0
                                  (List.take ((((lenN (List.drop 1 (List.take (List.length b) b))) : Nat) : Int)).toNat
                                    (List.drop
                                      (IntKind.i64.wrap (1 + (((lenA (List.drop 1 (List.take (List.length b) b))) : Nat) : Int))).toNat
                                      (List.take (List.length b) b)))).length.beq
                            0)
                          (P
                            (SV.tup
                              [AV.val ((Sh.int IntKind.u8).pair ((Sh.int IntKind.u8).sl.pair Sh.unit))
                                  (rd (Sh.int IntKind.u8) b 0, [], PUnit.unit),
                                AV.val (Sh.int IntKind.i64)
                                  (IntKind.i64.wrap
                                    (IntKind.i64.wrap (1 + (((lenA (List.drop 1 (List.take (List.length b) b))) : Nat) : Int)) +
                                      (((lenN (List.drop 1 (List.take (List.length b) b))) : Nat) : Int))),
                                AV.val (Sh.int IntKind.i64) 0]))
                          (dmd
                            (((List.drop 0
                                      (List.take ((((lenN (List.drop 1 (List.take (List.length b) b))) : Nat) : Int)).toNat
                                        (List.drop
                                          (IntKind.i64.wrap
                                              (1 + (((lenA (List.drop 1 (List.take (List.length b) b))) : Nat) : Int))).toNat
                                          (List.take (List.length b) b)))).length *
                                  1).ble
                              140737488355328)
                            (P
                              (SV.tup
                                [AV.val ((Sh.int IntKind.u8).pair ((Sh.int IntKind.u8).sl.pair Sh.unit))
                                    (rd (Sh.int IntKind.u8) b 0,
                                      List.take
                                        (List.drop 0
                                            (List.take ((((lenN (List.drop 1 (List.take (List.length b) b))) : Nat) : Int)).toNat
                                              (List.drop
                                                (IntKind.i64.wrap
                                                    (1 + (((lenA (List.drop 1 (List.take (List.length b) b))) : Nat) : Int))).toNat
                                                (List.take (List.length b) b)))).length
                                        (List.drop 0
                                          (List.drop 0
                                            (List.take ((((lenN (List.drop 1 (List.take (List.length b) b))) : Nat) : Int)).toNat
                                              (List.drop
                                                (IntKind.i64.wrap
                                                    (1 + (((lenA (List.drop 1 (List.take (List.length b) b))) : Nat) : Int))).toNat
                                                (List.take (List.length b) b))))),
                                      PUnit.unit),
                                  AV.val (Sh.int IntKind.i64)
                                    (IntKind.i64.wrap
                                      (IntKind.i64.wrap (1 + (((lenA (List.drop 1 (List.take (List.length b) b))) : Nat) : Int)) +
                                        (((lenN (List.drop 1 (List.take (List.length b) b))) : Nat) : Int))),
                                  AV.val (Sh.int IntKind.i64) 0]))))))))))))))) := by kernel_rfl
noncomputable def fstF : HA [.v (.sl u8S)] → RT := fun xs => .dem (Nat.ble (List.length xs.1) 140737488355328) (.ret (.tup [.val itS (fstX xs.1), .val i64S ((fstN xs.1 : Nat) : Int), .val i64S (fstE xs.1)]))
theorem nrm_f (x : Itm) (n e : Int) : nrmS [itS, i64S, i64S] (.tup [.val itS x, .val i64S n, .val i64S e]) = .tup [.val itS x, .val i64S n, .val i64S e] := rfl
set_option maxRecDepth 20000 in
theorem first_fw (b : List (BitVec 8)) (hb : b.length ≤ 140737488355328) : FW D1 Try.f48.ntmps (LTab.look []) Try.f48 (argsOf [.sl u8S] (b, ())) (fun r => r = .tup [.val itS (fstD b).1, .val i64S (((fstD b).2.1 : Nat) : Int), .val i64S (fstD b).2.2]) := by
  rw [fwFirst]
  have ht : List.take (List.length b) b = b := List.take_length
  rw [ht]
  unfold fstD
  refine ifB_dec (fun c => ?_) (fun c => dmd_of (andT (bleT (by omega)) (bleT (Nat.le_refl _))) (dmd_of (bleT (by rw [List.length_drop]; omega)) (ifB_neg (fun d => ?_) (fun d => ?_))))
  · rw [cond_dec (show b.length = 0 by omega)]; rfl
  · rw [cond_ndec (show ¬ b.length = 0 by omega)]
    have d' : ¬ lenE (List.drop 1 b) = 0 := d
    rw [decFa d']; rfl
  · rw [cond_ndec (show ¬ b.length = 0 by omega)]
    have d' : lenE (List.drop 1 b) = 0 := d
    obtain ⟨h1, h2, h3, h4⟩ := lenD_ok d'
    rw [List.length_drop] at h2
    rw [decTr d']
    have hw : IntKind.i64.wrap (1 + ((lenA (List.drop 1 b) : Nat) : Int)) = ((1 + lenA (List.drop 1 b) : Nat) : Int) := i64w (by omega) (by omega)
    have hw2 : IntKind.i64.wrap (((1 + lenA (List.drop 1 b) : Nat) : Int) + ((lenN (List.drop 1 b) : Nat) : Int)) = ((1 + lenA (List.drop 1 b) + lenN (List.drop 1 b) : Nat) : Int) := i64w (by omega) (by omega)
    rw [hw, hw2]
    simp only [Int.toNat_natCast, List.length_drop, List.drop_zero]
    refine dmd_of (decTr (by omega)) (dmd_of (andT (bleT (by omega)) (bleT (Nat.le_refl _))) (ifB_dec (fun e => ?_) (fun e => ifB_dec (fun f => ?_) (fun f => ?_))))
    · rw [cond_dec (show 4096 < lenN (List.drop 1 b) by omega)]; rfl
    · rw [cond_ndec (show ¬ 4096 < lenN (List.drop 1 b) by omega), cond_dec (show b.length < 1 + lenA (List.drop 1 b) + lenN (List.drop 1 b) by omega)]; rfl
    · rw [cond_ndec (show ¬ 4096 < lenN (List.drop 1 b) by omega), cond_ndec (show ¬ b.length < 1 + lenA (List.drop 1 b) + lenN (List.drop 1 b) by omega)]
      refine dmd_of (decTr (by omega)) (dmd_of (decTr (by omega)) (dmd_of (andT rfl (bleT (by omega))) ?_))
      generalize hz : List.take (lenN (List.drop 1 b)) (List.drop (1 + lenA (List.drop 1 b)) b) = z
      have hl : z.length ≤ b.length := by rw [← hz, List.length_take, List.length_drop]; omega
      cases z with
      | nil => rfl
      | cons y z =>
        refine ifB_of (fun c => by cases c) (fun _ => dmd_of (bleT ?_) ?_)
        · show (y :: z).length * 1 ≤ _
          omega
        · rw [List.take_length]; rfl
theorem first_ok : COK Try.prog GL 48 (conA [.v (.sl u8S)] fstF) :=
  conA_ok (fun xs _ hc => PC_of_fw (t := []) shA_ok D1_ok mixed Try.func48 (c := Try.f48.body.getD .skip) rfl (by kernel_rfl) (by kernel_rfl) loopsNil rfl (first_fw xs.1 (Nat.le_of_ble_eq_true hc.1))) (fun _ => rfl)
theorem not_true_ : (!true) = false := rfl
theorem fst_ok {b : List (BitVec 8)} (h : fstE b = 0) : 2 ≤ fstN b ∧ fstN b ≤ b.length ∧ lenI (fstX b) ≤ 4096 := by
  unfold fstE fstN fstX at *
  unfold fstD at *
  by_cases c : b.length = 0
  · rw [cond_dec c] at h; cases h
  rw [cond_ndec c] at h ⊢
  by_cases d : lenE (b.drop 1) = 0
  · rw [decTr d] at h ⊢
    rw [not_true_, cond_false] at h ⊢
    obtain ⟨h1, h2, h3, h4⟩ := lenD_ok d
    by_cases e : 4096 < lenN (b.drop 1)
    · rw [cond_dec e] at h; cases h
    rw [cond_ndec e] at h ⊢
    by_cases f : b.length < 1 + lenA (b.drop 1) + lenN (b.drop 1)
    · rw [cond_dec f] at h; cases h
    rw [cond_ndec f]
    refine ⟨?_, ?_, ?_⟩
    · show 2 ≤ 1 + lenA (b.drop 1) + lenN (b.drop 1)
      omega
    · show 1 + lenA (b.drop 1) + lenN (b.drop 1) ≤ b.length
      omega
    · show (List.take _ _).length ≤ 4096
      rw [List.length_take]; omega
  · rw [decFa d] at h
    exact absurd h d
end Go.Proofs.Ytkookenoedbadaa
