import Derived.Test.YtghmfiandllpfaaDoorHk
namespace Go.Proofs.YtghmfiandllpfaaDoor
open Go.Ty

/-! ## Marks by a key -/
abbrev macS : Sh := .pair hsS (.pair hsS .unit)
abbrev MS : Type := macS.T
def xorB (c : BitVec 8) (l : List (BitVec 8)) : List (BitVec 8) := l.map fun x => x ^^^ c
noncomputable def keyK (key : List (BitVec 8)) : List (BitVec 8) := bif decide (64 < key.length) then digW key else key
def blkM (k : List (BitVec 8)) : List (BitVec 8) := k ++ List.replicate (64 - k.length) 0#8
noncomputable def newM (key : List (BitVec 8)) : MS := (writeW newD (xorB 54#8 (blkM (keyK key))), writeW newD (xorB 92#8 (blkM (keyK key))), ())
noncomputable def writeM (s : MS) (p : List (BitVec 8)) : MS := (writeW s.1 p, s.2)
noncomputable def sumM (s : MS) : List (BitVec 8) := sumW (writeW s.2.1 (sumW s.1))
noncomputable def macW (key p : List (BitVec 8)) : List (BitVec 8) := sumM (writeM (newM key) p)
theorem writeM_app (s : MS) (p q : List (BitVec 8)) : writeM s (p ++ q) = writeM (writeM s p) q := by unfold writeM; rw [writeW_app]
theorem sumM_len (s : MS) : (sumM s).length = 32 := sumW_len _
theorem digW_len (p : List (BitVec 8)) : (digW p).length = 32 := sumW_len _
theorem keyK_len (key : List (BitVec 8)) : (keyK key).length ≤ 64 := by
  unfold keyK
  cases h : decide (64 < key.length) with
  | true => show (digW key).length ≤ 64; rw [digW_len]; decide
  | false => have := of_decide_eq_false h; show key.length ≤ 64; omega
theorem blkM_len {k : List (BitVec 8)} (h : k.length ≤ 64) : (blkM k).length = 64 := by unfold blkM; rw [List.length_append, List.length_replicate]; omega
theorem xorB_len (c : BitVec 8) (l : List (BitVec 8)) : (xorB c l).length = l.length := List.length_map _
theorem over_key {k : List (BitVec 8)} (h : k.length ≤ 64) : over (List.replicate 64 0#8) 0 (List.take 64 k) = blkM k := by
  unfold over blkM
  rw [List.take_of_length_le h, List.take_zero, List.nil_append, Nat.zero_add, List.drop_replicate]
def stepX (c : BitVec 8) (a : List (BitVec 8)) (i : Nat) : List (BitVec 8) := a.set i (rd u8S a i ^^^ c)
theorem stepX_len (c : BitVec 8) (a : List (BitVec 8)) : ∀ n, (itr (stepX c) a n).length = a.length
  | 0 => rfl
  | n + 1 => by show ((itr (stepX c) a n).set n _).length = _; rw [List.length_set, stepX_len c a n]
theorem stepX_at (c : BitVec 8) (a : List (BitVec 8)) : ∀ n, n ≤ a.length → itr (stepX c) a n = xorB c (a.take n) ++ a.drop n
  | 0, _ => rfl
  | n + 1, h => by
    have ih := stepX_at c a n (by omega)
    show (itr (stepX c) a n).set n (rd u8S (itr (stepX c) a n) n ^^^ c) = _
    rw [ih]
    have hl : (xorB c (a.take n)).length = n := by rw [xorB_len, List.length_take]; omega
    have hd : a.drop n = rd u8S a n :: a.drop (n + 1) := by rw [List.drop_eq_getElem_cons (by omega), rd_at (s := u8S) (by omega)]
    have hr : rd u8S (xorB c (a.take n) ++ a.drop n) n = rd u8S a n := by
      rw [hd]
      unfold rd
      rw [List.getD_eq_getElem?_getD, List.getElem?_append_right (by omega), hl, Nat.sub_self]; rfl
    rw [hr, List.set_append_right _ _ (by omega), hl, Nat.sub_self, hd, List.set_cons_zero, take_next (by omega)]
    unfold xorB
    rw [List.map_append, List.append_assoc]; rfl
theorem stepX_all (c : BitVec 8) {a : List (BitVec 8)} (h : a.length = 64) : itr (stepX c) a 64 = xorB c a := by
  rw [stepX_at c a 64 (by omega), List.take_of_length_le (by omega), List.drop_of_length_le (by omega), List.append_nil]
abbrev ImN : List It := [.p 2 2000 macS, .p 4 2001 b64S, .p 5 2002 b64S, .v 17 i64S]
abbrev omN : List (Nat × List It) := [(0, [.p 2 2000 macS, .p 4 2001 b64S, .p 5 2002 b64S])]
noncomputable def QmN : LQ ImN [] omN := fun x _ Kx => ∃ (r : MS) (k : List (BitVec 8)), x = (r, k, k, (0 : Int), ()) ∧ k.length = 64 ∧ Kx.1 (r, xorB 54#8 k, xorB 92#8 k, ())
noncomputable def bmN : Code := Tryd.f77.body.getD .skip
noncomputable abbrev LmN : LTab := [(8, ptL ImN [] omN QmN)]
theorem roundmN (r : Sh.T macS) (a b : List (BitVec 8)) (i : Int) (Kn : HI ImN → Prop) (Kr : HI [] → Prop) (Kx : HP omN) : roundT (W H6 Tryd.f77.ntmps (LTab.look LmN) (bodyAt bmN 8)) ImN [] omN (r, a, b, i, ()) Kn Kr Kx =
 (  ifB (decide (i < 64))
    (dmd (decide (0 ≤ i) && decide (i < 64))
      (dmd (decide (0 ≤ i) && decide (i < 64))
        (dmd (decide (0 ≤ i) && decide (i < 64))
          (dmd (decide (0 ≤ i) && decide (i < 64))
            (Kn
              (r, a.set i.toNat (rd (Sh.int IntKind.u8) a i.toNat ^^^ 54#8),
                b.set i.toNat (rd (Sh.int IntKind.u8) b i.toNat ^^^ 92#8), IntKind.i64.wrap (i + 1), PUnit.unit))))))
    (Kx.1 (r, a, b, PUnit.unit))) := by kernel_rfl
theorem fwMNew (key : Sh.T (.sl u8S)) (P : SV → Prop) : FW H6 Tryd.f77.ntmps (LTab.look LmN) Tryd.f77 (argsOf [.sl u8S] (key, ())) P =
 (  ifB (decide (64 < (((List.length key) : Nat) : Int)))
    (dmd ((List.length key).ble 140737488355328)
      (QmN
        (((List.replicate 8 0#32, 0#64, List.replicate 64 0#8, PUnit.unit),
            (List.replicate 8 0#32, 0#64, List.replicate 64 0#8, PUnit.unit), PUnit.unit),
          over (List.replicate 64 0#8) 0 (List.take 64 (List.take 32 (List.drop 0 (digW key)))),
          over (List.replicate 64 0#8) 0 (List.take 64 (List.take 32 (List.drop 0 (digW key)))), 0, PUnit.unit)
        (fun _ => False)
        (fun x =>
          dmd ((List.take 64 (List.drop 0 x.2.1)).length.ble 140737488355328)
            (dmd ((List.take 64 (List.drop 0 x.2.2.1)).length.ble 140737488355328)
              (P
                (SV.av
                  (AV.val
                    (((Sh.arr 8 (Sh.int IntKind.u32)).pair
                          ((Sh.int IntKind.u64).pair ((Sh.arr 64 (Sh.int IntKind.u8)).pair Sh.unit))).pair
                      (((Sh.arr 8 (Sh.int IntKind.u32)).pair
                            ((Sh.int IntKind.u64).pair ((Sh.arr 64 (Sh.int IntKind.u8)).pair Sh.unit))).pair
                        Sh.unit))
                    (writeW newD (List.take 64 (List.drop 0 x.2.1)), writeW newD (List.take 64 (List.drop 0 x.2.2.1)),
                      PUnit.unit))))),
          PUnit.unit)))
    (QmN
      (((List.replicate 8 0#32, 0#64, List.replicate 64 0#8, PUnit.unit),
          (List.replicate 8 0#32, 0#64, List.replicate 64 0#8, PUnit.unit), PUnit.unit),
        over (List.replicate 64 0#8) 0 (List.take 64 key), over (List.replicate 64 0#8) 0 (List.take 64 key), 0,
        PUnit.unit)
      (fun _ => False)
      (fun x =>
        dmd ((List.take 64 (List.drop 0 x.2.1)).length.ble 140737488355328)
          (dmd ((List.take 64 (List.drop 0 x.2.2.1)).length.ble 140737488355328)
            (P
              (SV.av
                (AV.val
                  (((Sh.arr 8 (Sh.int IntKind.u32)).pair
                        ((Sh.int IntKind.u64).pair ((Sh.arr 64 (Sh.int IntKind.u8)).pair Sh.unit))).pair
                    (((Sh.arr 8 (Sh.int IntKind.u32)).pair
                          ((Sh.int IntKind.u64).pair ((Sh.arr 64 (Sh.int IntKind.u8)).pair Sh.unit))).pair
                      Sh.unit))
                  (writeW newD (List.take 64 (List.drop 0 x.2.1)), writeW newD (List.take 64 (List.drop 0 x.2.2.1)),
                    PUnit.unit))))),
        PUnit.unit))) := by kernel_rfl
theorem fwMWrite (s : Sh.T (macS)) (p : Sh.T (.sl u8S)) (P : SV → Prop) : FW H6 Tryd.f78.ntmps (LTab.look []) Tryd.f78 (argsOf [macS, .sl u8S] (s, p, ())) P =
 (  dmd ((List.length p).ble 140737488355328)
    (P
      (SV.av
        (AV.val
          (((Sh.arr 8 (Sh.int IntKind.u32)).pair
                ((Sh.int IntKind.u64).pair ((Sh.arr 64 (Sh.int IntKind.u8)).pair Sh.unit))).pair
            (((Sh.arr 8 (Sh.int IntKind.u32)).pair
                  ((Sh.int IntKind.u64).pair ((Sh.arr 64 (Sh.int IntKind.u8)).pair Sh.unit))).pair
              Sh.unit))
          (writeW s.1 p, s.2))))) := by kernel_rfl
theorem fwMSum (s : Sh.T (macS)) (P : SV → Prop) : FW H6 Tryd.f79.ntmps (LTab.look []) Tryd.f79 (argsOf [macS] (s, ())) P =
 (  dmd ((List.take 32 (List.drop 0 (sumW s.1))).length.ble 140737488355328)
    (P (SV.av (AV.val (Sh.arr 32 (Sh.int IntKind.u8)) (sumW (writeW s.2.1 (List.take 32 (List.drop 0 (sumW s.1))))))))) := by kernel_rfl
theorem loopmN : ∀ x Kr Kx, QmN x Kr Kx → ∃ n, untl (W H6 Tryd.f77.ntmps (LTab.look LmN) (bodyAt bmN 8)) ImN [] omN n x Kr Kx := by
  rintro x Kr Kx ⟨r, k, ex, hk, hK⟩
  have key := untl_up (F := W H6 Tryd.f77.ntmps (LTab.look LmN) (bodyAt bmN 8)) (l := ImN) (lr := []) (lx := omN) (Kr := Kr) (Kx := Kx) (st := fun i => (r, itr (stepX 54#8) k i, itr (stepX 92#8) k i, (i : Int), ())) 64 (fun i hi Kn hn => ?_) (fun Kn => ?_)
  · rw [ex]; exact key
  · rw [roundmN, i64w (a := (i : Int) + 1) (n := i + 1) (by omega) (by omega), Int.toNat_natCast]
    exact ifB_of (fun _ => dmd_of (andT (decTr (by omega)) (decTr (by omega))) (dmd_of (andT (decTr (by omega)) (decTr (by omega))) (dmd_of (andT (decTr (by omega)) (decTr (by omega))) (dmd_of (andT (decTr (by omega)) (decTr (by omega))) hn)))) (fun c => absurd (of_decide_eq_false c) (by omega))
  · rw [roundmN, stepX_all _ hk, stepX_all _ hk]
    exact ifB_of (fun c => absurd (of_decide_eq_true c) (by decide)) (fun _ => hK)
noncomputable def newMF : HA [.v (.sl u8S)] → RT := fun xs => .dem (Nat.ble (List.length xs.1) 140737488355328) (.ret (.av (.val macS (newM xs.1))))
theorem newM_fw (key : List (BitVec 8)) (hk : key.length ≤ 140737488355328) : FW H6 Tryd.f77.ntmps (LTab.look LmN) Tryd.f77 (argsOf [.sl u8S] (key, ())) (fun r => r = .av (.val macS (newM key))) := by
  rw [fwMNew]
  have fin : ∀ k : List (BitVec 8), k = keyK key → QmN ((((List.replicate 8 0#32, 0#64, List.replicate 64 0#8, ()), (List.replicate 8 0#32, 0#64, List.replicate 64 0#8, ()), ()) : MS), over (List.replicate 64 0#8) 0 (List.take 64 k), over (List.replicate 64 0#8) 0 (List.take 64 k), (0 : Int), ()) (fun _ => False)
      (fun x => dmd ((List.take 64 (List.drop 0 x.2.1)).length.ble 140737488355328) (dmd ((List.take 64 (List.drop 0 x.2.2.1)).length.ble 140737488355328)
        (SV.av (.val macS (writeW newD (List.take 64 (List.drop 0 x.2.1)), writeW newD (List.take 64 (List.drop 0 x.2.2.1)), ())) = SV.av (.val macS (newM key)))), ()) := by
    rintro k rfl
    have hl := keyK_len key
    rw [over_key hl]
    refine ⟨_, blkM (keyK key), rfl, blkM_len hl, ?_⟩
    have e1 : List.take 64 (List.drop 0 (xorB 54#8 (blkM (keyK key)))) = xorB 54#8 (blkM (keyK key)) := take_all (l := xorB 54#8 (blkM (keyK key))) (by rw [xorB_len, blkM_len hl])
    have e2 : List.take 64 (List.drop 0 (xorB 92#8 (blkM (keyK key)))) = xorB 92#8 (blkM (keyK key)) := take_all (l := xorB 92#8 (blkM (keyK key))) (by rw [xorB_len, blkM_len hl])
    show dmd ((List.take 64 (List.drop 0 (xorB 54#8 (blkM (keyK key))))).length.ble 140737488355328) (dmd ((List.take 64 (List.drop 0 (xorB 92#8 (blkM (keyK key))))).length.ble 140737488355328)
        (SV.av (.val macS (writeW newD (List.take 64 (List.drop 0 (xorB 54#8 (blkM (keyK key))))), writeW newD (List.take 64 (List.drop 0 (xorB 92#8 (blkM (keyK key))))), ())) = SV.av (.val macS (newM key))))
    rw [e1, e2, xorB_len, xorB_len, blkM_len hl]
    exact dmd_of rfl (dmd_of rfl rfl)
  refine ifB_of (fun c => dmd_of (bleT hk) ?_) (fun c => ?_)
  · have c' := of_decide_eq_true c
    have e := take_all (l := digW key) (n := 32) (digW_len key).symm
    rw [e]
    exact fin _ (by unfold keyK; rw [decTr (show 64 < key.length by omega)]; rfl)
  · have c' := of_decide_eq_false c
    exact fin _ (by unfold keyK; rw [decFa (show ¬ 64 < key.length by omega)]; rfl)
theorem newM_ok : COK Tryd.prog GL 77 (conA [.v (.sl u8S)] newMF) :=
  conA_ok (fun xs _ hc => PC_of_fw (t := LmN) shA_ok H6_ok mixed Tryd.func77 (c := bmN) rfl (by kernel_rfl) (by kernel_rfl)
    (loopsOK (by kernel_rfl) (LTCons (loop_of shA_ok H6_ok mixed (loopsOK (by kernel_rfl) (LTCons (noLoop (by kernel_rfl)) LTNil)) (by kernel_rfl) loopmN) LTNil)) rfl (newM_fw xs.1 (Nat.le_of_ble_eq_true hc.1))) (fun _ => rfl)
noncomputable def writeMF : HA [.v macS, .v (.sl u8S)] → RT := fun xs => .dem (Nat.ble (List.length xs.2.1) 140737488355328) (.ret (.av (.val macS (writeM xs.1 xs.2.1))))
theorem writeM_ok : COK Tryd.prog GL 78 (conA [.v macS, .v (.sl u8S)] writeMF) :=
  conA_ok (fun xs _ hc => PC_of_fw (t := []) shA_ok H6_ok mixed Tryd.func78 (c := Tryd.f78.body.getD .skip) rfl (by kernel_rfl) (by kernel_rfl) loopsNil rfl ((fwMWrite xs.1 xs.2.1 _).mpr (dmd_of hc.1 rfl))) (fun _ => rfl)
theorem sumM_ok : COK Tryd.prog GL 79 (conT [macS] fun xs => .av (.val b32S (sumM xs.1))) :=
  conT_ok (fun xs _ => PC_of_fw (t := []) shA_ok H6_ok mixed Tryd.func79 (c := Tryd.f79.body.getD .skip) rfl (by kernel_rfl) (by kernel_rfl) loopsNil rfl ((fwMSum xs.1 _).mpr (by
    have e := take_all (l := sumW xs.1.1) (n := 32) (sumW_len _).symm
    rw [e, sumW_len]
    exact dmd_of rfl rfl))) (fun _ => rfl)
noncomputable def M1c : CTab := (77, conA [.v (.sl u8S)] newMF) :: (78, conA [.v macS, .v (.sl u8S)] writeMF) :: (79, conT [macS] fun xs => .av (.val b32S (sumM xs.1))) :: H6c
noncomputable abbrev M1 : Go.Ty.Cx := mkX Tryd.prog GL shA M1c
theorem M1_ok : ∀ p ∈ M1c, COK Tryd.prog GL p.1 p.2 := CCons newM_ok (CCons writeM_ok (CCons sumM_ok H6_ok))
end Go.Proofs.YtghmfiandllpfaaDoor
