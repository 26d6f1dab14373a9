import Derived.Test.YtonlmamfggfanaaDoorHu
namespace Go.Proofs.YtonlmamfggfanaaDoor
open Go.Ty

/-! ## Behind a digest -/
theorem glue4 (x : BitVec 32) : BitVec.setWidth 32 (BitVec.setWidth 8 (x >>> 24)) <<< 24 ||| BitVec.setWidth 32 (BitVec.setWidth 8 (x >>> 16)) <<< 16 ||| BitVec.setWidth 32 (BitVec.setWidth 8 (x >>> 8)) <<< 8 ||| BitVec.setWidth 32 (BitVec.setWidth 8 x) = x := by
  apply BitVec.eq_of_getLsbD_eq
  intro i hi
  simp only [BitVec.getLsbD_or, BitVec.getLsbD_shiftLeft, BitVec.getLsbD_setWidth, BitVec.getLsbD_ushiftRight]
  have h : i = 0 ∨ i = 1 ∨ i = 2 ∨ i = 3 ∨ i = 4 ∨ i = 5 ∨ i = 6 ∨ i = 7 ∨ i = 8 ∨ i = 9 ∨ i = 10 ∨ i = 11 ∨ i = 12 ∨ i = 13 ∨ i = 14 ∨ i = 15 ∨ i = 16 ∨ i = 17 ∨ i = 18 ∨ i = 19 ∨ i = 20 ∨ i = 21 ∨ i = 22 ∨ i = 23 ∨ i = 24 ∨ i = 25 ∨ i = 26 ∨ i = 27 ∨ i = 28 ∨ i = 29 ∨ i = 30 ∨ i = 31 := by omega
  rcases h with rfl | rfl | rfl | rfl | rfl | rfl | rfl | rfl | rfl | rfl | rfl | rfl | rfl | rfl | rfl | rfl | rfl | rfl | rfl | rfl | rfl | rfl | rfl | rfl | rfl | rfl | rfl | rfl | rfl | rfl | rfl | rfl <;> simp
theorem list8 {h : List (BitVec 32)} (hl : h.length = 8) : ∃ a b c d e f g i : BitVec 32, h = [a, b, c, d, e, f, g, i] := by
  match h, hl with
  | [a, b, c, d, e, f, g, i], _ => exact ⟨a, b, c, d, e, f, g, i, rfl⟩
def wordsD (d : List (BitVec 8)) : List (BitVec 32) := [wordW d 0, wordW d 4, wordW d 8, wordW d 12, wordW d 16, wordW d 20, wordW d 24, wordW d 28]
theorem words_bytes {h : List (BitVec 32)} (hl : h.length = 8) : wordsD (bytesH h) = h := by
  obtain ⟨a, b, c, d, e, f, g, i, rfl⟩ := list8 hl
  show [_, _, _, _, _, _, _, _] = _
  exact congr (congrArg List.cons (glue4 a)) (congr (congrArg List.cons (glue4 b)) (congr (congrArg List.cons (glue4 c)) (congr (congrArg List.cons (glue4 d)) (congr (congrArg List.cons (glue4 e)) (congr (congrArg List.cons (glue4 f)) (congr (congrArg List.cons (glue4 g)) (congr (congrArg List.cons (glue4 i)) rfl)))))))
def resD (d : List (BitVec 8)) (n : BitVec 64) : HS := (wordsD d, n, List.replicate 64 0#8, ())
noncomputable def resF : HL [b32S, u64S] → SV := fun xs => .tup [.val hsS (bif decide (xs.2.1 % 64#64 = 0#64) then resD xs.1 xs.2.1 else newD), .val i64S (bif decide (xs.2.1 % 64#64 = 0#64) then (0 : Int) else (1 : Int))]
theorem fwResume (d : Sh.T (.arr 32 u8S)) (n : Sh.T (u64S)) (P : SV → Prop) : FW H4 Tryd.f23.ntmps (LTab.look []) Tryd.f23 (argsOf [.arr 32 u8S, u64S] (d, n, ())) P =
 (  ifB (!decide (n % 64#64 = 0#64))
    (P
      (SV.tup
        [AV.val
            ((Sh.arr 8 (Sh.int IntKind.u32)).pair
              ((Sh.int IntKind.u64).pair ((Sh.arr 64 (Sh.int IntKind.u8)).pair Sh.unit)))
            newD,
          AV.val (Sh.int IntKind.i64) 1]))
    (dmd (decide (3 < (((List.take 32 (List.drop 0 d)).length : Nat) : Int)))
      ((List.take 32 (List.drop 0 d)).length ≤ 140737488355328 ∧
        dmd (decide (7 < (((List.take 32 (List.drop 0 d)).length : Nat) : Int)))
          ((List.take 32 (List.drop 0 d)).length ≤ 140737488355328 ∧
            dmd (decide (11 < (((List.take 32 (List.drop 0 d)).length : Nat) : Int)))
              ((List.take 32 (List.drop 0 d)).length ≤ 140737488355328 ∧
                dmd (decide (15 < (((List.take 32 (List.drop 0 d)).length : Nat) : Int)))
                  ((List.take 32 (List.drop 0 d)).length ≤ 140737488355328 ∧
                    dmd (decide (19 < (((List.take 32 (List.drop 0 d)).length : Nat) : Int)))
                      ((List.take 32 (List.drop 0 d)).length ≤ 140737488355328 ∧
                        dmd (decide (23 < (((List.take 32 (List.drop 0 d)).length : Nat) : Int)))
                          ((List.take 32 (List.drop 0 d)).length ≤ 140737488355328 ∧
                            dmd (decide (27 < (((List.take 32 (List.drop 0 d)).length : Nat) : Int)))
                              ((List.take 32 (List.drop 0 d)).length ≤ 140737488355328 ∧
                                dmd (decide (31 < (((List.take 32 (List.drop 0 d)).length : Nat) : Int)))
                                  ((List.take 32 (List.drop 0 d)).length ≤ 140737488355328 ∧
                                    P
                                      (SV.tup
                                        [AV.val
                                            ((Sh.arr 8 (Sh.int IntKind.u32)).pair
                                              ((Sh.int IntKind.u64).pair ((Sh.arr 64 (Sh.int IntKind.u8)).pair Sh.unit)))
                                            ((((((((List.set newD.1 0 (wordW (List.take 32 (List.drop 0 d)) 0)).set 1
                                                                        (wordW (List.take 32 (List.drop 0 d)) 4)).set
                                                                    2 (wordW (List.take 32 (List.drop 0 d)) 8)).set
                                                                3 (wordW (List.take 32 (List.drop 0 d)) 12)).set
                                                            4 (wordW (List.take 32 (List.drop 0 d)) 16)).set
                                                        5 (wordW (List.take 32 (List.drop 0 d)) 20)).set
                                                    6 (wordW (List.take 32 (List.drop 0 d)) 24)).set
                                                7 (wordW (List.take 32 (List.drop 0 d)) 28),
                                              n, newD.2.2),
                                          AV.val (Sh.int IntKind.i64) 0]))))))))))) := by kernel_rfl
theorem resume_ok : COK Tryd.prog GL 23 (conT [b32S, u64S] resF) := by
  refine conT_ok (fun xs hw => ?_) (fun _ => rfl)
  obtain ⟨d, n, ⟨⟩⟩ := xs
  have hd : List.length d = 32 := hw.1.1
  refine PC_of_fw (t := []) shA_ok H4_ok mixed Tryd.func23 (c := Tryd.f23.body.getD .skip) rfl (by kernel_rfl) (by kernel_rfl) loopsNil rfl ((fwResume d n _).mpr ?_)
  have e : List.take 32 (List.drop 0 d) = d := take_all (l := d) hd.symm
  have hl : List.length d ≤ 140737488355328 := by omega
  rw [e]
  unfold resF
  refine ifB_of (fun c => ?_) (fun c => ?_)
  · have c' : decide (n % 64#64 = 0#64) = false := by
      cases h : decide (n % 64#64 = 0#64) with
      | true => rw [h] at c; cases c
      | false => rfl
    show SV.tup [_, _] = SV.tup [.val hsS (bif decide (n % 64#64 = 0#64) then _ else _), .val i64S (bif decide (n % 64#64 = 0#64) then _ else _)]
    rw [c']; rfl
  · have c' : decide (n % 64#64 = 0#64) = true := by
      cases h : decide (n % 64#64 = 0#64) with
      | true => rfl
      | false => rw [h] at c; cases c
    refine dmd_of (decT (by omega)) ⟨hl, dmd_of (decT (by omega)) ⟨hl, dmd_of (decT (by omega)) ⟨hl, dmd_of (decT (by omega)) ⟨hl, dmd_of (decT (by omega)) ⟨hl, dmd_of (decT (by omega)) ⟨hl, dmd_of (decT (by omega)) ⟨hl, dmd_of (decT (by omega)) ⟨hl, ?_⟩⟩⟩⟩⟩⟩⟩⟩
    show SV.tup [_, _] = SV.tup [.val hsS (bif decide (n % 64#64 = 0#64) then _ else _), .val i64S (bif decide (n % 64#64 = 0#64) then _ else _)]
    rw [c']; rfl
/-- states that go on alike -/
def alike (s t : HS) : Prop := s.1 = t.1 ∧ s.2.1 = t.2.1 ∧ List.length s.2.2.1 = 64 ∧ List.length t.2.2.1 = 64 ∧ List.take (s.2.1 % 64#64).toNat s.2.2.1 = List.take (s.2.1 % 64#64).toNat t.2.2.1
theorem next64 (x : BitVec 64) : ((x + 1#64) % 64#64).toNat = ((x % 64#64).toNat + 1) % 64 := by
  rw [BitVec.toNat_umod, BitVec.toNat_umod, BitVec.toNat_add]
  show (x.toNat + 1) % 2 ^ 64 % 64 = (x.toNat % 64 + 1) % 64
  omega
theorem set_take {l : List (BitVec 8)} {k : Nat} {b : BitVec 8} (h : k < l.length) : List.take (k + 1) (List.set l k b) = List.take k l ++ [b] := by
  rw [List.take_add_one, List.take_set_of_le (Nat.le_refl k), List.getElem?_set_self h]; rfl
theorem alike_step {s t : HS} (h : alike s t) (b : BitVec 8) : alike (stepH s b) (stepH t b) := by
  obtain ⟨h0, n, l, ⟨⟩⟩ := s
  obtain ⟨h0', n', l', ⟨⟩⟩ := t
  obtain ⟨e1, e2, e3, e4, e5⟩ := h
  have e1 : h0 = h0' := e1
  have e2 : n = n' := e2
  have e3 : List.length l = 64 := e3
  have e4 : List.length l' = 64 := e4
  have e5 : List.take (n % 64#64).toNat l = List.take (n % 64#64).toNat l' := e5
  subst e1 e2
  have hk : (n % 64#64).toNat < 64 := by rw [BitVec.toNat_umod]; exact Nat.mod_lt _ (by decide)
  have ht : List.take ((n % 64#64).toNat + 1) (List.set l (n % 64#64).toNat b) = List.take ((n % 64#64).toNat + 1) (List.set l' (n % 64#64).toNat b) := by
    rw [set_take (by omega), set_take (by omega), e5]
  have hn := next64 n
  unfold stepH
  show alike (bif decide ((n + 1#64) % 64#64 = 0#64) then _ else _) (bif decide ((n + 1#64) % 64#64 = 0#64) then _ else _)
  cases c : decide ((n + 1#64) % 64#64 = 0#64) with
  | true =>
    have c := of_decide_eq_true c
    rw [c] at hn
    have hn : 0 = ((n % 64#64).toNat + 1) % 64 := hn
    have hk' : (n % 64#64).toNat + 1 = 64 := by omega
    rw [hk', List.take_of_length_le (by rw [List.length_set]; omega), List.take_of_length_le (by rw [List.length_set]; omega)] at ht
    show alike (pressW h0 (List.set l (n % 64#64).toNat b), n + 1#64, List.set l (n % 64#64).toNat b, ()) (pressW h0 (List.set l' (n % 64#64).toNat b), n + 1#64, List.set l' (n % 64#64).toNat b, ())
    rw [ht]
    exact ⟨rfl, rfl, by show List.length (List.set _ _ _) = 64; rw [List.length_set]; exact e4, by show List.length (List.set _ _ _) = 64; rw [List.length_set]; exact e4, rfl⟩
  | false =>
    have c := of_decide_eq_false c
    have hz : ((n + 1#64) % 64#64).toNat ≠ 0 := fun z => c (BitVec.eq_of_toNat_eq z)
    refine ⟨rfl, rfl, by show List.length (List.set _ _ _) = 64; rw [List.length_set]; exact e3, by show List.length (List.set _ _ _) = 64; rw [List.length_set]; exact e4, ?_⟩
    show List.take ((n + 1#64) % 64#64).toNat (List.set l (n % 64#64).toNat b) = List.take ((n + 1#64) % 64#64).toNat (List.set l' (n % 64#64).toNat b)
    rw [show ((n + 1#64) % 64#64).toNat = (n % 64#64).toNat + 1 by omega]
    exact ht
theorem alike_write : ∀ (p : List (BitVec 8)) {s t : HS}, alike s t → alike (writeW s p) (writeW t p)
  | [], _, _, h => h
  | b :: p, _, _, h => alike_write p (alike_step h b)
theorem alike_sum {s t : HS} (h : alike s t) : sumW s = sumW t := by
  unfold sumW
  rw [h.2.1, (alike_write (padW t.2.1) h).1]
theorem write_n : ∀ (p : List (BitVec 8)) (s : HS), (writeW s p).2.1 = s.2.1 + BitVec.ofNat 64 p.length
  | [], s => by show s.2.1 = s.2.1 + 0#64; rw [BitVec.add_zero]
  | b :: p, s => by
    have h := write_n p (stepH s b)
    have e : (stepH s b).2.1 = s.2.1 + 1#64 := by unfold stepH; cases decide ((s.2.1 + 1#64) % 64#64 = 0#64) <;> rfl
    show (writeW (stepH s b) p).2.1 = _
    rw [h, e, List.length_cons, BitVec.add_assoc]
    congr 1
    rw [show p.length + 1 = 1 + p.length by omega, BitVec.ofNat_add]
theorem len_n (p : List (BitVec 8)) : (writeW newD p).2.1 = BitVec.ofInt 64 ((p.length : Nat) : Int) := by
  rw [write_n, BitVec.ofInt_natCast]
  show 0#64 + _ = _
  rw [BitVec.zero_add]
theorem pad_all (p : List (BitVec 8)) : (BitVec.ofInt 64 ((p.length : Nat) : Int) + BitVec.ofInt 64 (((padW (BitVec.ofInt 64 ((p.length : Nat) : Int))).length : Nat) : Int)) % 64#64 = 0#64 := by
  apply BitVec.eq_of_toNat_eq
  rw [pad_mod, padW_len]
  have e : (BitVec.ofInt 64 ((p.length : Nat) : Int)).toNat = p.length % 2 ^ 64 := by rw [BitVec.ofInt_natCast, BitVec.toNat_ofNat]
  unfold padN
  rw [e]
  show _ = 0
  omega
theorem extends_eq (p q : List (BitVec 8)) : sumW (writeW (resD (digW p) (BitVec.ofInt 64 ((p.length : Nat) : Int) + BitVec.ofInt 64 (((padW (BitVec.ofInt 64 ((p.length : Nat) : Int))).length : Nat) : Int))) q) = digW (p ++ padW (BitVec.ofInt 64 ((p.length : Nat) : Int)) ++ q) := by
  unfold digW
  rw [writeW_app newD]
  refine alike_sum (alike_write q ?_)
  rw [writeW_app]
  have hn := len_n p
  have hw := wf_write (padW (BitVec.ofInt 64 ((p.length : Nat) : Int))) (wf_write p wf_new)
  have hN := write_n (padW (BitVec.ofInt 64 ((p.length : Nat) : Int))) (writeW newD p)
  rw [hn, ← BitVec.ofInt_natCast] at hN
  have hz := pad_all p
  refine ⟨?_, ?_, rfl, hw.2, ?_⟩
  · show wordsD (sumW (writeW newD p)) = _
    unfold sumW
    rw [hn]
    exact words_bytes hw.1
  · exact hN.symm
  · show List.take ((_ + _ : BitVec 64) % 64#64).toNat _ = List.take ((_ + _ : BitVec 64) % 64#64).toNat _
    rw [hz]; rfl
noncomputable def H8c : CTab := (23, conT [b32S, u64S] resF) :: (22, conT [u64S] fun xs => .av (.val (.sl u8S) (padW xs.1))) :: H7c
noncomputable abbrev H8 : Go.Ty.Cx := mkX Tryd.prog GL shA H8c
theorem H8_ok : ∀ p ∈ H8c, COK Tryd.prog GL p.1 p.2 := CCons resume_ok (CCons pad_ok H7_ok)
theorem fwHashExtends (p : Sh.T (.sl u8S)) (q : Sh.T (.sl u8S)) (P : SV → Prop) : FW H8 Tryd.f5.ntmps (LTab.look []) Tryd.f5 (argsOf [.sl u8S, .sl u8S] (p, q, ())) P =
 (  ifB ((List.length p).beq 0)
    (ifB ((padW (BitVec.ofInt 64 (((List.length p) : Nat) : Int))).length.beq 0)
      (ifB ((List.length q).beq 0)
        (dmd ((List.length p).ble 140737488355328)
          (ifB
            (decide
              ((bif
                    decide
                      ((BitVec.ofInt 64 (((List.length p) : Nat) : Int) +
                            BitVec.ofInt 64 (((padW (BitVec.ofInt 64 (((List.length p) : Nat) : Int))).length : Nat) : Int)) %
                          64#64 =
                        0#64) then
                  0
                else (1 : Int)) =
                0))
            (dmd ((List.length q).ble 140737488355328)
              (P
                (SV.av
                  (AV.val Sh.bool
                    (teq (Sh.arr 32 (Sh.int IntKind.u8))
                      (sumW
                        (writeW
                          (bif
                              decide
                                ((BitVec.ofInt 64 (((List.length p) : Nat) : Int) +
                                      BitVec.ofInt 64 (((padW (BitVec.ofInt 64 (((List.length p) : Nat) : Int))).length : Nat) : Int)) %
                                    64#64 =
                                  0#64) then
                            resD (digW p)
                              (BitVec.ofInt 64 (((List.length p) : Nat) : Int) +
                                BitVec.ofInt 64 (((padW (BitVec.ofInt 64 (((List.length p) : Nat) : Int))).length : Nat) : Int))
                          else newD)
                          q))
                      (digW []))))))
            (P (SV.av (AV.val Sh.bool false)))))
        (dmd ((List.length q * 1).ble 140737488355328)
          (dmd ((List.length p).ble 140737488355328)
            (ifB
              (decide
                ((bif
                      decide
                        ((BitVec.ofInt 64 (((List.length p) : Nat) : Int) +
                              BitVec.ofInt 64 (((padW (BitVec.ofInt 64 (((List.length p) : Nat) : Int))).length : Nat) : Int)) %
                            64#64 =
                          0#64) then
                    0
                  else (1 : Int)) =
                  0))
              (dmd ((List.length q).ble 140737488355328)
                (dmd ((List.take (List.length q) (List.drop 0 q)).length.ble 140737488355328)
                  (P
                    (SV.av
                      (AV.val Sh.bool
                        (teq (Sh.arr 32 (Sh.int IntKind.u8))
                          (sumW
                            (writeW
                              (bif
                                  decide
                                    ((BitVec.ofInt 64 (((List.length p) : Nat) : Int) +
                                          BitVec.ofInt 64 (((padW (BitVec.ofInt 64 (((List.length p) : Nat) : Int))).length : Nat) : Int)) %
                                        64#64 =
                                      0#64) then
                                resD (digW p)
                                  (BitVec.ofInt 64 (((List.length p) : Nat) : Int) +
                                    BitVec.ofInt 64 (((padW (BitVec.ofInt 64 (((List.length p) : Nat) : Int))).length : Nat) : Int))
                              else newD)
                              q))
                          (digW (List.take (List.length q) (List.drop 0 q)))))))))
              (P (SV.av (AV.val Sh.bool false)))))))
      (dmd (((padW (BitVec.ofInt 64 (((List.length p) : Nat) : Int))).length * 1).ble 140737488355328)
        (dmd
          ((padW (BitVec.ofInt 64 (((List.length p) : Nat) : Int))).length.beq (padW (BitVec.ofInt 64 (((List.length p) : Nat) : Int))).length &&
            (((padW (BitVec.ofInt 64 (((List.length p) : Nat) : Int))).length + List.length q) * 1).ble 140737488355328)
          (dmd ((List.length p).ble 140737488355328)
            (ifB
              (decide
                ((bif
                      decide
                        ((BitVec.ofInt 64 (((List.length p) : Nat) : Int) +
                              BitVec.ofInt 64 (((padW (BitVec.ofInt 64 (((List.length p) : Nat) : Int))).length : Nat) : Int)) %
                            64#64 =
                          0#64) then
                    0
                  else (1 : Int)) =
                  0))
              (dmd ((List.length q).ble 140737488355328)
                (dmd
                  ((List.take ((padW (BitVec.ofInt 64 (((List.length p) : Nat) : Int))).length + List.length q)
                          (List.drop 0 ((padW (BitVec.ofInt 64 (((List.length p) : Nat) : Int))).append q))).length.ble
                    140737488355328)
                  (P
                    (SV.av
                      (AV.val Sh.bool
                        (teq (Sh.arr 32 (Sh.int IntKind.u8))
                          (sumW
                            (writeW
                              (bif
                                  decide
                                    ((BitVec.ofInt 64 (((List.length p) : Nat) : Int) +
                                          BitVec.ofInt 64 (((padW (BitVec.ofInt 64 (((List.length p) : Nat) : Int))).length : Nat) : Int)) %
                                        64#64 =
                                      0#64) then
                                resD (digW p)
                                  (BitVec.ofInt 64 (((List.length p) : Nat) : Int) +
                                    BitVec.ofInt 64 (((padW (BitVec.ofInt 64 (((List.length p) : Nat) : Int))).length : Nat) : Int))
                              else newD)
                              q))
                          (digW
                            (List.take ((padW (BitVec.ofInt 64 (((List.length p) : Nat) : Int))).length + List.length q)
                              (List.drop 0 ((padW (BitVec.ofInt 64 (((List.length p) : Nat) : Int))).append q))))))))))
              (P (SV.av (AV.val Sh.bool false))))))))
    (dmd ((List.length p * 1).ble 140737488355328)
      (dmd
        ((List.length p).beq (List.length p) &&
          ((List.length p + (padW (BitVec.ofInt 64 (((List.length p) : Nat) : Int))).length) * 1).ble 140737488355328)
        (dmd
          ((List.length p + (padW (BitVec.ofInt 64 (((List.length p) : Nat) : Int))).length).beq
              (List.append p (padW (BitVec.ofInt 64 (((List.length p) : Nat) : Int)))).length &&
            ((List.length p + (padW (BitVec.ofInt 64 (((List.length p) : Nat) : Int))).length + List.length q) * 1).ble 140737488355328)
          (dmd ((List.length p).ble 140737488355328)
            (ifB
              (decide
                ((bif
                      decide
                        ((BitVec.ofInt 64 (((List.length p) : Nat) : Int) +
                              BitVec.ofInt 64 (((padW (BitVec.ofInt 64 (((List.length p) : Nat) : Int))).length : Nat) : Int)) %
                            64#64 =
                          0#64) then
                    0
                  else (1 : Int)) =
                  0))
              (dmd ((List.length q).ble 140737488355328)
                (dmd
                  ((List.take (List.length p + (padW (BitVec.ofInt 64 (((List.length p) : Nat) : Int))).length + List.length q)
                          (List.drop 0 ((List.append p (padW (BitVec.ofInt 64 (((List.length p) : Nat) : Int)))).append q))).length.ble
                    140737488355328)
                  (P
                    (SV.av
                      (AV.val Sh.bool
                        (teq (Sh.arr 32 (Sh.int IntKind.u8))
                          (sumW
                            (writeW
                              (bif
                                  decide
                                    ((BitVec.ofInt 64 (((List.length p) : Nat) : Int) +
                                          BitVec.ofInt 64 (((padW (BitVec.ofInt 64 (((List.length p) : Nat) : Int))).length : Nat) : Int)) %
                                        64#64 =
                                      0#64) then
                                resD (digW p)
                                  (BitVec.ofInt 64 (((List.length p) : Nat) : Int) +
                                    BitVec.ofInt 64 (((padW (BitVec.ofInt 64 (((List.length p) : Nat) : Int))).length : Nat) : Int))
                              else newD)
                              q))
                          (digW
                            (List.take (List.length p + (padW (BitVec.ofInt 64 (((List.length p) : Nat) : Int))).length + List.length q)
                              (List.drop 0 ((List.append p (padW (BitVec.ofInt 64 (((List.length p) : Nat) : Int)))).append q))))))))))
              (P (SV.av (AV.val Sh.bool false))))))))) := by kernel_rfl
theorem ifB_decT {p q : Prop} {i : Decidable True} : ifB (@decide True i) p q = p := by
  cases i with
  | isTrue _ => rfl
  | isFalse h => exact absurd trivial h
theorem padW_cons (n : BitVec 64) : padW n = 128#8 :: (List.replicate (padN n) 0#8 ++ tailB n 8) := rfl
set_option maxRecDepth 20000 in
theorem walkHashExtends (xs : HL [.sl u8S, .sl u8S]) (h : okHLB 17179869184 [.sl u8S, .sl u8S] xs) : PC (bx Tryd.prog GL) 5 (argsOf [.sl u8S, .sl u8S] xs) (.av (.val .bool true)) := by
  obtain ⟨p, q, ⟨⟩⟩ := xs
  have h1 : List.length p * 1 ≤ 17179869184 := h.1.1
  have h2 : List.length q * 1 ≤ 17179869184 := h.2.1.1
  clear h
  refine PC_of_fw (t := []) shA_ok H8_ok mixed Tryd.func5 (c := Tryd.f5.body.getD .skip) rfl (by kernel_rfl) (by kernel_rfl) loopsNil rfl ((fwHashExtends p q _).mpr ?_)
  have hz := pad_all p
  have hd : decide ((BitVec.ofInt 64 ((p.length : Nat) : Int) + BitVec.ofInt 64 (((padW (BitVec.ofInt 64 ((p.length : Nat) : Int))).length : Nat) : Int)) % 64#64 = 0#64) = true := decT hz
  have he := extends_eq p q
  have hl := padW_len (BitVec.ofInt 64 ((p.length : Nat) : Int))
  have hlt := padN_lt (BitVec.ofInt 64 ((p.length : Nat) : Int))
  have hc := padW_cons (BitVec.ofInt 64 ((p.length : Nat) : Int))
  simp only [hd, cond_true]
  rw [he]
  clear he hd hz
  generalize padW (BitVec.ofInt 64 ((p.length : Nat) : Int)) = pad at *
  generalize List.replicate (padN (BitVec.ofInt 64 ((p.length : Nat) : Int))) 0#8 ++ tailB (BitVec.ofInt 64 ((p.length : Nat) : Int)) 8 = rest at hc
  subst hc
  cases p with
  | cons x p =>
    have e1 := take_all (l := (x :: p) ++ (128#8 :: rest) ++ q) (n := (x :: p).length + (128#8 :: rest).length + q.length) (by rw [List.length_append, List.length_append])
    simp only [List.append_eq, e1]
    rw [List.length_append, List.length_append]
    simp only [dmd_and, dmd_beqn, beq_cons, ifB_false, teq_self]
    simp (disch := omega) only [dmd_ble, ifB_decT, List.length_append]
  | nil =>
    have e1 := take_all (l := (128#8 :: rest) ++ q) (n := (128#8 :: rest).length + q.length) (by rw [List.length_append])
    simp only [List.append_eq, e1, List.nil_append]
    rw [List.length_append]
    simp only [dmd_and, dmd_beqn, beq_cons, beq_nil, ifB_false, ifB_true, teq_self]
    simp (disch := omega) only [dmd_ble, ifB_decT]
end Go.Proofs.YtonlmamfggfanaaDoor
