import Derived.Test.YtonlmamfggfanaaDoorDs
import Derived.Test.YtonlmamfggfanaaDoorEq
import Derived.Test.YtonlmamfggfanaaDoorHn
namespace Go.Proofs.YtonlmamfggfanaaDoor
open Go.Ty

/-! ## Blocks of a source -/
noncomputable def skpG (x : Src) (n : Int) : Src := bif decide (fitsE n = 0) then (x.1, x.2.1 + BitVec.ofInt 64 n, x.2.2.1, false, x.2.2.2.2) else x
theorem fwSkip (x : Src) (n : Int) (K : SV → Slot → Prop) : FWM R2 Tryd.f43.ntmps (LTab.look []) Tryd.f43 srcS x (argsOf [i64S] (n, ())) K =
  ifB (!decide (fitsE n = 0)) (K (.av (.val i64S (fitsE n))) (.live ⟨.one srcS (.val srcS x), true⟩))
    (K (.av (.val i64S 0)) (.live ⟨.one srcS (.val srcS (x.1, x.2.1 + BitVec.ofInt 64 n, x.2.2.1, false, x.2.2.2.2)), true⟩)) := by kernel_rfl
theorem skip_law (x : Src) (n : Int) (K : SV → Slot → Prop) (h : K (.av (.val i64S (fitsE n))) (.live ⟨.one srcS (.val srcS (skpG x n)), true⟩)) : FWM R2 Tryd.f43.ntmps (LTab.look []) Tryd.f43 srcS x (argsOf [i64S] (n, ())) K := by
  rw [fwSkip]
  refine ifB_neg (fun d => ?_) (fun d => ?_)
  · have e : skpG x n = x := by unfold skpG; exact cond_neg (decFa d)
    rw [e] at h; exact h
  · have e : skpG x n = (x.1, x.2.1 + BitVec.ofInt 64 n, x.2.2.1, false, x.2.2.2.2) := by unfold skpG; exact cond_pos (decTr d)
    rw [e, d] at h; exact h
theorem skip_ok : COK Tryd.prog GL 43 (conM srcS [.v i64S] (fun x xs => skpG x xs.1) fun _ xs => .ret (.av (.val i64S (fitsE xs.1)))) :=
  conM_ok rfl (fun x xs _ _ _ => FWM_pcm (LS := LTab.look []) (xok shA_ok) (consok R2_ok) mixed Tryd.func43 (c := Tryd.f43.body.getD .skip) rfl (by kernel_rfl) (by kernel_rfl) loopsNil (skip_law x xs.1 _ ⟨rfl, rfl⟩) rfl) (fun _ _ => rfl)
noncomputable def R4c : CTab := (43, conM srcS [.v i64S] (fun x xs => skpG x xs.1) fun _ xs => .ret (.av (.val i64S (fitsE xs.1)))) :: (38, conNew [.v (.sl u8S)] srcS (fun xs => Nat.ble (List.length xs.1) 140737488355328) fun xs => srcN xs.1 0#64) :: (39, conMW srcS [.v i64S] (fun x xs => bytG x xs.1) bytF) :: (40, conM srcS [] (fun x _ => x) fun x _ => .ret (.av (.val u64S x.2.1))) :: (41, conT [.sl u8S, .sl u8S] equalF) :: []
noncomputable abbrev R4 : Go.Ty.Cx := mkX Tryd.prog GL shA R4c
theorem R4_ok : ∀ p ∈ R4c, COK Tryd.prog GL p.1 p.2 := CCons skip_ok (CCons dnew_ok (CCons dbytes_ok (CCons place_ok (CCons equal_ok CNil))))
noncomputable def R5c : CTab := (31, conA [.v (.sl u8S), .v (.sl u8S)] macF) :: R4c
noncomputable abbrev R5 : Go.Ty.Cx := mkX Tryd.prog GL shA R5c
theorem R5_ok : ∀ p ∈ R5c, COK Tryd.prog GL p.1 p.2 := CCons mac_ok R4_ok
theorem fwDBlocks (k : List (BitVec 8)) (n : Int) (P : SV → Prop) : FW R5 Tryd.f14.ntmps (LTab.look []) Tryd.f14 (argsOf [.sl u8S, i64S] (k, n, ())) P =
  ifB (decide (n < 0)) (P (.av (.val .bool true))) (ifB (decide (100 < n)) (P (.av (.val .bool true)))
    (dmd (Nat.ble (List.length k) 140737488355328) (ifB (!decide (fitsE (IntKind.i64.wrap (32 * n)) = 0)) (P (.av (.val .bool false)))
      (dmd (Nat.ble (List.length k) 140737488355328) (P (.av (.val .bool (teq (.sl u8S) (List.take (outB (skpG (srcN k 0#64) (IntKind.i64.wrap (32 * n))) 32 32).length (List.drop 0 (outB (skpG (srcN k 0#64) (IntKind.i64.wrap (32 * n))) 32 32)))
        (List.take 32 (List.drop 0 (macW k [0#8, 0#8, 0#8, 0#8, 0#8, 0#8, 0#8, BitVec.ofInt 8 n]))))))))))) := by kernel_rfl
theorem ctr_ok : ∀ j, j < 101 → ctr8 (BitVec.ofNat 64 (32 * j) / 32#64) = [0#8, 0#8, 0#8, 0#8, 0#8, 0#8, 0#8, BitVec.ofNat 8 j] := by decide +kernel
theorem mod_at {j i : Nat} (_ : j < 101) (hi : i < 32) : ((BitVec.ofNat 64 (32 * j) + BitVec.ofNat 64 i) % 32#64).toNat = i := by
  rw [BitVec.toNat_umod, BitVec.toNat_add, BitVec.toNat_ofNat, BitVec.toNat_ofNat]
  show (32 * j % 2 ^ 64 + i % 2 ^ 64) % 2 ^ 64 % 32 = i
  omega
theorem run_blk (m : MS) (c : List (BitVec 8)) {j : Nat} (hj : j < 101) : ∀ i, i < 32 → curB (runG (m, BitVec.ofNat 64 (32 * j), c, false, ()) i) = blkN m (BitVec.ofNat 64 (32 * j)) ∧ (runG (m, BitVec.ofNat 64 (32 * j), c, false, ()) i).2.1 = BitVec.ofNat 64 (32 * j) + BitVec.ofNat 64 i
  | 0, _ => by
    refine ⟨?_, (BitVec.add_zero _).symm⟩
    show curB (m, BitVec.ofNat 64 (32 * j), c, false, ()) = _
    have e := mod_at hj (i := 0) (by decide)
    have e : BitVec.ofNat 64 (32 * j) % 32#64 = 0#64 := BitVec.eq_of_toNat_eq (by rw [show BitVec.ofNat 64 (32 * j) + BitVec.ofNat 64 0 = BitVec.ofNat 64 (32 * j) from BitVec.add_zero _] at e; exact e)
    unfold curB
    exact cond_pos (decTr e)
  | i + 1, hi => by
    obtain ⟨h1, h2⟩ := run_blk m c hj i (by omega)
    have hp : (runG (m, BitVec.ofNat 64 (32 * j), c, false, ()) (i + 1)).2.1 = BitVec.ofNat 64 (32 * j) + BitVec.ofNat 64 (i + 1) := by
      show (runG (m, BitVec.ofNat 64 (32 * j), c, false, ()) i).2.1 + 1#64 = _
      rw [h2, BitVec.ofNat_add, BitVec.add_assoc]
    refine ⟨?_, hp⟩
    have hm := mod_at hj hi
    rw [← hp] at hm
    unfold curB
    refine (cond_neg (decFa (fun e => ?_))).trans ?_
    · rw [e] at hm
      have hm : 0 = i + 1 := hm
      omega
    · show (bif !true then _ else curB (runG (m, BitVec.ofNat 64 (32 * j), c, false, ()) i)) = _
      exact h1
theorem out_blk (x : Src) (b : List (BitVec 8)) (hb : b.length = 32) (h : ∀ i, i < 32 → nextB (runG x i) = rd u8S b i) : ∀ i, i ≤ 32 → outB x 32 i = b.take i ++ List.replicate (32 - i) 0#8
  | 0, _ => rfl
  | i + 1, hi => by
    show (outB x 32 i).set i (nextB (runG x i)) = _
    rw [out_blk x b hb h i (by omega), h i (by omega)]
    have hl : (b.take i).length = i := by rw [List.length_take]; omega
    rw [List.set_append_right _ _ (by omega), hl, Nat.sub_self, show 32 - i = (32 - (i + 1)) + 1 by omega, List.replicate_succ, List.set_cons_zero, take_next (by omega), List.append_assoc]
    rfl
theorem dblocks_fw (k : List (BitVec 8)) (n : Int) (hk : k.length ≤ 140737488355328) : FW R5 Tryd.f14.ntmps (LTab.look []) Tryd.f14 (argsOf [.sl u8S, i64S] (k, n, ())) (fun r => r = .av (.val .bool true)) := by
  have hk := bleT hk
  rw [fwDBlocks]
  refine ifB_dec (fun _ => rfl) (fun a => ifB_dec (fun _ => rfl) (fun b => dmd_of hk ?_))
  obtain ⟨j, rfl⟩ := Int.eq_ofNat_of_zero_le (show 0 ≤ n by omega)
  have hj : j < 101 := by omega
  have hw : IntKind.i64.wrap (32 * ((j : Nat) : Int)) = ((32 * j : Nat) : Int) := i64w (by omega) (by omega)
  have hf : fitsE ((32 * j : Nat) : Int) = 0 := by
    unfold fitsE
    rw [cond_neg (decFa (by omega)), cond_neg (decFa (by omega))]
  rw [hw]
  refine ifB_neg (fun c => absurd hf c) (fun _ => dmd_of hk (pbool (teq_of ?_)))
  have es : skpG (srcN k 0#64) ((32 * j : Nat) : Int) = (newM k, BitVec.ofNat 64 (32 * j), List.replicate 32 0#8, false, ()) := by
    unfold skpG
    refine (cond_pos (decTr hf)).trans ?_
    show (newM k, 0#64 + BitVec.ofInt 64 ((32 * j : Nat) : Int), List.replicate 32 0#8, false, ()) = _
    rw [BitVec.ofInt_natCast, BitVec.zero_add]
  rw [es]
  have hblen : (blkN (newM k) (BitVec.ofNat 64 (32 * j))).length = 32 := sumM_len _
  have ho := out_blk (newM k, BitVec.ofNat 64 (32 * j), List.replicate 32 0#8, false, ()) _ hblen (fun i hi => by
    obtain ⟨h1, h2⟩ := run_blk (newM k) (List.replicate 32 0#8) hj i hi
    unfold nextB
    rw [h1, h2, mod_at hj hi]) 32 (Nat.le_refl 32)
  rw [List.take_of_length_le (by omega)] at ho
  have ho : outB (newM k, BitVec.ofNat 64 (32 * j), List.replicate 32 0#8, false, ()) 32 32 = blkN (newM k) (BitVec.ofNat 64 (32 * j)) := ho.trans (List.append_nil _)
  have e2 : ∀ p, List.take 32 (List.drop 0 (macW k p)) = macW k p := fun p => take_all (l := macW k p) (sumM_len _).symm
  rw [ho, drop0_take _ _ rfl, BitVec.ofInt_natCast, e2]
  unfold blkN macW
  rw [ctr_ok j hj]
theorem walkDrawBlocks (xs : HL [.sl u8S, i64S]) (h : okHL [.sl u8S, i64S] xs) : PC (bx Tryd.prog GL) 14 (argsOf [.sl u8S, i64S] xs) (.av (.val .bool true)) := by
  have h1 : List.length xs.1 * 1 ≤ 140737488351232 := h.1.1
  exact PC_of_fw (t := []) shA_ok R5_ok mixed Tryd.func14 (c := Tryd.f14.body.getD .skip) rfl (by kernel_rfl) (by kernel_rfl) loopsNil rfl (dblocks_fw xs.1 xs.2.1 (by omega))
end Go.Proofs.YtonlmamfggfanaaDoor
