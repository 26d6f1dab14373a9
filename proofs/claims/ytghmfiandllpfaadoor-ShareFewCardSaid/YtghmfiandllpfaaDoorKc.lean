import Derived.Test.YtghmfiandllpfaaDoorB0
import Derived.Test.YtghmfiandllpfaaDoorTyC
import Derived.Test.YtghmfiandllpfaaDoorTyC
import Derived.KernelRfl
import Derived.Test.YtghmfiandllpfaaDoorKb
namespace Go.Proofs.YtghmfiandllpfaaDoor.Lb
open Go.Ty

theorem flat_num (n : Nat) : flatV numS (wordsN 4 n) = numV n := by
  have h : ∀ m : Nat, ((BitVec.ofNat 64 m).toNat : Int) = ((m % 18446744073709551616 : Nat) : Int) := fun m => by rw [BitVec.toNat_ofNat]
  have e : flatV numS (wordsN 4 n) = .agg ⟨[.int .u64 ((BitVec.ofNat 64 n).toNat : Int), .int .u64 ((BitVec.ofNat 64 (n / 2 ^ 64)).toNat : Int), .int .u64 ((BitVec.ofNat 64 (n / 2 ^ 64 / 2 ^ 64)).toNat : Int), .int .u64 ((BitVec.ofNat 64 (n / 2 ^ 64 / 2 ^ 64 / 2 ^ 64)).toNat : Int)]⟩ := by rw [wordsN_eq]; rfl
  rw [e, h, h, h, h]
  unfold numV w64
  simp only [Nat.div_div_eq_div_mul, ← Nat.pow_add, Nat.mul_zero, Nat.pow_zero, Nat.div_one, Nat.mul_one, Nat.reduceMul, Nat.reduceAdd]
theorem flat_wide (n : Nat) : flatV wideS (wordsN 8 n) = wideV n := by
  have h : ∀ m : Nat, ((BitVec.ofNat 64 m).toNat : Int) = ((m % 18446744073709551616 : Nat) : Int) := fun m => by rw [BitVec.toNat_ofNat]
  have e : flatV wideS (wordsN 8 n) = .agg ⟨[.int .u64 ((BitVec.ofNat 64 n).toNat : Int), .int .u64 ((BitVec.ofNat 64 (n / 2 ^ 64)).toNat : Int), .int .u64 ((BitVec.ofNat 64 (n / 2 ^ 64 / 2 ^ 64)).toNat : Int), .int .u64 ((BitVec.ofNat 64 (n / 2 ^ 64 / 2 ^ 64 / 2 ^ 64)).toNat : Int),
    .int .u64 ((BitVec.ofNat 64 (n / 2 ^ 64 / 2 ^ 64 / 2 ^ 64 / 2 ^ 64)).toNat : Int), .int .u64 ((BitVec.ofNat 64 (n / 2 ^ 64 / 2 ^ 64 / 2 ^ 64 / 2 ^ 64 / 2 ^ 64)).toNat : Int), .int .u64 ((BitVec.ofNat 64 (n / 2 ^ 64 / 2 ^ 64 / 2 ^ 64 / 2 ^ 64 / 2 ^ 64 / 2 ^ 64)).toNat : Int), .int .u64 ((BitVec.ofNat 64 (n / 2 ^ 64 / 2 ^ 64 / 2 ^ 64 / 2 ^ 64 / 2 ^ 64 / 2 ^ 64 / 2 ^ 64)).toNat : Int)]⟩ := by rw [wordsN_eq]; rfl
  rw [e, h, h, h, h, h, h, h, h]
  unfold wideV w64
  simp only [Nat.div_div_eq_div_mul, ← Nat.pow_add, Nat.mul_zero, Nat.pow_zero, Nat.div_one, Nat.mul_one, Nat.reduceMul, Nat.reduceAdd]
theorem vl_val (a b c d : BitVec 64) : vl (toI .u64 a) (toI .u64 b) (toI .u64 c) (toI .u64 d) = valN [a, b, c, d] := by
  show vl (a.toNat : Int) (b.toNat : Int) (c.toNat : Int) (d.toNat : Int) = _
  unfold vl
  simp only [valN, Int.toNat_natCast]
  omega
theorem of4 {xs : List (BitVec 64)} (h : numS.wfT xs) : ∃ a b c d, xs = [a, b, c, d] := by
  have h := h.1
  match xs, h with
  | [a, b, c, d], _ => exact ⟨a, b, c, d, rfl⟩
theorem flat_u64 (n : Nat) (h : n < 2 ^ 64) : flatV u64S (BitVec.ofNat 64 n) = u64 n := by
  show Value.int .u64 ((BitVec.ofNat 64 n).toNat : Int) = _
  rw [BitVec.toNat_ofNat, Nat.mod_eq_of_lt h]

noncomputable def addF : HL [numS, numS] → SV := fun xs => .tup [.val numS (wordsN 4 (valN xs.1 + valN xs.2.1)), .val u64S (BitVec.ofNat 64 ((valN xs.1 + valN xs.2.1) / 2 ^ 256))]
noncomputable def subF : HL [numS, numS] → SV := fun xs => .tup [.val numS (wordsN 4 (valN xs.1 + 2 ^ 256 - valN xs.2.1)), .val u64S (bif decide (valN xs.1 < valN xs.2.1) then 1#64 else 0#64)]
noncomputable def cmpF : HL [numS, numS] → SV := fun xs => .av (.val i64S (cmpI (valN xs.1) (valN xs.2.1)))
noncomputable def mulF : HL [numS, numS] → SV := fun xs => .av (.val wideS (wordsN 8 (valN xs.1 * valN xs.2.1)))
noncomputable def shiftF : HL [numS, i64S] → SV := fun xs => .av (.val numS (wordsN 4 (shiftN (valN xs.1) xs.2.1)))
noncomputable def lenF : HL [numS] → SV := fun xs => .av (.val i64S ((blen (valN xs.1) : Nat) : Int))

theorem lt4 {xs : List (BitVec 64)} (h : numS.wfT xs) : valN xs < 2 ^ 256 := by
  have h1 := valN_lt xs
  rw [show xs.length = 4 from h.1] at h1
  exact h1
theorem ok2 {s t : Sh} {x : s.T} {y : t.T} (h1 : s.flat = true ∧ s.wfT x) (h2 : t.flat = true ∧ t.wfT y) : flatOk (.tup [.val s x, .val t y]) := by
  intro v hv
  rcases List.mem_cons.1 hv with rfl | hv
  · exact h1
  · rcases List.mem_cons.1 hv with rfl | hv
    · exact h2
    · cases hv
theorem add_ok : COK Tryd.prog GL 42 (conT [numS, numS] addF) := by
  refine conT_ok (fun xs hw => ?_) (fun _ => rfl)
  obtain ⟨x, y, ⟨⟩⟩ := xs
  have h1 := lt4 hw.1
  have h2 := lt4 hw.2.1
  obtain ⟨a, b, c, d, rfl⟩ := of4 hw.1
  obtain ⟨a', b', c', d', rfl⟩ := of4 hw.2.1
  refine PC_of_wcon add_con rfl (ok2 ⟨rfl, num_wf _⟩ ⟨rfl, trivial⟩) rfl ?_
  show some (Value.tuple ⟨[numV (vl _ _ _ _ + vl _ _ _ _), u64 ((vl _ _ _ _ + vl _ _ _ _) / 2 ^ 256)]⟩) = some (.tuple ⟨[flatV numS _, flatV u64S _]⟩)
  rw [flat_num, flat_u64 _ (by simp only at h1 h2 ⊢; omega), vl_val, vl_val]
theorem sub_ok : COK Tryd.prog GL 30 (conT [numS, numS] subF) := by
  refine conT_ok (fun xs hw => ?_) (fun _ => rfl)
  obtain ⟨x, y, ⟨⟩⟩ := xs
  obtain ⟨a, b, c, d, rfl⟩ := of4 hw.1
  obtain ⟨a', b', c', d', rfl⟩ := of4 hw.2.1
  refine PC_of_wcon sub_con rfl (ok2 ⟨rfl, num_wf _⟩ ⟨rfl, trivial⟩) rfl ?_
  show some (Value.tuple ⟨[numV (vl _ _ _ _ + 2 ^ 256 - vl _ _ _ _), u64 (if vl _ _ _ _ < vl _ _ _ _ then 1 else 0)]⟩) = some (.tuple ⟨[flatV numS _, flatV u64S _]⟩)
  rw [flat_num, vl_val, vl_val]
  show some (Value.tuple ⟨[numV _, u64 (if valN [a, b, c, d] < valN [a', b', c', d'] then 1 else 0)]⟩) = some (.tuple ⟨[numV _, flatV u64S (bif decide (valN [a, b, c, d] < valN [a', b', c', d']) then 1#64 else 0#64)]⟩)
  by_cases h : valN [a, b, c, d] < valN [a', b', c', d']
  · rw [if_pos h, decide_eq_true h]; rfl
  · rw [if_neg h, decide_eq_false h]; rfl
theorem cmp_ok : COK Tryd.prog GL 18 (conT [numS, numS] cmpF) := by
  refine conT_ok (fun xs hw => ?_) (fun _ => rfl)
  obtain ⟨x, y, ⟨⟩⟩ := xs
  obtain ⟨a, b, c, d, rfl⟩ := of4 hw.1
  obtain ⟨a', b', c', d', rfl⟩ := of4 hw.2.1
  refine PC_of_wcon cmp_con rfl ⟨rfl, trivial⟩ rfl ?_
  show some (Value.int .i64 (cmpI (vl _ _ _ _) (vl _ _ _ _))) = some (Value.int .i64 _)
  rw [vl_val, vl_val]; rfl
theorem mul_ok : COK Tryd.prog GL 51 (conT [numS, numS] mulF) := by
  refine conT_ok (fun xs hw => ?_) (fun _ => rfl)
  obtain ⟨x, y, ⟨⟩⟩ := xs
  obtain ⟨a, b, c, d, rfl⟩ := of4 hw.1
  obtain ⟨a', b', c', d', rfl⟩ := of4 hw.2.1
  refine PC_of_wcon mul_con rfl ⟨rfl, wide_wf _⟩ rfl ?_
  show some (wideV (vl _ _ _ _ * vl _ _ _ _)) = some (flatV wideS _)
  rw [flat_wide, vl_val, vl_val]
theorem shift_ok : COK Tryd.prog GL 34 (conT [numS, i64S] shiftF) := by
  refine conT_ok (fun xs hw => ?_) (fun _ => rfl)
  obtain ⟨x, y, ⟨⟩⟩ := xs
  obtain ⟨a, b, c, d, rfl⟩ := of4 hw.1
  refine PC_of_wcon shift_con rfl ⟨rfl, num_wf _⟩ rfl ?_
  show some (numV (shiftN (vl _ _ _ _) _)) = some (flatV numS _)
  rw [flat_num, vl_val]; rfl
theorem len_ok : COK Tryd.prog GL 31 (conT [numS] lenF) := by
  refine conT_ok (fun xs hw => ?_) (fun _ => rfl)
  obtain ⟨x, ⟨⟩⟩ := xs
  obtain ⟨a, b, c, d, rfl⟩ := of4 hw.1
  refine PC_of_wcon len_con rfl ⟨rfl, trivial⟩ rfl ?_
  show some (Value.int .i64 ((blen (vl _ _ _ _) : Nat) : Int)) = some (Value.int .i64 _)
  rw [vl_val]; rfl
end Go.Proofs.YtghmfiandllpfaaDoor.Lb
namespace Go.Proofs.YtghmfiandllpfaaDoor.Lb
open Go.Ty
abbrev C9 := Go.Ab.AExit
/-! ## The types of this part -/
def shT : STab := [(3, i64S), (4, .bool), (5, u8S), (22, u64S), (24, numS), (56, .arr 32 u8S), (91, wideS), (107, u64S)]
theorem shT_ok : shT.all (fun (t, s) => shChk Tryd.prog s (.inl t)) = true := by kernel_rfl
noncomputable def ct0 : CTab := [(42, conT [numS, numS] addF), (30, conT [numS, numS] subF), (18, conT [numS, numS] cmpF), (51, conT [numS, numS] mulF), (34, conT [numS, i64S] shiftF), (31, conT [numS] lenF)]
theorem ct0_ok : ∀ p ∈ ct0, COK Tryd.prog GL p.1 p.2 := CCons add_ok (CCons sub_ok (CCons cmp_ok (CCons mul_ok (CCons shift_ok (CCons len_ok CNil)))))
noncomputable abbrev Y0 : Go.Ty.Cx := mkX Tryd.prog GL shT ct0
end Go.Proofs.YtghmfiandllpfaaDoor.Lb
namespace Go.Proofs.YtghmfiandllpfaaDoor.Lb
open Go.Ty

theorem valN_bit : ∀ (xs : List (BitVec 64)) (w b : Nat), b < 64 → valN xs / 2 ^ (64 * w + b) % 2 = (rd u64S xs w).toNat / 2 ^ b % 2
  | [], w, b, _ => by
    have : rd u64S [] w = 0#64 := by cases w <;> rfl
    rw [this]; simp [valN]
  | x :: r, 0, b, hb => by
    show (x.toNat + 2 ^ 64 * valN r) / 2 ^ (64 * 0 + b) % 2 = x.toNat / 2 ^ b % 2
    have e : 2 ^ 64 * valN r = 2 ^ b * (2 * (2 ^ (63 - b) * valN r)) := by
      rw [← Nat.mul_assoc, ← Nat.mul_assoc, ← Nat.pow_succ, ← Nat.pow_add]
      congr 2; omega
    rw [Nat.mul_zero, Nat.zero_add, e, Nat.add_mul_div_left _ _ (Nat.two_pow_pos b), Nat.add_mul_mod_self_left]
  | x :: r, w + 1, b, hb => by
    show (x.toNat + 2 ^ 64 * valN r) / 2 ^ (64 * (w + 1) + b) % 2 = (rd u64S r w).toNat / 2 ^ b % 2
    rw [← valN_bit r w b hb, show 64 * (w + 1) + b = 64 + (64 * w + b) by omega, Nat.pow_add, ← Nat.div_div_eq_div_mul]
    have := x.isLt
    rw [show (x.toNat + 2 ^ 64 * valN r) / 2 ^ 64 = valN r by omega]
/-- the bit of a number -/
def bitB (V : Nat) (i : Int) : BitVec 64 := bif decide (i < 0) || decide (255 < i) then 0#64 else BitVec.ofNat 64 (V / 2 ^ i.toNat % 2)
theorem and_one (x : BitVec 64) (b : Nat) : x >>> b &&& 1#64 = BitVec.ofNat 64 (x.toNat / 2 ^ b % 2) := by
  apply BitVec.eq_of_toNat_eq
  have h := x.isLt
  have h2 : x.toNat / 2 ^ b &&& 1 = x.toNat / 2 ^ b % 2 := Nat.and_one_is_mod _
  rw [BitVec.toNat_and, BitVec.toNat_ushiftRight, Nat.shiftRight_eq_div_pow, BitVec.toNat_ofNat, BitVec.toNat_ofNat]
  rw [show 1 % 2 ^ 64 = 1 from rfl, h2]
  omega
theorem ifB_of {b : Bool} {p q : Prop} (h1 : b = true → p) (h2 : b = false → q) : ifB b p q := by cases b <;> simp_all [ifB]
theorem dmd_of {b : Bool} {p : Prop} (h1 : b = true) (h2 : p) : dmd b p := by subst h1; exact h2
noncomputable def bitF : HL [numS, i64S] → SV := fun xs => .av (.val u64S (bitB (valN xs.1) xs.2.1))
theorem bit_fw (a : List (BitVec 64)) (i : Int) (P : SV → Prop) : FW Y0 Tryd.f83.ntmps (LTab.look []) Tryd.f83 (argsOf [numS, i64S] (a, i, ())) P =
  ifB (decide (i < 0)) (P (SV.av (AV.val (Sh.int IntKind.u64) 0#64)))
  (ifB (decide (255 < i)) (P (SV.av (AV.val (Sh.int IntKind.u64) 0#64)))
    (dmd (decide (0 ≤ IntKind.i64.wrap (i.tdiv 64)) && decide (IntKind.i64.wrap (i.tdiv 64) < 4))
      (P
        (SV.av
          (AV.val (Sh.int IntKind.u64)
            (rd (Sh.int IntKind.u64) a (IntKind.i64.wrap (i.tdiv 64)).toNat >>> (BitVec.ofInt 64 (i.tmod 64)).toNat &&&
              1#64)))))) := by kernel_rfl
theorem bit_ok : COK Tryd.prog GL 83 (conT [numS, i64S] bitF) := by
  refine conT_ok (fun xs hw => ?_) (fun _ => rfl)
  obtain ⟨a, i, ⟨⟩⟩ := xs
  have i_ : Int := i
  refine PC_of_fw (t := []) shT_ok ct0_ok mixed Tryd.func83 rfl (by kernel_rfl) (by kernel_rfl) loopsNil rfl ?_
  rw [bit_fw]
  have hi : ∀ (i : Int), ifB (decide (i < 0)) ((fun r' => r' = SV.av (.val u64S (bitB (valN a) i))) (SV.av (AV.val (Sh.int IntKind.u64) 0#64)))
    (ifB (decide (255 < i)) ((fun r' => r' = SV.av (.val u64S (bitB (valN a) i))) (SV.av (AV.val (Sh.int IntKind.u64) 0#64)))
    (dmd (decide (0 ≤ IntKind.i64.wrap (i.tdiv 64)) && decide (IntKind.i64.wrap (i.tdiv 64) < 4))
      ((fun r' => r' = SV.av (.val u64S (bitB (valN a) i))) (SV.av (AV.val (Sh.int IntKind.u64) (rd (Sh.int IntKind.u64) a (IntKind.i64.wrap (i.tdiv 64)).toNat >>> (BitVec.ofInt 64 (i.tmod 64)).toNat &&& 1#64)))))) := by
    intro i
    refine ifB_of (fun h => ?_) (fun h0 => ifB_of (fun h => ?_) (fun h1 => ?_))
    · simp only [bitB, h, Bool.true_or, cond_true]
    · simp only [bitB, h, Bool.or_true, cond_true]
    · simp only [decide_eq_false_iff_not, Int.not_lt] at h0 h1
      obtain ⟨n, rfl⟩ : ∃ n : Nat, i = n := ⟨i.toNat, by omega⟩
      have e1 : (n : Int).tdiv 64 = ((n / 64 : Nat) : Int) := rfl
      have e2 : (n : Int).tmod 64 = ((n % 64 : Nat) : Int) := rfl
      have e3 : IntKind.i64.wrap ((n / 64 : Nat) : Int) = ((n / 64 : Nat) : Int) := IntWalk.i64_in _ (by omega)
      rw [e1, e2, e3]
      refine dmd_of (by simp; omega) ?_
      show SV.av _ = SV.av _
      have e4 : (BitVec.ofInt 64 ((n % 64 : Nat) : Int)).toNat = n % 64 := by
        rw [show BitVec.ofInt 64 ((n % 64 : Nat) : Int) = BitVec.ofNat 64 (n % 64) from rfl, BitVec.toNat_ofNat]; omega
      rw [e4, Int.toNat_natCast, and_one, ← valN_bit a (n / 64) (n % 64) (by omega), show 64 * (n / 64) + n % 64 = n by omega]
      have e5 : bitB (valN a) (n : Int) = BitVec.ofNat 64 (valN a / 2 ^ n % 2) := by
        unfold bitB
        rw [show decide ((n : Int) < 0) = false from decide_eq_false (by omega), show decide ((255 : Int) < n) = false from decide_eq_false (by omega)]
        rfl
      rw [e5]
  exact hi i
end Go.Proofs.YtghmfiandllpfaaDoor.Lb
namespace Go.Proofs.YtghmfiandllpfaaDoor.Lb
open Go.Ty

noncomputable def ct1 : CTab := (83, conT [numS, i64S] bitF) :: ct0
theorem ct1_ok : ∀ p ∈ ct1, COK Tryd.prog GL p.1 p.2 := CCons bit_ok ct0_ok
noncomputable abbrev Y1 : Go.Ty.Cx := mkX Tryd.prog GL shT ct1
/-! ## LimbBits -/
theorem blen_one {V k : Nat} (h1 : 2 ^ k ≤ V) (h2 : V < 2 ^ (k + 1)) : blen V = k + 1 := by
  have h0 : V ≠ 0 := by have := Nat.two_pow_pos k; omega
  unfold blen
  rw [if_neg h0]
  have := (Nat.log2_eq_iff h0).2 ⟨h1, h2⟩
  omega
theorem mod_succ (V k : Nat) : V % 2 ^ (k + 1) = V % 2 ^ k + 2 ^ k * (V / 2 ^ k % 2) := by
  rw [Nat.pow_succ, Nat.mod_mul]
theorem bit_in {V k : Nat} (h : k < 256) : bitB V (k : Int) = BitVec.ofNat 64 (V / 2 ^ k % 2) := by
  unfold bitB
  rw [show decide ((k : Int) < 0) = false from decide_eq_false (by omega), show decide ((255 : Int) < k) = false from decide_eq_false (by omega)]
  rfl
end Go.Proofs.YtghmfiandllpfaaDoor.Lb
