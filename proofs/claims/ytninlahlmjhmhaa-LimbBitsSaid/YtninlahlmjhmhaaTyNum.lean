import Derived.Test.YtninlahlmjhmhaaTySh
import Derived.IntWalk
namespace Go.Ty

section
variable {k : IntKind}
theorem ofInt_nat {n : Nat} (x : BitVec n) : BitVec.ofInt n (x.toNat : Int) = x := by
  rw [BitVec.ofInt_natCast, BitVec.ofNat_toNat, BitVec.setWidth_eq]
theorem wrap_toNat (hw : ∀ z : Int, k.wrap z = z % ((2 ^ k.bits : Nat) : Int)) (x : BitVec k.bits) : k.wrap (x.toNat : Int) = x.toNat := by
  rw [hw, ← Int.natCast_emod, Nat.mod_eq_of_lt x.isLt]
theorem uar_sound (hw : ∀ z : Int, k.wrap z = z % ((2 ^ k.bits : Nat) : Int)) {op : BinOp} {x y z : BitVec k.bits} (h : uar op x y = some z) (hnz : op = .quo ∨ op = .rem → y ≠ 0#k.bits) :
    Ab.ibin op k x.toNat y.toNat = some (.int k z.toNat) := by
  have hyn : op = .quo ∨ op = .rem → ¬ ((y.toNat : Int) = 0) := by
    intro ho e
    apply hnz ho
    apply BitVec.eq_of_toNat_eq
    simpa using e
  cases op <;> simp only [uar, Option.some.injEq, reduceCtorEq] at h <;> subst h <;> simp only [Ab.ibin]
  · rw [hw, BitVec.toNat_add, Int.natCast_emod, Int.natCast_add]
  · have hy := y.isLt
    have e : ((x.toNat : Int) - y.toNat) % ((2 ^ k.bits : Nat) : Int) = (((2 ^ k.bits - y.toNat + x.toNat) % 2 ^ k.bits : Nat) : Int) := by
      rw [Int.natCast_emod, Int.natCast_add, Int.ofNat_sub (Nat.le_of_lt hy)]
      rw [show (((2 ^ k.bits : Nat) : Int) - (y.toNat : Int) + (x.toNat : Int)) = ((x.toNat : Int) - y.toNat) + ((2 ^ k.bits : Nat) : Int) by omega]
      rw [Int.add_emod_right]
    rw [hw, BitVec.toNat_sub, e]
  · rw [hw, BitVec.toNat_mul, Int.natCast_emod, Int.natCast_mul]
  · rw [if_neg (hyn (.inl rfl)), hw, BitVec.toNat_udiv, ← Int.ofNat_tdiv, ← Int.natCast_emod, Nat.mod_eq_of_lt]
    exact Nat.lt_of_le_of_lt (Nat.div_le_self _ _) x.isLt
  · rw [if_neg (hyn (.inr rfl)), BitVec.toNat_umod, ← Int.ofNat_tmod]
  · rw [ofInt_nat, ofInt_nat, wrap_toNat hw]
  · rw [ofInt_nat, ofInt_nat, wrap_toNat hw]
  · rw [ofInt_nat, ofInt_nat, wrap_toNat hw]
  · rw [ofInt_nat, ofInt_nat, wrap_toNat hw]
theorem ucm_sound {op : BinOp} {n : Nat} {x y : BitVec n} {b : Bool} (h : ucm op x y = some b) : Ab.ibin op k x.toNat y.toNat = some (.bool b) := by
  cases op <;> simp only [ucm, Option.some.injEq, reduceCtorEq] at h <;> subst h <;> simp only [Ab.ibin, Option.some.injEq, Value.bool.injEq]
  · exact (decide_eq_decide (p := (x.toNat : Int) = (y.toNat : Int))).2 ⟨fun h => BitVec.eq_of_toNat_eq (by omega), fun h => by rw [h]⟩
  · exact congrArg (fun b => !b) ((decide_eq_decide (p := (x.toNat : Int) = (y.toNat : Int))).2 ⟨fun h => BitVec.eq_of_toNat_eq (by omega), fun h => by rw [h]⟩)
  · exact decide_eq_decide.2 (by rw [BitVec.lt_def]; omega)
  · exact decide_eq_decide.2 (by rw [BitVec.le_def]; omega)
  · exact decide_eq_decide.2 (by rw [BitVec.lt_def]; omega)
  · exact decide_eq_decide.2 (by rw [BitVec.le_def]; omega)
theorem iar_sound {op : BinOp} {x y z : Int} (h : iar k op x y = some z) (hnz : op = .quo ∨ op = .rem → y ≠ 0) : Ab.ibin op k x y = some (.int k z) := by
  cases op <;> simp only [iar, Option.some.injEq, reduceCtorEq] at h <;> subst h <;> simp only [Ab.ibin, iand, ior, ixor, iandn]
  · rw [if_neg (hnz (.inl rfl))]
  · rw [if_neg (hnz (.inr rfl))]
theorem icm_sound {op : BinOp} {x y : Int} {b : Bool} (h : icm op x y = some b) : Ab.ibin op k x y = some (.bool b) := by
  cases op <;> simp only [icm, Option.some.injEq, reduceCtorEq] at h <;> subst h <;> simp only [Ab.ibin, Option.some.injEq, Value.bool.injEq]
  all_goals rfl
end
theorem hw8 (z : Int) : IntKind.u8.wrap z = z % ((2 ^ IntKind.u8.bits : Nat) : Int) := by simp [IntKind.wrap, IntKind.bits, IntKind.signed]
theorem hw16 (z : Int) : IntKind.u16.wrap z = z % ((2 ^ IntKind.u16.bits : Nat) : Int) := by simp [IntKind.wrap, IntKind.bits, IntKind.signed]
theorem hw32 (z : Int) : IntKind.u32.wrap z = z % ((2 ^ IntKind.u32.bits : Nat) : Int) := by simp [IntKind.wrap, IntKind.bits, IntKind.signed]
theorem hw64 (z : Int) : IntKind.u64.wrap z = z % ((2 ^ IntKind.u64.bits : Nat) : Int) := by simp [IntKind.wrap, IntKind.bits, IntKind.signed]

theorem tar_sound {op : BinOp} : ∀ {k : IntKind} {x y z : IT k}, tar op k x y = some z → (op = .quo ∨ op = .rem → tnz k y = true) → Ab.ibin op k (toI k x) (toI k y) = some (.int k (toI k z))
  | .i8, x, y, z, h, hz | .i16, x, y, z, h, hz | .i32, x, y, z, h, hz | .i64, x, y, z, h, hz => iar_sound h fun ho => by
    have := hz ho
    simp only [tnz, Bool.not_eq_true', decide_eq_false_iff_not] at this
    exact this
  | .u8, x, y, z, h, hz => uar_sound (k := .u8) hw8 h fun ho => by have := hz ho; simp only [tnz, Bool.not_eq_true', decide_eq_false_iff_not] at this; exact this
  | .u16, x, y, z, h, hz => uar_sound (k := .u16) hw16 h fun ho => by have := hz ho; simp only [tnz, Bool.not_eq_true', decide_eq_false_iff_not] at this; exact this
  | .u32, x, y, z, h, hz => uar_sound (k := .u32) hw32 h fun ho => by have := hz ho; simp only [tnz, Bool.not_eq_true', decide_eq_false_iff_not] at this; exact this
  | .u64, x, y, z, h, hz => uar_sound (k := .u64) hw64 h fun ho => by have := hz ho; simp only [tnz, Bool.not_eq_true', decide_eq_false_iff_not] at this; exact this
theorem tcm_sound {op : BinOp} : ∀ {k : IntKind} {x y : IT k} {b : Bool}, tcm op k x y = some b → Ab.ibin op k (toI k x) (toI k y) = some (.bool b)
  | .i8, _, _, _, h | .i16, _, _, _, h | .i32, _, _, _, h | .i64, _, _, _, h => icm_sound h
  | .u8, _, _, _, h => ucm_sound h
  | .u16, _, _, _, h => ucm_sound h
  | .u32, _, _, _, h => ucm_sound h
  | .u64, _, _, _, h => ucm_sound h

section
variable {k : IntKind}
theorem ush_sound (hw : ∀ z : Int, k.wrap z = z % ((2 ^ k.bits : Nat) : Int)) {op : BinOp} {x z : BitVec k.bits} {c : Nat} (h : ush op x c = some z) : Ab.ishift op k x.toNat (c : Int) = some (.int k z.toNat) := by
  have hc : ¬ ((c : Int) < 0) := by omega
  cases op <;> simp only [ush, Option.some.injEq, reduceCtorEq] at h <;> subst h <;> simp only [Ab.ishift, if_neg hc, Int.toNat_natCast]
  · have e2 : ((2 : Int) ^ (min c k.bits)) = ((2 ^ (min c k.bits) : Nat) : Int) := by simp
    rw [hw, BitVec.toNat_shiftLeft, Nat.shiftLeft_eq, e2, ← Int.natCast_mul, ← Int.natCast_emod]
    congr 3
    by_cases h : c ≤ k.bits
    · rw [Nat.min_eq_left h]
    · rw [Nat.min_eq_right (by omega)]
      have : (2 : Nat) ^ c = 2 ^ k.bits * 2 ^ (c - k.bits) := by rw [← Nat.pow_add]; congr 1; omega
      rw [this, ← Nat.mul_assoc, Nat.mul_right_comm, Nat.mul_mod_left, Nat.mul_mod_left]
  · have e2 : ((2 : Int) ^ (min c k.bits)) = ((2 ^ (min c k.bits) : Nat) : Int) := by simp
    rw [e2, BitVec.toNat_ushiftRight, Nat.shiftRight_eq_div_pow]
    have : ((x.toNat : Int)).fdiv ((2 ^ (min c k.bits) : Nat) : Int) = ((x.toNat / 2 ^ (min c k.bits) : Nat) : Int) := by
      rw [Int.fdiv_eq_ediv_of_nonneg _ (Int.natCast_nonneg _)]; rfl
    rw [this]
    congr 2
    by_cases h : c ≤ k.bits
    · rw [Nat.min_eq_left h]
    · rw [Nat.min_eq_right (by omega)]
      rw [Nat.div_eq_of_lt x.isLt, Nat.div_eq_of_lt (Nat.lt_of_lt_of_le x.isLt (Nat.pow_le_pow_right (by omega) (by omega)))]
theorem ish_sound {op : BinOp} {x z : Int} {c : Nat} (h : ish k op x c = some z) : Ab.ishift op k x (c : Int) = some (.int k z) := by
  have hc : ¬ ((c : Int) < 0) := by omega
  cases op <;> simp only [ish, Option.some.injEq, reduceCtorEq] at h <;> subst h <;> simp only [Ab.ishift, if_neg hc, Int.toNat_natCast, ishl, ishr]
end
theorem tcnt_eq : ∀ {j : IntKind} {y : IT j}, tcok j y = true → (tcnt j y : Int) = toI j y
  | .i8, y, h | .i16, y, h | .i32, y, h | .i64, y, h => by simp only [tcok, decide_eq_true_eq] at h; simp only [tcnt, toI]; omega
  | .u8, _, _ | .u16, _, _ | .u32, _, _ | .u64, _, _ => rfl
theorem tsh_sound {op : BinOp} {c : Nat} : ∀ {k : IntKind} {x z : IT k}, tsh op k x c = some z → Ab.ishift op k (toI k x) (c : Int) = some (.int k (toI k z))
  | .i8, _, _, h | .i16, _, _, h | .i32, _, _, h | .i64, _, _, h => ish_sound h
  | .u8, _, _, h => ush_sound (k := .u8) hw8 h
  | .u16, _, _, h => ush_sound (k := .u16) hw16 h
  | .u32, _, _, h => ush_sound (k := .u32) hw32 h
  | .u64, _, _, h => ush_sound (k := .u64) hw64 h

section
variable {k : IntKind}
theorem uneg_eq (hw : ∀ z : Int, k.wrap z = z % ((2 ^ k.bits : Nat) : Int)) (x : BitVec k.bits) : k.wrap (0 - (x.toNat : Int)) = ((-x).toNat : Int) := by
  rw [hw, BitVec.toNat_neg, Int.natCast_emod, Int.ofNat_sub (Nat.le_of_lt x.isLt)]
  rw [show (((2 ^ k.bits : Nat) : Int) - (x.toNat : Int)) = (0 - (x.toNat : Int)) + ((2 ^ k.bits : Nat) : Int) by omega, Int.add_emod_right]
theorem unot_eq (hw : ∀ z : Int, k.wrap z = z % ((2 ^ k.bits : Nat) : Int)) (hs : k.signed = false) (x : BitVec k.bits) :
    k.wrap (BitVec.ofInt k.bits (if k.signed = true then -1 else k.max) ^^^ BitVec.ofInt k.bits (x.toNat : Int)).toNat = ((~~~x).toNat : Int) := by
  have hm : BitVec.ofInt k.bits k.max = BitVec.allOnes k.bits := by
    apply BitVec.eq_of_toNat_eq
    have e : k.max = (((2 ^ k.bits - 1 : Nat)) : Int) := by
      unfold IntKind.max
      rw [hs]
      have : 0 < 2 ^ k.bits := Nat.two_pow_pos _
      simp only [Bool.false_eq_true, if_false]
      rw [Int.ofNat_sub this]; simp
    rw [e, BitVec.ofInt_natCast, BitVec.toNat_ofNat, BitVec.toNat_allOnes]
    exact Nat.mod_eq_of_lt (by have : 0 < 2 ^ k.bits := Nat.two_pow_pos _; omega)
  rw [hs]
  simp only [Bool.false_eq_true, if_false]
  rw [hm, ofInt_nat, BitVec.allOnes_xor, wrap_toNat hw]
end
theorem tneg_sound : ∀ {k : IntKind} {x : IT k}, Ab.aun .neg (.int k (toI k x)) = some (.int k (toI k (tneg k x)))
  | .i8, _ | .i16, _ | .i32, _ | .i64, _ => rfl
  | .u8, x => congrArg (fun z => some (Value.int .u8 z)) (uneg_eq (k := .u8) hw8 x)
  | .u16, x => congrArg (fun z => some (Value.int .u16 z)) (uneg_eq (k := .u16) hw16 x)
  | .u32, x => congrArg (fun z => some (Value.int .u32 z)) (uneg_eq (k := .u32) hw32 x)
  | .u64, x => congrArg (fun z => some (Value.int .u64 z)) (uneg_eq (k := .u64) hw64 x)
theorem tnot_sound : ∀ {k : IntKind} {x : IT k}, Ab.aun .xor (.int k (toI k x)) = some (.int k (toI k (tnot k x)))
  | .i8, _ | .i16, _ | .i32, _ | .i64, _ => rfl
  | .u8, x => congrArg (fun z => some (Value.int .u8 z)) (unot_eq (k := .u8) hw8 rfl x)
  | .u16, x => congrArg (fun z => some (Value.int .u16 z)) (unot_eq (k := .u16) hw16 rfl x)
  | .u32, x => congrArg (fun z => some (Value.int .u32 z)) (unot_eq (k := .u32) hw32 rfl x)
  | .u64, x => congrArg (fun z => some (Value.int .u64 z)) (unot_eq (k := .u64) hw64 rfl x)

theorem setW_eq {n m : Nat} (x : BitVec n) : ((x.setWidth m).toNat : Int) = (x.toNat : Int) % ((2 ^ m : Nat) : Int) := by
  rw [BitVec.toNat_setWidth, Int.natCast_emod]
theorem ofI_eq {m : Nat} (x : Int) : ((BitVec.ofInt m x).toNat : Int) = x % ((2 ^ m : Nat) : Int) := by
  rw [BitVec.toNat_ofInt]
  have : 0 < ((2 ^ m : Nat) : Int) := by exact_mod_cast Nat.two_pow_pos m
  have := Int.emod_nonneg x (show ((2 ^ m : Nat) : Int) ≠ 0 by omega)
  omega
theorem uto_sound {n : Nat} {x : BitVec n} : ∀ {k : IntKind}, k.wrap (x.toNat : Int) = toI k (uto x k)
  | .i8 | .i16 | .i32 => rfl
  | .i64 => by
    unfold uto
    cases h : Nat.blt n 64 with
    | false => rfl
    | true =>
      have h : n < 64 := by simpa using h
      have hx := x.isLt
      have : 2 ^ n ≤ 2 ^ 63 := Nat.pow_le_pow_right (by omega) (by omega)
      exact IntWalk.i64_in _ (by omega)
  | .u8 => by rw [hw8]; exact (setW_eq x).symm
  | .u16 => by rw [hw16]; exact (setW_eq x).symm
  | .u32 => by rw [hw32]; exact (setW_eq x).symm
  | .u64 => by rw [hw64]; exact (setW_eq x).symm
theorem ito_sound {x : Int} : ∀ {k : IntKind}, k.wrap x = toI k (ito x k)
  | .i8 | .i16 | .i32 | .i64 => rfl
  | .u8 => by rw [hw8]; exact (ofI_eq x).symm
  | .u16 => by rw [hw16]; exact (ofI_eq x).symm
  | .u32 => by rw [hw32]; exact (ofI_eq x).symm
  | .u64 => by rw [hw64]; exact (ofI_eq x).symm
theorem tto_sound : ∀ {j : IntKind} {x : IT j} {k : IntKind}, k.wrap (toI j x) = toI k (tto j x k)
  | .i8, _, _ | .i16, _, _ | .i32, _, _ | .i64, _, _ => ito_sound
  | .u8, _, _ => uto_sound
  | .u16, _, _ => uto_sound
  | .u32, _, _ => uto_sound
  | .u64, _, _ => uto_sound
theorem toI_inj : ∀ {k : IntKind} {x y : IT k}, toI k x = toI k y → x = y
  | .i8, _, _, h | .i16, _, _, h | .i32, _, _, h | .i64, _, _, h => h
  | .u8, _, _, h | .u16, _, _, h | .u32, _, _, h | .u64, _, _, h => BitVec.eq_of_toNat_eq (Int.ofNat_inj.1 h)
theorem toI_wf : ∀ {k : IntKind} {x : IT k}, Ab.wfcB (.int k (toI k x)) = true
  | .i8, _ | .i16, _ | .i32, _ | .i64, _ => rfl
  | .u8, x => by have := x.isLt; simp only [Ab.wfcB, toI, IntKind.signed, IntKind.max, IntKind.bits, Bool.false_or, Bool.and_eq_true, decide_eq_true_eq]; simp; omega
  | .u16, x => by have := x.isLt; simp only [Ab.wfcB, toI, IntKind.signed, IntKind.max, IntKind.bits, Bool.false_or, Bool.and_eq_true, decide_eq_true_eq]; simp; omega
  | .u32, x => by have := x.isLt; simp only [Ab.wfcB, toI, IntKind.signed, IntKind.max, IntKind.bits, Bool.false_or, Bool.and_eq_true, decide_eq_true_eq]; simp; omega
  | .u64, x => by have := x.isLt; simp only [Ab.wfcB, toI, IntKind.signed, IntKind.max, IntKind.bits, Bool.false_or, Bool.and_eq_true, decide_eq_true_eq]; simp; omega
end Go.Ty
