import Derived.Test.YtninlahlmjhmhaaTyUse
namespace Go.Ty
open Go.Ab (WfA WfT WfV wfcB)

theorem cells_wfc : ∀ {s : Sh} {x : s.T}, s.flat = true → ∀ c ∈ cellsOf s x, wfcB c = true
  | .int k, x, _, c, hc => by
    have hc : c = .int k (toI k x) := by simpa [cellsOf] using hc
    subst hc
    refine Ab.wfcB_int.2 fun h => ?_
    have big : ∀ {n : Nat} (x : BitVec n), 0 ≤ (x.toNat : Int) ∧ (x.toNat : Int) ≤ 2 ^ n - 1 := by
      intro n x
      have h1 := x.isLt
      refine ⟨by omega, ?_⟩
      have : ((2 ^ n : Nat) : Int) = 2 ^ n := by simp
      rw [← this]; omega
    cases k <;> first | exact big (show BitVec _ from x) | cases h
  | .bool, x, _, c, hc => by have hc : c = .bool x := by simpa [cellsOf] using hc
                             subst hc; rfl
  | .str, x, _, c, hc => by have hc : c = .string (strOf x) := by simpa [cellsOf] using hc
                            subst hc; rfl
  | .non k, x, _, c, hc => by
    have hc : c = nonV k := by simpa [cellsOf] using hc
    subst hc
    cases k <;> rfl
  | .unit, x, _, c, hc => by simp [cellsOf] at hc
  | .pair a b, x, hf, c, hc => by
    simp only [Sh.flat, Bool.and_eq_true] at hf
    rcases List.mem_append.1 (show c ∈ cellsOf a x.1 ++ cellsOf b x.2 from hc) with h | h
    · exact cells_wfc hf.1 c h
    · exact cells_wfc hf.2 c h
  | .arr n s, xs, hf, c, hc => by
    simp only [Sh.flat] at hf
    obtain ⟨l, hl, hc⟩ := List.mem_flatten.1 (show c ∈ (List.map (cellsOf s) xs).flatten from hc)
    obtain ⟨x, _, rfl⟩ := List.mem_map.1 hl
    exact cells_wfc hf c hc
  | .sl _, _, hf, _, _ => by cases hf
theorem flatV_wf {s : Sh} {x : s.T} (hf : s.flat = true) : WfT (flatV s x) := by
  unfold flatV mkV
  cases ha : s.isAgg with
  | true => exact fun c hc => cells_wfc hf c (by simpa [Ab.vcells] using hc)
  | false =>
    simp only [cond_false]
    cases s with
    | unit => simp [Sh.isAgg] at ha
    | pair _ _ => simp [Sh.isAgg] at ha
    | arr _ _ => simp [Sh.isAgg] at ha
    | sl _ => cases hf
    | int k => exact Ab.WfT.of_cell (cells_wfc (s := .int k) (x := x) rfl _ (by simp [cellsOf]))
    | bool => exact Ab.WfT.of_cell (cells_wfc (s := .bool) (x := x) rfl _ (by simp [cellsOf]))
    | str => exact Ab.WfT.of_cell (cells_wfc (s := .str) (x := x) rfl _ (by simp [cellsOf]))
    | non k => exact Ab.WfT.of_cell (cells_wfc (s := .non k) (x := x) rfl _ (by simp [cellsOf]))
theorem flatL_wf : ∀ {ss : List Sh} {xs : HL ss}, ss.all Sh.flat = true → WfA (flatL ss xs)
  | [], _, _ => by intro x hx; simp [flatL] at hx
  | s :: r, x, hf => by
    simp only [List.all_cons, Bool.and_eq_true] at hf
    intro v hv
    rcases List.mem_cons.1 (show v ∈ flatV s x.1 :: flatL r x.2 from hv) with rfl | hv
    · exact flatV_wf hf.1
    · exact flatL_wf hf.2 v hv
/-- a contract of the machine below, for typed data -/
theorem PC_of_wcon {P : Program} {f : FuncId} {gl : Nat → Option ((s : Sh) × s.T)} {g : List Value → Option Value} {ss : List Sh} {xs : HL ss} {r : SV} (hw : Ab.WCon P f g) (hf : ss.all Sh.flat = true) (hr : flatOk r) (hn : noRefS r = true) (hg : g (flatL ss xs) = some (flatS r)) :
    PC (bx P gl) f (argsOf ss xs) r := PC_of_wcall hf hr hn (flatL_wf hf) (hw _ _ hg)

/-! ## Numbers of words -/
abbrev u64S : Sh := .int .u64
abbrev u8S : Sh := .int .u8
abbrev i64S : Sh := .int .i64
abbrev numS : Sh := .arr 4 u64S
abbrev wideS : Sh := .arr 8 u64S
def wordsN : Nat → Nat → List (BitVec 64)
  | 0, _ => []
  | k + 1, n => BitVec.ofNat 64 n :: wordsN k (n / 2 ^ 64)
def valN : List (BitVec 64) → Nat
  | [] => 0
  | x :: r => x.toNat + 2 ^ 64 * valN r
theorem wordsN_len : ∀ (k n : Nat), (wordsN k n).length = k
  | 0, _ => rfl
  | k + 1, n => by simp [wordsN, wordsN_len k]
theorem valN_words : ∀ (k n : Nat), valN (wordsN k n) = n % 2 ^ (64 * k)
  | 0, n => by simp [wordsN, valN, Nat.mod_one]
  | k + 1, n => by
    simp only [wordsN, valN, valN_words k, BitVec.toNat_ofNat]
    rw [show 64 * (k + 1) = 64 + 64 * k by omega, Nat.pow_add, Nat.mod_mul]
theorem valN_lt : ∀ (xs : List (BitVec 64)), valN xs < 2 ^ (64 * xs.length)
  | [] => by simp [valN]
  | x :: r => by
    have h1 := valN_lt r
    have h2 := x.isLt
    simp only [valN, List.length_cons]
    rw [show 64 * (r.length + 1) = 64 + 64 * r.length by omega, Nat.pow_add]
    have : 2 ^ 64 * (valN r + 1) ≤ 2 ^ 64 * 2 ^ (64 * r.length) := Nat.mul_le_mul_left _ h1
    rw [Nat.mul_add] at this
    omega
theorem words_valN : ∀ (xs : List (BitVec 64)), wordsN xs.length (valN xs) = xs
  | [] => rfl
  | x :: r => by
    have h2 := x.isLt
    have e1 : (x.toNat + 2 ^ 64 * valN r) / 2 ^ 64 = valN r := by omega
    have e2 : BitVec.ofNat 64 (x.toNat + 2 ^ 64 * valN r) = x := by
      apply BitVec.eq_of_toNat_eq
      rw [BitVec.toNat_ofNat]; omega
    simp only [List.length_cons, wordsN, valN, e1, e2, words_valN r]
theorem wordsN_mod : ∀ (k n : Nat), wordsN k (n % 2 ^ (64 * k)) = wordsN k n
  | 0, _ => rfl
  | k + 1, n => by
    simp only [wordsN]
    have e : n % 2 ^ (64 * (k + 1)) = n % 2 ^ 64 + 2 ^ 64 * (n / 2 ^ 64 % 2 ^ (64 * k)) := by
      rw [show 64 * (k + 1) = 64 + 64 * k by omega, Nat.pow_add, Nat.mod_mul]
    rw [e]
    have h : n % 2 ^ 64 < 2 ^ 64 := Nat.mod_lt _ (by omega)
    have e1 : (n % 2 ^ 64 + 2 ^ 64 * (n / 2 ^ 64 % 2 ^ (64 * k))) / 2 ^ 64 = n / 2 ^ 64 % 2 ^ (64 * k) := by omega
    rw [e1, wordsN_mod k]
    congr 1
    apply BitVec.eq_of_toNat_eq
    rw [BitVec.toNat_ofNat, BitVec.toNat_ofNat]; omega
theorem valN_inj {k : Nat} {xs ys : List (BitVec 64)} (hx : xs.length = k) (hy : ys.length = k) (h : valN xs = valN ys) : xs = ys := by
  rw [← words_valN xs, ← words_valN ys, hx, hy, h]
theorem num_wf (n : Nat) : numS.wfT (wordsN 4 n) := ⟨wordsN_len 4 n, fun _ _ => trivial⟩
theorem wide_wf (n : Nat) : wideS.wfT (wordsN 8 n) := ⟨wordsN_len 8 n, fun _ _ => trivial⟩
end Go.Ty
