import Derived.Test.YtninlahlmjhmhaaNc
namespace Go.Proofs.Ytninlahlmjhmhaa
open Go.Ty

noncomputable def ct1 : CTab := (34, conT [numS, i64S] bitF) :: ct0
theorem ct1_ok : ∀ p ∈ ct1, COK Try.prog noGl p.1 p.2 := CCons bit_ok ct0_ok
noncomputable abbrev Y1 : Go.Ty.Cx := mkX Try.prog noGl shT ct1
/-! ## LimbBits -/
abbrev items9 : List It := [.p 1 2000 numS, .p 3 2001 numS, .v 4 i64S, .v 5 i64S]
abbrev ret9 : List It := [.v 2 .bool]
abbrev out9 : List (Nat × List It) := [(0, [.p 1 2000 numS, .p 3 2001 numS, .v 4 i64S])]
noncomputable def b9 : Code := Try.f9.body.getD .skip
/-- what the loop over the bits does -/
def Q9 : LQ items9 ret9 out9 := fun x _ Kx => x.2.1 = wordsN 4 0 ∧ x.2.2.1 = 0 ∧ x.2.2.2.1 = 0 ∧ (numS.wfT x.1 → Kx.1 (x.1, x.1, ((blen (valN x.1) : Nat) : Int), ())) ∧ numS.wfT x.1
theorem round9 (a s : List (BitVec 64)) (n i : Int) (Kn : HI items9 → Prop) (Kr : HI ret9 → Prop) (Kx : HP out9) : roundT (W Y1 Try.f9.ntmps (LTab.look [(3, ptL items9 ret9 out9 Q9)]) (bodyAt b9 3)) items9 ret9 out9 (a, s, n, i, ()) Kn Kr Kx =
  ifB (decide (i < 256))
  (ifB (decide (bitB (valN a) i = 1#64))
      (ifB
            (!decide
                (BitVec.ofNat 64
                    ((valN s + valN (wordsN 4 (shiftN (valN [1#64, 0#64, 0#64, 0#64]) i))) / 2 ^ 256) =
                  0#64))
            (Kr (false, PUnit.unit))
            (Kn
              (a, wordsN 4 (valN s + valN (wordsN 4 (shiftN (valN [1#64, 0#64, 0#64, 0#64]) i))),
                IntKind.i64.wrap (i + 1), IntKind.i64.wrap (i + 1), PUnit.unit)))
      (Kn (a, s, n, IntKind.i64.wrap (i + 1), PUnit.unit)))
  (Kx.1 (a, s, n, PUnit.unit)) := by kernel_rfl
theorem fw9 (a : List (BitVec 64)) (P : SV → Prop) : FW Y1 Try.f9.ntmps (LTab.look [(3, ptL items9 ret9 out9 Q9)]) Try.f9 (argsOf [numS] (a, ())) P =
  Q9 (a, [0#64, 0#64, 0#64, 0#64], 0, 0, PUnit.unit) (fun y => P (SV.av (AV.val Sh.bool y.1)))
  (fun y =>
    ifB (teq (Sh.arr 4 (Sh.int IntKind.u64)) y.2.1 y.1)
      (ifB (decide (((blen (valN y.1) : Nat) : Int) = y.2.2.1))
          (ifB (decide (bitB (valN y.1) (-1) = 0#64))
              (P (SV.av (AV.val Sh.bool (decide (bitB (valN y.1) 256 = 0#64)))))
              (P (SV.av (AV.val Sh.bool false))))
          (P (SV.av (AV.val Sh.bool false))))
      (P (SV.av (AV.val Sh.bool false))),
    PUnit.unit) := by kernel_rfl

theorem blen_one {V k : Nat} (h1 : 2 ^ k ≤ V) (h2 : V < 2 ^ (k + 1)) : blen V = k + 1 := by
  have h0 : V ≠ 0 := by have := Nat.two_pow_pos k; omega
  unfold blen
  rw [if_neg h0]
  have := (Nat.log2_eq_iff h0).2 ⟨h1, h2⟩
  omega
theorem mod_succ (V k : Nat) : V % 2 ^ (k + 1) = V % 2 ^ k + 2 ^ k * (V / 2 ^ k % 2) := by
  rw [Nat.pow_succ, Nat.mod_mul]
theorem bit_in {V k : Nat} (h : k < 256) : bitB V (k : Int) = BitVec.ofNat 64 (V / 2 ^ k % 2) := by
  unfold bitB
  rw [show decide ((k : Int) < 0) = false from decide_eq_false (by omega), show decide ((255 : Int) < k) = false from decide_eq_false (by omega)]
  rfl
set_option maxRecDepth 100000 in
theorem bits9 (a : List (BitVec 64)) (hv : valN a < 2 ^ 256) (Kr : HI ret9 → Prop) (Kx : HP out9) (hK : Kx.1 (a, wordsN 4 (valN a), ((blen (valN a) : Nat) : Int), ())) :
    ∀ (m k : Nat), k + m = 256 → untl (W Y1 Try.f9.ntmps (LTab.look [(3, ptL items9 ret9 out9 Q9)]) (bodyAt b9 3)) items9 ret9 out9 (m + 1) (a, wordsN 4 (valN a % 2 ^ k), ((blen (valN a % 2 ^ k) : Nat) : Int), (k : Int), ()) Kr Kx := by
  intro m
  induction m with
  | zero =>
    intro k hk
    have hk : k = 256 := by omega
    subst hk
    rw [untl_succ, round9, Nat.mod_eq_of_lt hv]
    exact ifB_of (fun h => by simp at h) (fun _ => hK)
  | succ m ih =>
    intro k hk
    rw [untl_succ, round9]
    have hlt : k < 256 := by omega
    have hp : 2 ^ (k + 1) ≤ 2 ^ 256 := Nat.pow_le_pow_right (by omega) (by omega)
    have hwr : IntKind.i64.wrap ((k : Int) + 1) = ((k + 1 : Nat) : Int) := by rw [IntWalk.i64_in _ (by omega)]; omega
    have hs : valN (wordsN 4 (valN a % 2 ^ k)) = valN a % 2 ^ k := by
      rw [valN_words]
      have h1 := Nat.mod_lt (valN a) (Nat.two_pow_pos k)
      exact Nat.mod_eq_of_lt (Nat.lt_of_lt_of_le h1 (Nat.pow_le_pow_right (by omega) (by omega)))
    have hsh : valN (wordsN 4 (shiftN (valN [1#64, 0#64, 0#64, 0#64]) (k : Int))) = 2 ^ k := by
      have e1 : valN [1#64, 0#64, 0#64, 0#64] = 1 := rfl
      have e2 : shiftN 1 (k : Int) = 2 ^ k := by
        unfold shiftN upN
        rw [if_neg (by omega), if_neg (by omega), if_pos (by omega), Int.toNat_natCast, Nat.one_mul]
      rw [e1, e2, valN_words]
      exact Nat.mod_eq_of_lt (Nat.pow_lt_pow_right (by omega) (by omega))
    have hm := mod_succ (valN a) k
    refine ifB_of (fun _ => ?_) (fun h => by simp at h; omega)
    rw [bit_in hlt, hs, hsh, hwr]
    have ih := ih (k + 1) (by omega)
    have hl := Nat.mod_lt (valN a) (Nat.two_pow_pos k)
    have h2 : valN a / 2 ^ k % 2 < 2 := Nat.mod_lt _ (by omega)
    refine ifB_of (fun h => ?_) (fun h => ?_)
    · have hb : valN a / 2 ^ k % 2 = 1 := by
        have h := of_decide_eq_true h
        have := congrArg BitVec.toNat h
        rw [BitVec.toNat_ofNat] at this
        have e : (1#64).toNat = 1 := rfl
        rw [e] at this
        omega
      rw [hb, Nat.mul_one] at hm
      rw [hm, blen_one (k := k) (by omega) (by rw [Nat.pow_succ]; omega)] at ih
      have h0 : (valN a % 2 ^ k + 2 ^ k) / 2 ^ 256 = 0 := Nat.div_eq_of_lt (by rw [Nat.pow_succ] at hp; omega)
      rw [h0]
      exact ifB_of (fun h => by simp at h) (fun _ => ih)
    · have hb : valN a / 2 ^ k % 2 = 0 := by
        have h := of_decide_eq_false h
        by_cases h1 : valN a / 2 ^ k % 2 = 1
        · rw [h1] at h; exact absurd rfl h
        · omega
      rw [hb, Nat.mul_zero, Nat.add_zero] at hm
      rw [hm] at ih
      exact ih
theorem loop9 : ∀ x Kr Kx, Q9 x Kr Kx → ∃ n, untl (W Y1 Try.f9.ntmps (LTab.look [(3, ptL items9 ret9 out9 Q9)]) (bodyAt b9 3)) items9 ret9 out9 n x Kr Kx := by
  rintro ⟨a, s, n, i, ⟨⟩⟩ Kr Kx ⟨h1, h2, h3, h4, h5⟩
  have h1 : s = wordsN 4 0 := h1
  have h2 : n = 0 := h2
  have h3 : i = 0 := h3
  subst h1 h2 h3
  have e : wordsN 4 (valN a) = a := by have := words_valN a; rw [show a.length = 4 from h5.1] at this; exact this
  have := bits9 a (lt4 h5) Kr Kx (by rw [e]; exact h4 h5) 256 0 rfl
  rw [Nat.pow_zero, Nat.mod_one] at this
  exact ⟨257, this⟩
theorem walk9 (xs : HL [numS]) (h : okHL [numS] xs) : PC (bx Try.prog noGl) 9 (argsOf [numS] xs) (.av (.val .bool true)) := by
  obtain ⟨a, ⟨⟩⟩ := xs
  refine PC_of_fw (t := [(3, ptL items9 ret9 out9 Q9)]) shT_ok ct1_ok mixed Try.func9 (c := b9) rfl (by kernel_rfl) (by kernel_rfl) (loopsOK (by kernel_rfl) (LTCons (loop_of shT_ok ct1_ok mixed ?_ (by kernel_rfl) loop9) LTNil)) rfl ?_
  · exact loopsOK (by kernel_rfl) (LTCons (fun h => by cases h) LTNil)
  · rw [fw9]
    refine ⟨rfl, rfl, rfl, fun hw => ?_, h.1⟩
    refine ifB_of (fun _ => ifB_of (fun _ => ifB_of (fun _ => ?_) (fun h => ?_)) (fun h => ?_)) (fun h => ?_)
    · show SV.av _ = SV.av _
      rfl
    · exact absurd h (by simp [bitB])
    · exact absurd h (by simp)
    · exact absurd h (by simp [teq])
end Go.Proofs.Ytninlahlmjhmhaa
