import Derived.Test.YtehgaljcpbaplaaWA8
namespace Go.Proofs.Ytehgaljcpbaplaa
open Go.Ty
open Go.Ab (TRel VRel LRel CRel Sim locA capRel)

/-! ## A nil slice that is handed back is one with nothing in it -/
/-! ## One step of wrap -/
def rW (f : List (BitVec 8) → List (BitVec 8)) (a : Nat) (out : List (BitVec 8)) : List (BitVec 8) :=
  (f (out.take 8 ++ (out.drop a).take 8)).take 8 ++ ((out.drop 8).take (a - 8) ++ ((f (out.take 8 ++ (out.drop a).take 8)).drop 8 ++ out.drop (a + 8)))
theorem split4 {out : List (BitVec 8)} {a : Nat} (h1 : 8 ≤ a) (h2 : a + 8 ≤ out.length) : ∃ h m z r : List (BitVec 8), out = h ++ (m ++ (z ++ r)) ∧ h.length = 8 ∧ m.length = a - 8 ∧ z.length = 8 := by
  refine ⟨out.take 8, (out.drop 8).take (a - 8), ((out.drop 8).drop (a - 8)).take 8, ((out.drop 8).drop (a - 8)).drop 8, ?_, ?_, ?_, ?_⟩
  · rw [List.take_append_drop, List.take_append_drop, List.take_append_drop]
  · rw [List.length_take]; omega
  · rw [List.length_take, List.length_drop]; omega
  · rw [List.length_take, List.length_drop, List.length_drop]; omega
section
variable {h m z r : List (BitVec 8)} {a : Nat} (hh : h.length = 8) (hm : m.length = a - 8) (hz : z.length = 8) (ha : 8 ≤ a)
include hh in
theorem p_take : (h ++ (m ++ (z ++ r))).take 8 = h := List.take_left' hh
include hh in
theorem p_drop : (h ++ (m ++ (z ++ r))).drop 8 = m ++ (z ++ r) := List.drop_left' hh
include hh hm ha in
theorem p_dropa : (h ++ (m ++ (z ++ r))).drop a = z ++ r := by
  have e : a = 8 + (a - 8) := by omega
  rw [e, ← List.drop_drop, p_drop hh]
  exact List.drop_left' hm
include hh hm hz ha in
theorem p_drope : (h ++ (m ++ (z ++ r))).drop (a + 8) = r := by
  rw [← List.drop_drop, p_dropa hh hm ha]
  exact List.drop_left' hz
include hh hm hz ha in
theorem rW_parts (f : List (BitVec 8) → List (BitVec 8)) : rW f a (h ++ (m ++ (z ++ r))) = (f (h ++ z)).take 8 ++ (m ++ ((f (h ++ z)).drop 8 ++ r)) := by
  unfold rW
  rw [p_drope hh hm hz ha, p_dropa hh hm ha, p_drop hh, p_take hh, List.take_left' hz, List.take_left' hm]
end
theorem rW_len {f : List (BitVec 8) → List (BitVec 8)} {a : Nat} {out : List (BitVec 8)} (h1 : 8 ≤ a) (h2 : a + 8 ≤ out.length) (hf : ∀ b : List (BitVec 8), b.length = 16 → (f b).length = 16) : (rW f a out).length = out.length := by
  obtain ⟨h, m, z, r, rfl, hh, hm, hz⟩ := split4 h1 h2
  rw [rW_parts hh hm hz h1]
  have := hf (h ++ z) (by rw [List.length_append, hh, hz])
  simp only [List.length_append, List.length_take, List.length_drop, this, hh, hm, hz]
  omega
theorem rW_rW {f g : List (BitVec 8) → List (BitVec 8)} {a : Nat} {out : List (BitVec 8)} (h1 : 8 ≤ a) (h2 : a + 8 ≤ out.length) (hf : ∀ b : List (BitVec 8), b.length = 16 → (f b).length = 16) (hg : ∀ b : List (BitVec 8), b.length = 16 → g (f b) = b) : rW g a (rW f a out) = out := by
  obtain ⟨h, m, z, r, rfl, hh, hm, hz⟩ := split4 h1 h2
  have e := hf (h ++ z) (by rw [List.length_append, hh, hz])
  rw [rW_parts hh hm hz h1, rW_parts (a := a) (by rw [List.length_take, e]; rfl) hm (by rw [List.length_drop, e]) h1, List.take_append_drop, hg _ (by rw [List.length_append, hh, hz]), List.take_left' hh, List.drop_left' hh]
noncomputable def fT (w : WW) (R : Int) (t : Nat) (b : List (BitVec 8)) : List (BitVec 8) := (encW w R b).set 7 (rd u8S (encW w R b) 7 ^^^ BitVec.ofNat 8 t)
noncomputable def gT (w : WW) (R : Int) (t : Nat) (b : List (BitVec 8)) : List (BitVec 8) := decW w R (b.set 7 (rd u8S b 7 ^^^ BitVec.ofNat 8 t))
theorem fT_len (w : WW) (R : Int) (t : Nat) (b : List (BitVec 8)) (h : b.length = 16) : (fT w R t b).length = 16 := by unfold fT; rw [List.length_set, encW_len h]
theorem gT_len (w : WW) (R : Int) (t : Nat) (b : List (BitVec 8)) (h : b.length = 16) : (gT w R t b).length = 16 := by unfold gT; rw [decW_len (by rw [List.length_set]; exact h)]
theorem set7 {c : List (BitVec 8)} (h : c.length = 16) (x : BitVec 8) : (c.set 7 (rd u8S c 7 ^^^ x)).set 7 (rd u8S (c.set 7 (rd u8S c 7 ^^^ x)) 7 ^^^ x) = c := by
  obtain ⟨b0, b1, b2, b3, b4, b5, b6, b7, b8, b9, b10, b11, b12, b13, b14, b15, hb⟩ := Go.Gfn.of16 h
  subst hb
  show [b0, b1, b2, b3, b4, b5, b6, b7 ^^^ x ^^^ x, b8, b9, b10, b11, b12, b13, b14, b15] = [b0, b1, b2, b3, b4, b5, b6, b7, b8, b9, b10, b11, b12, b13, b14, b15]
  rw [BitVec.xor_assoc, BitVec.xor_self, BitVec.xor_zero]
theorem gT_fT (w : WW) (R : Int) (t : Nat) (b : List (BitVec 8)) (h : b.length = 16) : gT w R t (fT w R t b) = b := by
  unfold gT fT
  rw [set7 (encW_len h), dec_encW h]
theorem fT_gT (w : WW) (R : Int) (t : Nat) (b : List (BitVec 8)) (h : b.length = 16) : fT w R t (gT w R t b) = b := by
  unfold gT fT
  rw [enc_decW (by rw [List.length_set]; exact h), set7 h]
/-! ## All steps -/
def atW (n t : Nat) : Nat := ((t - 1) % n + 1) * 8
theorem atW_lt {n t : Nat} (h : 1 ≤ n) : 8 ≤ atW n t ∧ atW n t + 8 ≤ 8 + 8 * n := by
  unfold atW
  have := Nat.mod_lt (t - 1) (show 0 < n by omega)
  omega
noncomputable def wN (w : WW) (R : Int) (n : Nat) : Nat → List (BitVec 8) → List (BitVec 8)
  | 0, out => out
  | k + 1, out => rW (fT w R (k + 1)) (atW n (k + 1)) (wN w R n k out)
noncomputable def uN (w : WW) (R : Int) (n : Nat) : Nat → List (BitVec 8) → List (BitVec 8)
  | 0, out => out
  | k + 1, out => uN w R n k (rW (gT w R (k + 1)) (atW n (k + 1)) out)
section
variable (w : WW) (R : Int) (n : Nat) (hn : 1 ≤ n)
include hn
theorem wN_len : ∀ k out, List.length out = 8 + 8 * n → List.length (wN w R n k out) = 8 + 8 * n
  | 0, out, h => h
  | k + 1, out, h => by
    have ih := wN_len k out h
    unfold wN
    rw [rW_len (atW_lt hn).1 (by rw [ih]; exact (atW_lt hn).2) (fT_len w R _), ih]
theorem uN_len : ∀ k out, List.length out = 8 + 8 * n → List.length (uN w R n k out) = 8 + 8 * n
  | 0, out, h => h
  | k + 1, out, h => by
    unfold uN
    refine uN_len k _ ?_
    rw [rW_len (atW_lt hn).1 (by rw [h]; exact (atW_lt hn).2) (gT_len w R _), h]
theorem uN_wN : ∀ k out, List.length out = 8 + 8 * n → uN w R n k (wN w R n k out) = out
  | 0, out, h => rfl
  | k + 1, out, h => by
    unfold uN wN
    rw [rW_rW (atW_lt hn).1 (by rw [wN_len w R n hn k out h]; exact (atW_lt hn).2) (fT_len w R _) (gT_fT w R _)]
    exact uN_wN k out h
theorem wN_uN : ∀ k out, List.length out = 8 + 8 * n → wN w R n k (uN w R n k out) = out
  | 0, out, h => rfl
  | k + 1, out, h => by
    unfold uN wN
    have hl : List.length (rW (gT w R (k + 1)) (atW n (k + 1)) out) = 8 + 8 * n := by rw [rW_len (atW_lt hn).1 (by rw [h]; exact (atW_lt hn).2) (gT_len w R _), h]
    rw [wN_uN k _ hl, rW_rW (atW_lt hn).1 (by rw [h]; exact (atW_lt hn).2) (gT_len w R _) (fT_gT w R _)]
end
/-! ## What the code says is that -/
theorem at_wrap {n t : Nat} (h1 : 1 ≤ n) (h2 : n ≤ 8) (h3 : 1 ≤ t) (h4 : t ≤ 48) :
    IntKind.i64.wrap (IntKind.i64.wrap ((IntKind.i64.wrap (((t : Nat) : Int) - 1)).tmod ((n : Nat) : Int) + 1) * 8) = ((atW n t : Nat) : Int) := by
  have hm := Nat.mod_lt (t - 1) (show 0 < n by omega)
  have e : (((t - 1 : Nat) : Int)).tmod ((n : Nat) : Int) = (((t - 1) % n : Nat) : Int) := (Int.ofNat_tmod _ _).symm
  rw [IntWalk.i64_in (((t : Nat) : Int) - 1) (by omega), show ((t : Nat) : Int) - 1 = ((t - 1 : Nat) : Int) by omega, e]
  generalize hq : (t - 1) % n = q at *
  rw [IntWalk.i64_in (((q : Nat) : Int) + 1) (by omega), IntWalk.i64_in _ (by omega)]
  unfold atW
  rw [hq]
  omega
section
variable {out : List (BitVec 8)} {a : Nat}
theorem in16 (h1 : 8 ≤ a) (h2 : a + 8 ≤ out.length) :
    over (over (List.replicate 16 0#8) 0 (List.take 8 (List.take out.length (List.drop 0 out)))) 8 (List.take 8 (List.take (out.length - a) (List.drop (0 + a) out))) = out.take 8 ++ (out.drop a).take 8 := by
  rw [List.drop_zero, List.take_length, Nat.zero_add, List.take_of_length_le (l := List.drop a out) (by rw [List.length_drop]; exact Nat.le_refl _)]
  have e1 : (out.take 8).length = 8 := by rw [List.length_take]; omega
  have e2 : ((out.drop a).take 8).length = 8 := by rw [List.length_take, List.length_drop]; omega
  generalize out.take 8 = x at *
  generalize (out.drop a).take 8 = y at *
  unfold over
  rw [e1, e2]
  rw [show List.take 0 (List.replicate 16 0#8) = [] from rfl, List.nil_append, List.take_left' e1, List.drop_of_length_le (by rw [List.length_append, e1]; exact Nat.le_refl _), List.append_nil]
theorem out16 (h1 : 8 ≤ a) (h2 : a + 8 ≤ out.length) {B : List (BitVec 8)} (hB : B.length = 16) :
    over (over out 0 (List.take out.length (List.take 8 (List.drop 0 B)))) (0 + a) (List.take (out.length - a) (List.take 8 (List.drop 8 B))) = B.take 8 ++ ((out.drop 8).take (a - 8) ++ (B.drop 8 ++ out.drop (a + 8))) := by
  have e1 : (B.take 8).length = 8 := by rw [List.length_take]; omega
  have e2 : (B.drop 8).length = 8 := by rw [List.length_drop]; omega
  rw [List.drop_zero, Nat.zero_add, List.take_of_length_le (l := List.drop 8 B) (by omega), List.take_of_length_le (l := List.drop 8 B) (by omega), List.take_of_length_le (l := List.take 8 B) (by omega)]
  generalize B.take 8 = x at *
  generalize B.drop 8 = y at *
  obtain ⟨h, m, z, r, rfl, hh, hm, hz⟩ := split4 h1 h2
  have o1 : over (h ++ (m ++ (z ++ r))) 0 x = x ++ (m ++ (z ++ r)) := by
    unfold over
    rw [List.take_zero, List.nil_append, e1, Nat.zero_add, p_drop hh]
  rw [o1, p_drop hh, List.take_left' hm, p_drope hh hm hz h1]
  unfold over
  rw [e2, p_drope e1 hm hz h1]
  have t1 : (x ++ (m ++ (z ++ r))).take a = x ++ m := by
    rw [← List.append_assoc]
    exact List.take_left' (by rw [List.length_append, e1, hm]; omega)
  rw [t1]
  simp only [List.append_assoc]
end
noncomputable abbrev Iwra : List It := [.p 2 2000 keyS, .r 6 2001 u8S, .v 8 i64S, .v 9 i64S]
noncomputable abbrev owra : List (Nat × List It) := [(2, [.r 6 2001 u8S])]
noncomputable def bwra : Code := Try.f24.body.getD .skip
noncomputable def Qwra : LQ Iwra [] owra := fun x _ Kx => ((1 ≤ x.1.2.1 ∧ x.1.2.1 < 15) ∧ (∃ n : Nat, x.2.2.1 = (n : Int) ∧ 1 ≤ n ∧ n ≤ 8 ∧ List.length x.2.1 = 8 + 8 * n) ∧ x.2.2.2.1 = 1) ∧ Kx.1 (wN x.1.1 x.1.2.1 x.2.2.1.toNat (6 * x.2.2.1.toNat) x.2.1, ())
noncomputable abbrev Lwra : LTab := [(11, ptL Iwra [] owra Qwra)]
noncomputable abbrev Iunw : List It := [.p 2 2000 keyS, .r 6 2001 u8S, .v 7 i64S, .v 8 i64S]
noncomputable abbrev ounw : List (Nat × List It) := [(0, [.r 6 2001 u8S])]
noncomputable def bunw : Code := Try.f30.body.getD .skip
noncomputable def Qunw : LQ Iunw [] ounw := fun x _ Kx => ((1 ≤ x.1.2.1 ∧ x.1.2.1 < 15) ∧ (∃ n : Nat, x.2.2.1 = (n : Int) ∧ 1 ≤ n ∧ n ≤ 8 ∧ List.length x.2.1 = 8 + 8 * n) ∧ x.2.2.2.1 = 6 * x.2.2.1) ∧ Kx.1 (uN x.1.1 x.1.2.1 x.2.2.1.toNat (6 * x.2.2.1.toNat) x.2.1, ())
noncomputable abbrev Lunw : LTab := [(6, ptL Iunw [] ounw Qunw)]
theorem roundwra (k : Sh.T keyS) (out : List (BitVec 8)) (n t : Int) (Kn : HI Iwra → Prop) (Kr : HI [] → Prop) (Kx : HP owra) : roundT (W A11 Try.f24.ntmps (LTab.look Lwra) (bodyAt bwra 11)) Iwra [] owra (k, out, n, t, ()) Kn Kr Kx =
 (  ifB (decide (t ≤ IntKind.i64.wrap (6 * n)))
    (dmd (!decide (n = 0))
      (dmd (decide (0 ≤ IntKind.i64.wrap (IntKind.i64.wrap ((IntKind.i64.wrap (t - 1)).tmod n + 1) * 8)))
        (dmd
          ((IntKind.i64.wrap (IntKind.i64.wrap ((IntKind.i64.wrap (t - 1)).tmod n + 1) * 8)).toNat.ble out.length &&
            out.length.ble out.length)
          (dmd (decide (1 ≤ k.2.1) && decide (k.2.1 < 15))
            (dmd (decide (0 ≤ IntKind.i64.wrap (IntKind.i64.wrap ((IntKind.i64.wrap (t - 1)).tmod n + 1) * 8)))
              (dmd
                ((IntKind.i64.wrap (IntKind.i64.wrap ((IntKind.i64.wrap (t - 1)).tmod n + 1) * 8)).toNat.ble out.length &&
                  out.length.ble out.length)
                ((0 = 0 ∧
                    out.length =
                      (over
                          (over out 0
                            (List.take out.length
                              (List.take 8
                                (List.drop 0
                                  ((encW k.1 k.2.1
                                        (over
                                          (over (List.replicate 16 0#8) 0
                                            (List.take 8 (List.take out.length (List.drop 0 out))))
                                          8
                                          (List.take 8
                                            (List.take
                                              (out.length -
                                                (IntKind.i64.wrap
                                                    (IntKind.i64.wrap ((IntKind.i64.wrap (t - 1)).tmod n + 1) * 8)).toNat)
                                              (List.drop
                                                (0 +
                                                  (IntKind.i64.wrap
                                                      (IntKind.i64.wrap ((IntKind.i64.wrap (t - 1)).tmod n + 1) *
                                                        8)).toNat)
                                                out))))).set
                                    7
                                    (rd (Sh.int IntKind.u8)
                                        (encW k.1 k.2.1
                                          (over
                                            (over (List.replicate 16 0#8) 0
                                              (List.take 8 (List.take out.length (List.drop 0 out))))
                                            8
                                            (List.take 8
                                              (List.take
                                                (out.length -
                                                  (IntKind.i64.wrap
                                                      (IntKind.i64.wrap ((IntKind.i64.wrap (t - 1)).tmod n + 1) *
                                                        8)).toNat)
                                                (List.drop
                                                  (0 +
                                                    (IntKind.i64.wrap
                                                        (IntKind.i64.wrap ((IntKind.i64.wrap (t - 1)).tmod n + 1) *
                                                          8)).toNat)
                                                  out)))))
                                        7 ^^^
                                      BitVec.ofInt 8 t))))))
                          (0 + (IntKind.i64.wrap (IntKind.i64.wrap ((IntKind.i64.wrap (t - 1)).tmod n + 1) * 8)).toNat)
                          (List.take
                            (out.length -
                              (IntKind.i64.wrap (IntKind.i64.wrap ((IntKind.i64.wrap (t - 1)).tmod n + 1) * 8)).toNat)
                            (List.take 8
                              (List.drop 8
                                ((encW k.1 k.2.1
                                      (over
                                        (over (List.replicate 16 0#8) 0
                                          (List.take 8 (List.take out.length (List.drop 0 out))))
                                        8
                                        (List.take 8
                                          (List.take
                                            (out.length -
                                              (IntKind.i64.wrap
                                                  (IntKind.i64.wrap ((IntKind.i64.wrap (t - 1)).tmod n + 1) * 8)).toNat)
                                            (List.drop
                                              (0 +
                                                (IntKind.i64.wrap
                                                    (IntKind.i64.wrap ((IntKind.i64.wrap (t - 1)).tmod n + 1) * 8)).toNat)
                                              out))))).set
                                  7
                                  (rd (Sh.int IntKind.u8)
                                      (encW k.1 k.2.1
                                        (over
                                          (over (List.replicate 16 0#8) 0
                                            (List.take 8 (List.take out.length (List.drop 0 out))))
                                          8
                                          (List.take 8
                                            (List.take
                                              (out.length -
                                                (IntKind.i64.wrap
                                                    (IntKind.i64.wrap ((IntKind.i64.wrap (t - 1)).tmod n + 1) * 8)).toNat)
                                              (List.drop
                                                (0 +
                                                  (IntKind.i64.wrap
                                                      (IntKind.i64.wrap ((IntKind.i64.wrap (t - 1)).tmod n + 1) *
                                                        8)).toNat)
                                                out)))))
                                      7 ^^^
                                    BitVec.ofInt 8 t)))))).length) ∧
                  Kn
                    (k,
                      over
                        (over out 0
                          (List.take out.length
                            (List.take 8
                              (List.drop 0
                                ((encW k.1 k.2.1
                                      (over
                                        (over (List.replicate 16 0#8) 0
                                          (List.take 8 (List.take out.length (List.drop 0 out))))
                                        8
                                        (List.take 8
                                          (List.take
                                            (out.length -
                                              (IntKind.i64.wrap
                                                  (IntKind.i64.wrap ((IntKind.i64.wrap (t - 1)).tmod n + 1) * 8)).toNat)
                                            (List.drop
                                              (0 +
                                                (IntKind.i64.wrap
                                                    (IntKind.i64.wrap ((IntKind.i64.wrap (t - 1)).tmod n + 1) * 8)).toNat)
                                              out))))).set
                                  7
                                  (rd (Sh.int IntKind.u8)
                                      (encW k.1 k.2.1
                                        (over
                                          (over (List.replicate 16 0#8) 0
                                            (List.take 8 (List.take out.length (List.drop 0 out))))
                                          8
                                          (List.take 8
                                            (List.take
                                              (out.length -
                                                (IntKind.i64.wrap
                                                    (IntKind.i64.wrap ((IntKind.i64.wrap (t - 1)).tmod n + 1) * 8)).toNat)
                                              (List.drop
                                                (0 +
                                                  (IntKind.i64.wrap
                                                      (IntKind.i64.wrap ((IntKind.i64.wrap (t - 1)).tmod n + 1) *
                                                        8)).toNat)
                                                out)))))
                                      7 ^^^
                                    BitVec.ofInt 8 t))))))
                        (0 + (IntKind.i64.wrap (IntKind.i64.wrap ((IntKind.i64.wrap (t - 1)).tmod n + 1) * 8)).toNat)
                        (List.take
                          (out.length -
                            (IntKind.i64.wrap (IntKind.i64.wrap ((IntKind.i64.wrap (t - 1)).tmod n + 1) * 8)).toNat)
                          (List.take 8
                            (List.drop 8
                              ((encW k.1 k.2.1
                                    (over
                                      (over (List.replicate 16 0#8) 0
                                        (List.take 8 (List.take out.length (List.drop 0 out))))
                                      8
                                      (List.take 8
                                        (List.take
                                          (out.length -
                                            (IntKind.i64.wrap
                                                (IntKind.i64.wrap ((IntKind.i64.wrap (t - 1)).tmod n + 1) * 8)).toNat)
                                          (List.drop
                                            (0 +
                                              (IntKind.i64.wrap
                                                  (IntKind.i64.wrap ((IntKind.i64.wrap (t - 1)).tmod n + 1) * 8)).toNat)
                                            out))))).set
                                7
                                (rd (Sh.int IntKind.u8)
                                    (encW k.1 k.2.1
                                      (over
                                        (over (List.replicate 16 0#8) 0
                                          (List.take 8 (List.take out.length (List.drop 0 out))))
                                        8
                                        (List.take 8
                                          (List.take
                                            (out.length -
                                              (IntKind.i64.wrap
                                                  (IntKind.i64.wrap ((IntKind.i64.wrap (t - 1)).tmod n + 1) * 8)).toNat)
                                            (List.drop
                                              (0 +
                                                (IntKind.i64.wrap
                                                    (IntKind.i64.wrap ((IntKind.i64.wrap (t - 1)).tmod n + 1) * 8)).toNat)
                                              out)))))
                                    7 ^^^
                                  BitVec.ofInt 8 t))))),
                      n, IntKind.i64.wrap (t + 1), PUnit.unit))))))))
    ((0 = 0 ∧ out.length = out.length) ∧ Kx.1 (out, PUnit.unit))) := by kernel_rfl
theorem roundunw (k : Sh.T keyS) (out : List (BitVec 8)) (n t : Int) (Kn : HI Iunw → Prop) (Kr : HI [] → Prop) (Kx : HP ounw) : roundT (W A11 Try.f30.ntmps (LTab.look Lunw) (bodyAt bunw 6)) Iunw [] ounw (k, out, n, t, ()) Kn Kr Kx =
 (  ifB (decide (1 ≤ t))
    (dmd (!decide (n = 0))
      (dmd (decide (0 ≤ IntKind.i64.wrap (IntKind.i64.wrap ((IntKind.i64.wrap (t - 1)).tmod n + 1) * 8)))
        (dmd
          ((IntKind.i64.wrap (IntKind.i64.wrap ((IntKind.i64.wrap (t - 1)).tmod n + 1) * 8)).toNat.ble out.length &&
            out.length.ble out.length)
          (dmd (decide (1 ≤ k.2.1) && decide (k.2.1 < 15))
            (dmd (decide (0 ≤ IntKind.i64.wrap (IntKind.i64.wrap ((IntKind.i64.wrap (t - 1)).tmod n + 1) * 8)))
              (dmd
                ((IntKind.i64.wrap (IntKind.i64.wrap ((IntKind.i64.wrap (t - 1)).tmod n + 1) * 8)).toNat.ble out.length &&
                  out.length.ble out.length)
                ((0 = 0 ∧
                    out.length =
                      (over
                          (over out 0
                            (List.take out.length
                              (List.take 8
                                (List.drop 0
                                  (decW k.1 k.2.1
                                    ((over
                                          (over (List.replicate 16 0#8) 0
                                            (List.take 8 (List.take out.length (List.drop 0 out))))
                                          8
                                          (List.take 8
                                            (List.take
                                              (out.length -
                                                (IntKind.i64.wrap
                                                    (IntKind.i64.wrap ((IntKind.i64.wrap (t - 1)).tmod n + 1) * 8)).toNat)
                                              (List.drop
                                                (0 +
                                                  (IntKind.i64.wrap
                                                      (IntKind.i64.wrap ((IntKind.i64.wrap (t - 1)).tmod n + 1) *
                                                        8)).toNat)
                                                out)))).set
                                      7
                                      (rd (Sh.int IntKind.u8)
                                          (over
                                            (over (List.replicate 16 0#8) 0
                                              (List.take 8 (List.take out.length (List.drop 0 out))))
                                            8
                                            (List.take 8
                                              (List.take
                                                (out.length -
                                                  (IntKind.i64.wrap
                                                      (IntKind.i64.wrap ((IntKind.i64.wrap (t - 1)).tmod n + 1) *
                                                        8)).toNat)
                                                (List.drop
                                                  (0 +
                                                    (IntKind.i64.wrap
                                                        (IntKind.i64.wrap ((IntKind.i64.wrap (t - 1)).tmod n + 1) *
                                                          8)).toNat)
                                                  out))))
                                          7 ^^^
                                        BitVec.ofInt 8 t)))))))
                          (0 + (IntKind.i64.wrap (IntKind.i64.wrap ((IntKind.i64.wrap (t - 1)).tmod n + 1) * 8)).toNat)
                          (List.take
                            (out.length -
                              (IntKind.i64.wrap (IntKind.i64.wrap ((IntKind.i64.wrap (t - 1)).tmod n + 1) * 8)).toNat)
                            (List.take 8
                              (List.drop 8
                                (decW k.1 k.2.1
                                  ((over
                                        (over (List.replicate 16 0#8) 0
                                          (List.take 8 (List.take out.length (List.drop 0 out))))
                                        8
                                        (List.take 8
                                          (List.take
                                            (out.length -
                                              (IntKind.i64.wrap
                                                  (IntKind.i64.wrap ((IntKind.i64.wrap (t - 1)).tmod n + 1) * 8)).toNat)
                                            (List.drop
                                              (0 +
                                                (IntKind.i64.wrap
                                                    (IntKind.i64.wrap ((IntKind.i64.wrap (t - 1)).tmod n + 1) * 8)).toNat)
                                              out)))).set
                                    7
                                    (rd (Sh.int IntKind.u8)
                                        (over
                                          (over (List.replicate 16 0#8) 0
                                            (List.take 8 (List.take out.length (List.drop 0 out))))
                                          8
                                          (List.take 8
                                            (List.take
                                              (out.length -
                                                (IntKind.i64.wrap
                                                    (IntKind.i64.wrap ((IntKind.i64.wrap (t - 1)).tmod n + 1) * 8)).toNat)
                                              (List.drop
                                                (0 +
                                                  (IntKind.i64.wrap
                                                      (IntKind.i64.wrap ((IntKind.i64.wrap (t - 1)).tmod n + 1) *
                                                        8)).toNat)
                                                out))))
                                        7 ^^^
                                      BitVec.ofInt 8 t))))))).length) ∧
                  Kn
                    (k,
                      over
                        (over out 0
                          (List.take out.length
                            (List.take 8
                              (List.drop 0
                                (decW k.1 k.2.1
                                  ((over
                                        (over (List.replicate 16 0#8) 0
                                          (List.take 8 (List.take out.length (List.drop 0 out))))
                                        8
                                        (List.take 8
                                          (List.take
                                            (out.length -
                                              (IntKind.i64.wrap
                                                  (IntKind.i64.wrap ((IntKind.i64.wrap (t - 1)).tmod n + 1) * 8)).toNat)
                                            (List.drop
                                              (0 +
                                                (IntKind.i64.wrap
                                                    (IntKind.i64.wrap ((IntKind.i64.wrap (t - 1)).tmod n + 1) * 8)).toNat)
                                              out)))).set
                                    7
                                    (rd (Sh.int IntKind.u8)
                                        (over
                                          (over (List.replicate 16 0#8) 0
                                            (List.take 8 (List.take out.length (List.drop 0 out))))
                                          8
                                          (List.take 8
                                            (List.take
                                              (out.length -
                                                (IntKind.i64.wrap
                                                    (IntKind.i64.wrap ((IntKind.i64.wrap (t - 1)).tmod n + 1) * 8)).toNat)
                                              (List.drop
                                                (0 +
                                                  (IntKind.i64.wrap
                                                      (IntKind.i64.wrap ((IntKind.i64.wrap (t - 1)).tmod n + 1) *
                                                        8)).toNat)
                                                out))))
                                        7 ^^^
                                      BitVec.ofInt 8 t)))))))
                        (0 + (IntKind.i64.wrap (IntKind.i64.wrap ((IntKind.i64.wrap (t - 1)).tmod n + 1) * 8)).toNat)
                        (List.take
                          (out.length -
                            (IntKind.i64.wrap (IntKind.i64.wrap ((IntKind.i64.wrap (t - 1)).tmod n + 1) * 8)).toNat)
                          (List.take 8
                            (List.drop 8
                              (decW k.1 k.2.1
                                ((over
                                      (over (List.replicate 16 0#8) 0
                                        (List.take 8 (List.take out.length (List.drop 0 out))))
                                      8
                                      (List.take 8
                                        (List.take
                                          (out.length -
                                            (IntKind.i64.wrap
                                                (IntKind.i64.wrap ((IntKind.i64.wrap (t - 1)).tmod n + 1) * 8)).toNat)
                                          (List.drop
                                            (0 +
                                              (IntKind.i64.wrap
                                                  (IntKind.i64.wrap ((IntKind.i64.wrap (t - 1)).tmod n + 1) * 8)).toNat)
                                            out)))).set
                                  7
                                  (rd (Sh.int IntKind.u8)
                                      (over
                                        (over (List.replicate 16 0#8) 0
                                          (List.take 8 (List.take out.length (List.drop 0 out))))
                                        8
                                        (List.take 8
                                          (List.take
                                            (out.length -
                                              (IntKind.i64.wrap
                                                  (IntKind.i64.wrap ((IntKind.i64.wrap (t - 1)).tmod n + 1) * 8)).toNat)
                                            (List.drop
                                              (0 +
                                                (IntKind.i64.wrap
                                                    (IntKind.i64.wrap ((IntKind.i64.wrap (t - 1)).tmod n + 1) * 8)).toNat)
                                              out))))
                                      7 ^^^
                                    BitVec.ofInt 8 t)))))),
                      n, IntKind.i64.wrap (t - 1), PUnit.unit))))))))
    ((0 = 0 ∧ out.length = out.length) ∧ Kx.1 (out, PUnit.unit))) := by kernel_rfl
theorem fwWrap (k : Sh.T (keyS)) (p : Sh.T (.sl u8S)) (P : SV → Prop) : FW A11 Try.f24.ntmps (LTab.look Lwra) Try.f24 (argsOf [keyS, .sl u8S] (k, p, ())) P =
 (  ifB (!decide (((((List.length p) : Nat) : Int)).tmod 8 = 0)) (P (SV.tup [AV.cell Cel.nilS, AV.val (Sh.int IntKind.i64) 1]))
    (ifB (decide ((((List.length p) : Nat) : Int) < 16)) (P (SV.tup [AV.cell Cel.nilS, AV.val (Sh.int IntKind.i64) 1]))
      (ifB (decide (64 < (((List.length p) : Nat) : Int))) (P (SV.tup [AV.cell Cel.nilS, AV.val (Sh.int IntKind.i64) 1]))
        (dmd
          (decide (8 ≤ IntKind.i64.wrap (8 + (((List.length p) : Nat) : Int))) &&
            (decide (IntKind.i64.wrap (8 + (((List.length p) : Nat) : Int)) * 1 ≤ 140737488355328) &&
              decide (IntKind.i64.wrap (8 + (((List.length p) : Nat) : Int)) < 9223372036854775808)))
          (dmd ((8 + List.length p).ble (IntKind.i64.wrap (8 + (((List.length p) : Nat) : Int))).toNat)
            (dmd (decide (0 < (((8 + List.length p) : Nat) : Int)))
              (dmd (decide (1 < (((8 + List.length p) : Nat) : Int)))
                (dmd (decide (2 < (((8 + List.length p) : Nat) : Int)))
                  (dmd (decide (3 < (((8 + List.length p) : Nat) : Int)))
                    (dmd (decide (4 < (((8 + List.length p) : Nat) : Int)))
                      (dmd (decide (5 < (((8 + List.length p) : Nat) : Int)))
                        (dmd (decide (6 < (((8 + List.length p) : Nat) : Int)))
                          (dmd (decide (7 < (((8 + List.length p) : Nat) : Int)))
                            ((0 = 0 ∧
                                8 + List.length p =
                                  (((((((((over (List.replicate (IntKind.i64.wrap (8 + (((List.length p) : Nat) : Int))).toNat 0#8) 8
                                                                      p).set
                                                                  0 166#8).set
                                                              1 166#8).set
                                                          2 166#8).set
                                                      3 166#8).set
                                                  4 166#8).set
                                              5 166#8).set
                                          6 166#8).set
                                      7 166#8).length) ∧
                              Qwra
                                (k,
                                  ((((((((over (List.replicate (IntKind.i64.wrap (8 + (((List.length p) : Nat) : Int))).toNat 0#8) 8
                                                                    p).set
                                                                0 166#8).set
                                                            1 166#8).set
                                                        2 166#8).set
                                                    3 166#8).set
                                                4 166#8).set
                                            5 166#8).set
                                        6 166#8).set
                                    7 166#8,
                                  IntKind.i64.wrap (((((List.length p) : Nat) : Int)).tdiv 8), 1, PUnit.unit)
                                (fun _ => False)
                                (fun y =>
                                  P
                                    (SV.tup
                                      [AV.val (Sh.int IntKind.u8).sl (List.take (List.length y.1) (List.drop 0 y.1)),
                                        AV.val (Sh.int IntKind.i64) 0]),
                                  PUnit.unit))))))))))))))) := by kernel_rfl
theorem fwUnwrap (k : Sh.T (keyS)) (c : Sh.T (.sl u8S)) (P : SV → Prop) : FW A11 Try.f30.ntmps (LTab.look Lunw) Try.f30 (argsOf [keyS, .sl u8S] (k, c, ())) P =
 (  ifB (!decide (((((List.length c) : Nat) : Int)).tmod 8 = 0)) (P (SV.tup [AV.cell Cel.nilS, AV.val (Sh.int IntKind.i64) 1]))
    (ifB (decide ((((List.length c) : Nat) : Int) < 24)) (P (SV.tup [AV.cell Cel.nilS, AV.val (Sh.int IntKind.i64) 1]))
      (ifB (decide (72 < (((List.length c) : Nat) : Int))) (P (SV.tup [AV.cell Cel.nilS, AV.val (Sh.int IntKind.i64) 1]))
        (ifB ((List.length c).beq 0) False
          (dmd ((List.length c * 1).ble 140737488355328)
            ((0 = 0 ∧ List.length c = List.length c) ∧
              Qunw
                (k, c, IntKind.i64.wrap (IntKind.i64.wrap (((((List.length c) : Nat) : Int)).tdiv 8) - 1),
                  IntKind.i64.wrap (6 * IntKind.i64.wrap (IntKind.i64.wrap (((((List.length c) : Nat) : Int)).tdiv 8) - 1)), PUnit.unit)
                (fun _ => False)
                (fun y =>
                  dmd (Nat.ble 8 (List.length y.1))
                    (ifB (!decide (rd (Sh.int IntKind.u8) y.1 0 = 166#8))
                      (P (SV.tup [AV.cell Cel.nilS, AV.val (Sh.int IntKind.i64) 5]))
                      (ifB (!decide (rd (Sh.int IntKind.u8) y.1 1 = 166#8))
                        (P (SV.tup [AV.cell Cel.nilS, AV.val (Sh.int IntKind.i64) 5]))
                        (ifB (!decide (rd (Sh.int IntKind.u8) y.1 2 = 166#8))
                          (P (SV.tup [AV.cell Cel.nilS, AV.val (Sh.int IntKind.i64) 5]))
                          (ifB (!decide (rd (Sh.int IntKind.u8) y.1 3 = 166#8))
                            (P (SV.tup [AV.cell Cel.nilS, AV.val (Sh.int IntKind.i64) 5]))
                            (ifB (!decide (rd (Sh.int IntKind.u8) y.1 4 = 166#8))
                              (P (SV.tup [AV.cell Cel.nilS, AV.val (Sh.int IntKind.i64) 5]))
                              (ifB (!decide (rd (Sh.int IntKind.u8) y.1 5 = 166#8))
                                (P (SV.tup [AV.cell Cel.nilS, AV.val (Sh.int IntKind.i64) 5]))
                                (ifB (!decide (rd (Sh.int IntKind.u8) y.1 6 = 166#8))
                                  (P (SV.tup [AV.cell Cel.nilS, AV.val (Sh.int IntKind.i64) 5]))
                                  (ifB (!decide (rd (Sh.int IntKind.u8) y.1 7 = 166#8))
                                    (P (SV.tup [AV.cell Cel.nilS, AV.val (Sh.int IntKind.i64) 5]))
                                    (dmd (Nat.ble 8 (List.length y.1) && (List.length y.1).ble (List.length y.1))
                                      (ifB ((List.take (List.length y.1 - 8) (List.drop 8 y.1)).length.beq 0)
                                        (P (SV.tup [AV.cell Cel.nilS, AV.val (Sh.int IntKind.i64) 0]))
                                        (dmd
                                          (((List.take (List.length y.1 - 8) (List.drop 8 y.1)).length * 1).ble
                                            140737488355328)
                                          (P
                                            (SV.tup
                                              [AV.val (Sh.int IntKind.u8).sl
                                                  (List.take (List.take (List.length y.1 - 8) (List.drop 8 y.1)).length
                                                    (List.drop 0 (List.take (List.length y.1 - 8) (List.drop 8 y.1)))),
                                                AV.val (Sh.int IntKind.i64) 0]))))))))))))),
                  PUnit.unit))))))) := by kernel_rfl
set_option maxRecDepth 100000 in
theorem loopswra : ∀ x Kr Kx, Qwra x Kr Kx → ∃ n, untl (W A11 Try.f24.ntmps (LTab.look Lwra) (bodyAt bwra 11)) Iwra [] owra n x Kr Kx := by
  rintro ⟨⟨w, R0, ⟨⟩⟩, out, n0, t0, v⟩ Kr Kx ⟨⟨hR, ⟨n, h1, h2, h3, h4⟩, h5⟩, hK⟩
  obtain ⟨R, eR⟩ : ∃ R : Int, R = R0 := ⟨R0, rfl⟩
  subst eR
  have hR : (1 : Int) ≤ R ∧ R < (15 : Int) := hR
  have h1 : n0 = (n : Int) := h1
  subst h1
  have h5 : t0 = ((0 + 1 : Nat) : Int) := h5
  have h4 : List.length out = 8 + 8 * n := h4
  have hK : Kx.1 (wN w R ((n : Nat) : Int).toNat (6 * ((n : Nat) : Int).toNat) out, ()) := hK
  rw [Int.toNat_natCast] at hK
  have hk : (decide ((1 : Int) ≤ R) && decide (R < (15 : Int))) = true := by
    rw [decide_eq_true hR.1, decide_eq_true hR.2]; rfl
  have key : ∀ (j i : Nat), i + j = 6 * n →
      untl (W A11 Try.f24.ntmps (LTab.look Lwra) (bodyAt bwra 11)) Iwra [] owra (j + 1) ((w, R, ()), wN w R n i out, ((n : Nat) : Int), ((i + 1 : Nat) : Int), ()) Kr Kx := by
    intro j
    induction j with
    | zero =>
      intro i hi
      rw [untl_succ, roundwra, IntWalk.i64_in (6 * ((n : Nat) : Int)) (by omega)]
      refine ifB_of (fun h => absurd (of_decide_eq_true h) (by omega)) (fun _ => ⟨⟨rfl, rfl⟩, ?_⟩)
      rw [show i = 6 * n by omega]; exact hK
    | succ j ih =>
      intro i hi
      have hl : List.length (wN w R n i out) = 8 + 8 * n := wN_len w R n h2 i out h4
      have ha := atW_lt (t := i + 1) h2
      have e1 : IntKind.i64.wrap (((i + 1 : Nat) : Int) + 1) = ((i + 1 + 1 : Nat) : Int) := by rw [IntWalk.i64_in _ (by omega)]; omega
      have eo : BitVec.ofInt 8 (((i + 1 : Nat)) : Int) = BitVec.ofNat 8 (i + 1) := BitVec.ofInt_natCast 8 (i + 1)
      rw [untl_succ, roundwra, IntWalk.i64_in (6 * ((n : Nat) : Int)) (by omega), at_wrap h2 h3 (by omega) (by omega), e1, eo, Int.toNat_natCast, in16 ha.1 (by rw [hl]; exact ha.2)]
      have hb : List.length (List.take 8 (wN w R n i out) ++ List.take 8 (List.drop (atW n (i + 1)) (wN w R n i out))) = 16 := by
        rw [List.length_append, List.length_take, List.length_take, List.length_drop, hl]; omega
      have es := out16 (out := wN w R n i out) (a := atW n (i + 1)) ha.1 (by rw [hl]; exact ha.2) (fT_len w R (i + 1) _ hb)
      unfold fT at es
      have es := es.trans (show _ = wN w R n (i + 1) out from rfl)
      rw [es]
      refine ifB_of (fun _ => dmd_of ?_ (dmd_of ?_ (dmd_of ?_ (dmd_of hk (dmd_of ?_ (dmd_of ?_ ⟨⟨rfl, ?_⟩, ih (i + 1) (by omega)⟩)))))) (fun h => absurd (of_decide_eq_false h) (by omega))
      · rw [decide_eq_false (show ¬ ((n : Nat) : Int) = 0 by omega)]; rfl
      · exact decide_eq_true (by omega)
      · exact leB (by omega)
      · exact decide_eq_true (by omega)
      · exact leB (by omega)
      · rw [hl, wN_len w R n h2 _ _ h4]
  have := key (6 * n) 0 (by omega)
  rw [h5]
  exact ⟨_, this⟩
set_option maxRecDepth 100000 in
theorem loopsunw : ∀ x Kr Kx, Qunw x Kr Kx → ∃ n, untl (W A11 Try.f30.ntmps (LTab.look Lunw) (bodyAt bunw 6)) Iunw [] ounw n x Kr Kx := by
  rintro ⟨⟨w, R0, ⟨⟩⟩, out, n0, t0, v⟩ Kr Kx ⟨⟨hR, ⟨n, h1, h2, h3, h4⟩, h5⟩, hK⟩
  obtain ⟨R, eR⟩ : ∃ R : Int, R = R0 := ⟨R0, rfl⟩
  subst eR
  have hR : (1 : Int) ≤ R ∧ R < (15 : Int) := hR
  have h1 : n0 = (n : Int) := h1
  subst h1
  have h5 : t0 = 6 * ((n : Nat) : Int) := h5
  have h4 : List.length out = 8 + 8 * n := h4
  have hK : Kx.1 (uN w R ((n : Nat) : Int).toNat (6 * ((n : Nat) : Int).toNat) out, ()) := hK
  rw [Int.toNat_natCast] at hK
  have hk : (decide ((1 : Int) ≤ R) && decide (R < (15 : Int))) = true := by
    rw [decide_eq_true hR.1, decide_eq_true hR.2]; rfl
  have key : ∀ (j : Nat) (o : List (BitVec 8)), j ≤ 6 * n → List.length o = 8 + 8 * n → Kx.1 (uN w R n j o, ()) →
      untl (W A11 Try.f30.ntmps (LTab.look Lunw) (bodyAt bunw 6)) Iunw [] ounw (j + 1) ((w, R, ()), o, ((n : Nat) : Int), ((j : Nat) : Int), ()) Kr Kx := by
    intro j
    induction j with
    | zero =>
      intro o hj hl hK
      rw [untl_succ, roundunw]
      exact ifB_of (fun h => absurd (of_decide_eq_true h) (by omega)) (fun _ => ⟨⟨rfl, rfl⟩, hK⟩)
    | succ j ih =>
      intro o hj hl hK
      have ha := atW_lt (t := j + 1) h2
      have e1 : IntKind.i64.wrap (((j + 1 : Nat) : Int) - 1) = ((j : Nat) : Int) := by rw [IntWalk.i64_in _ (by omega)]; omega
      have eo : BitVec.ofInt 8 (((j + 1 : Nat)) : Int) = BitVec.ofNat 8 (j + 1) := BitVec.ofInt_natCast 8 (j + 1)
      rw [untl_succ, roundunw, at_wrap h2 h3 (by omega) (by omega), e1, eo, Int.toNat_natCast, in16 ha.1 (by rw [hl]; exact ha.2)]
      have hb : List.length (List.take 8 o ++ List.take 8 (List.drop (atW n (j + 1)) o)) = 16 := by
        rw [List.length_append, List.length_take, List.length_take, List.length_drop, hl]; omega
      have es := out16 (out := o) (a := atW n (j + 1)) ha.1 (by rw [hl]; exact ha.2) (gT_len w R (j + 1) _ hb)
      unfold gT at es
      have es := es.trans (show _ = rW (gT w R (j + 1)) (atW n (j + 1)) o from rfl)
      have hl2 : List.length (rW (gT w R (j + 1)) (atW n (j + 1)) o) = 8 + 8 * n := by rw [rW_len ha.1 (by rw [hl]; exact ha.2) (gT_len w R _), hl]
      rw [es]
      refine ifB_of (fun _ => dmd_of ?_ (dmd_of ?_ (dmd_of ?_ (dmd_of hk (dmd_of ?_ (dmd_of ?_ ⟨⟨rfl, ?_⟩, ih _ (by omega) hl2 hK⟩)))))) (fun h => absurd (of_decide_eq_false h) (by omega))
      · rw [decide_eq_false (show ¬ ((n : Nat) : Int) = 0 by omega)]; rfl
      · exact decide_eq_true (by omega)
      · exact leB (by omega)
      · exact decide_eq_true (by omega)
      · exact leB (by omega)
      · rw [hl, hl2]
  have := key (6 * n) out (Nat.le_refl _) h4 hK
  rw [h5, show 6 * ((n : Nat) : Int) = ((6 * n : Nat) : Int) by omega]
  exact ⟨_, this⟩
end Go.Proofs.Ytehgaljcpbaplaa
