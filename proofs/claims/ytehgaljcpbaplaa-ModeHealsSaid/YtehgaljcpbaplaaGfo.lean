import Derived.Test.YtehgaljcpbaplaaGfn
/-! Rounds of a block cipher and back, in plain Lean. -/
namespace Go.Gfn
abbrev Bl := List (BitVec 8)
def subL : Bl → Bl
  | [b0, b1, b2, b3, b4, b5, b6, b7, b8, b9, b10, b11, b12, b13, b14, b15] => [gsub b0, gsub b5, gsub b10, gsub b15, gsub b4, gsub b9, gsub b14, gsub b3, gsub b8, gsub b13, gsub b2, gsub b7, gsub b12, gsub b1, gsub b6, gsub b11]
  | l => l
def unsubL : Bl → Bl
  | [b0, b1, b2, b3, b4, b5, b6, b7, b8, b9, b10, b11, b12, b13, b14, b15] => [gunsub b0, gunsub b13, gunsub b10, gunsub b7, gunsub b4, gunsub b1, gunsub b14, gunsub b11, gunsub b8, gunsub b5, gunsub b2, gunsub b15, gunsub b12, gunsub b9, gunsub b6, gunsub b3]
  | l => l
def mixL : Bl → Bl
  | [b0, b1, b2, b3, b4, b5, b6, b7, b8, b9, b10, b11, b12, b13, b14, b15] => [(mix (b0, b1, b2, b3)).1, (mix (b0, b1, b2, b3)).2.1, (mix (b0, b1, b2, b3)).2.2.1, (mix (b0, b1, b2, b3)).2.2.2, (mix (b4, b5, b6, b7)).1, (mix (b4, b5, b6, b7)).2.1, (mix (b4, b5, b6, b7)).2.2.1, (mix (b4, b5, b6, b7)).2.2.2, (mix (b8, b9, b10, b11)).1, (mix (b8, b9, b10, b11)).2.1, (mix (b8, b9, b10, b11)).2.2.1, (mix (b8, b9, b10, b11)).2.2.2, (mix (b12, b13, b14, b15)).1, (mix (b12, b13, b14, b15)).2.1, (mix (b12, b13, b14, b15)).2.2.1, (mix (b12, b13, b14, b15)).2.2.2]
  | l => l
def unmixL : Bl → Bl
  | [b0, b1, b2, b3, b4, b5, b6, b7, b8, b9, b10, b11, b12, b13, b14, b15] => [(unmix (b0, b1, b2, b3)).1, (unmix (b0, b1, b2, b3)).2.1, (unmix (b0, b1, b2, b3)).2.2.1, (unmix (b0, b1, b2, b3)).2.2.2, (unmix (b4, b5, b6, b7)).1, (unmix (b4, b5, b6, b7)).2.1, (unmix (b4, b5, b6, b7)).2.2.1, (unmix (b4, b5, b6, b7)).2.2.2, (unmix (b8, b9, b10, b11)).1, (unmix (b8, b9, b10, b11)).2.1, (unmix (b8, b9, b10, b11)).2.2.1, (unmix (b8, b9, b10, b11)).2.2.2, (unmix (b12, b13, b14, b15)).1, (unmix (b12, b13, b14, b15)).2.1, (unmix (b12, b13, b14, b15)).2.2.1, (unmix (b12, b13, b14, b15)).2.2.2]
  | l => l
def byL (k : Nat → BitVec 8) : Bl → Bl
  | [b0, b1, b2, b3, b4, b5, b6, b7, b8, b9, b10, b11, b12, b13, b14, b15] => [b0 ^^^ k 0, b1 ^^^ k 1, b2 ^^^ k 2, b3 ^^^ k 3, b4 ^^^ k 4, b5 ^^^ k 5, b6 ^^^ k 6, b7 ^^^ k 7, b8 ^^^ k 8, b9 ^^^ k 9, b10 ^^^ k 10, b11 ^^^ k 11, b12 ^^^ k 12, b13 ^^^ k 13, b14 ^^^ k 14, b15 ^^^ k 15]
  | l => l
theorem of16 {l : Bl} (h : l.length = 16) : ∃ b0 b1 b2 b3 b4 b5 b6 b7 b8 b9 b10 b11 b12 b13 b14 b15, l = [b0, b1, b2, b3, b4, b5, b6, b7, b8, b9, b10, b11, b12, b13, b14, b15] := by
  match l, h with
  | [b0, b1, b2, b3, b4, b5, b6, b7, b8, b9, b10, b11, b12, b13, b14, b15], _ => exact ⟨b0, b1, b2, b3, b4, b5, b6, b7, b8, b9, b10, b11, b12, b13, b14, b15, rfl⟩
theorem subL_len {l : Bl} (h : l.length = 16) : (subL l).length = 16 := by
  obtain ⟨b0, b1, b2, b3, b4, b5, b6, b7, b8, b9, b10, b11, b12, b13, b14, b15, rfl⟩ := of16 h
  rfl
theorem unsubL_len {l : Bl} (h : l.length = 16) : (unsubL l).length = 16 := by
  obtain ⟨b0, b1, b2, b3, b4, b5, b6, b7, b8, b9, b10, b11, b12, b13, b14, b15, rfl⟩ := of16 h
  rfl
theorem mixL_len {l : Bl} (h : l.length = 16) : (mixL l).length = 16 := by
  obtain ⟨b0, b1, b2, b3, b4, b5, b6, b7, b8, b9, b10, b11, b12, b13, b14, b15, rfl⟩ := of16 h
  rfl
theorem unmixL_len {l : Bl} (h : l.length = 16) : (unmixL l).length = 16 := by
  obtain ⟨b0, b1, b2, b3, b4, b5, b6, b7, b8, b9, b10, b11, b12, b13, b14, b15, rfl⟩ := of16 h
  rfl
theorem byL_len (k : Nat → BitVec 8) {l : Bl} (h : l.length = 16) : (byL k l).length = 16 := by
  obtain ⟨b0, b1, b2, b3, b4, b5, b6, b7, b8, b9, b10, b11, b12, b13, b14, b15, rfl⟩ := of16 h
  rfl
theorem unsub_subL {l : Bl} (h : l.length = 16) : unsubL (subL l) = l := by
  obtain ⟨b0, b1, b2, b3, b4, b5, b6, b7, b8, b9, b10, b11, b12, b13, b14, b15, rfl⟩ := of16 h
  simp only [subL, unsubL, gunsub_gsub]
theorem sub_unsubL {l : Bl} (h : l.length = 16) : subL (unsubL l) = l := by
  obtain ⟨b0, b1, b2, b3, b4, b5, b6, b7, b8, b9, b10, b11, b12, b13, b14, b15, rfl⟩ := of16 h
  simp only [subL, unsubL, gsub_gunsub]
theorem unmix_mixL {l : Bl} (h : l.length = 16) : unmixL (mixL l) = l := by
  obtain ⟨b0, b1, b2, b3, b4, b5, b6, b7, b8, b9, b10, b11, b12, b13, b14, b15, rfl⟩ := of16 h
  have e : ∀ x, unmix ((mix x).1, (mix x).2.1, (mix x).2.2.1, (mix x).2.2.2) = x := fun x => unmix_mix x
  simp only [mixL, unmixL]
  rw [e (b0, b1, b2, b3), e (b4, b5, b6, b7), e (b8, b9, b10, b11), e (b12, b13, b14, b15)]
theorem mix_unmixL {l : Bl} (h : l.length = 16) : mixL (unmixL l) = l := by
  obtain ⟨b0, b1, b2, b3, b4, b5, b6, b7, b8, b9, b10, b11, b12, b13, b14, b15, rfl⟩ := of16 h
  have e : ∀ x, mix ((unmix x).1, (unmix x).2.1, (unmix x).2.2.1, (unmix x).2.2.2) = x := fun x => mix_unmix x
  simp only [mixL, unmixL]
  rw [e (b0, b1, b2, b3), e (b4, b5, b6, b7), e (b8, b9, b10, b11), e (b12, b13, b14, b15)]
theorem by_by (k : Nat → BitVec 8) {l : Bl} (h : l.length = 16) : byL k (byL k l) = l := by
  obtain ⟨b0, b1, b2, b3, b4, b5, b6, b7, b8, b9, b10, b11, b12, b13, b14, b15, rfl⟩ := of16 h
  have e : ∀ a b : BitVec 8, a ^^^ b ^^^ b = a := fun a b => by rw [BitVec.xor_assoc, BitVec.xor_self, BitVec.xor_zero]
  simp only [byL, e]
/-! ## The rounds -/
def encR (k : Nat → Nat → BitVec 8) (R : Nat) (b : Bl) : Nat → Bl
  | 0 => byL (k 0) b
  | r + 1 => byL (k (r + 1)) (bif decide (r + 1 < R) then mixL (subL (encR k R b r)) else subL (encR k R b r))
def decR (k : Nat → Nat → BitVec 8) (R : Nat) (b : Bl) : Nat → Bl
  | 0 => b
  | j + 1 => unsubL (bif decide (R - j < R) then unmixL (byL (k (R - j)) (decR k R b j)) else byL (k (R - j)) (decR k R b j))
def enc (k : Nat → Nat → BitVec 8) (R : Nat) (b : Bl) : Bl := encR k R b R
def dec (k : Nat → Nat → BitVec 8) (R : Nat) (b : Bl) : Bl := byL (k 0) (decR k R b R)
variable {k : Nat → Nat → BitVec 8} {R : Nat} {b : Bl}
theorem encR_len (h : b.length = 16) : ∀ r, (encR k R b r).length = 16
  | 0 => byL_len _ h
  | r + 1 => by
    refine byL_len _ ?_
    cases decide (r + 1 < R)
    · exact subL_len (encR_len h r)
    · exact mixL_len (subL_len (encR_len h r))
theorem decR_len (h : b.length = 16) : ∀ j, (decR k R b j).length = 16
  | 0 => h
  | j + 1 => by
    refine unsubL_len ?_
    cases decide (R - j < R)
    · exact byL_len _ (decR_len h j)
    · exact unmixL_len (byL_len _ (decR_len h j))
theorem enc_len (h : b.length = 16) : (enc k R b).length = 16 := encR_len h R
theorem dec_len (h : b.length = 16) : (dec k R b).length = 16 := byL_len _ (decR_len h R)
theorem dec_enc (h : b.length = 16) : dec k R (enc k R b) = b := by
  have key : ∀ j, j ≤ R → decR k R (enc k R b) j = encR k R b (R - j) := by
    intro j
    induction j with
    | zero => intro _; rfl
    | succ j ih =>
      intro hj
      have ih := ih (by omega)
      show unsubL (bif decide (R - j < R) then unmixL (byL (k (R - j)) (decR k R (enc k R b) j)) else byL (k (R - j)) (decR k R (enc k R b) j)) = _
      obtain ⟨r, hr⟩ : ∃ r, R - j = r + 1 := ⟨R - j - 1, by omega⟩
      rw [ih, show R - (j + 1) = r by omega, hr]
      have hl := encR_len (k := k) (R := R) h r
      have e : encR k R b (r + 1) = byL (k (r + 1)) (bif decide (r + 1 < R) then mixL (subL (encR k R b r)) else subL (encR k R b r)) := rfl
      rw [e]
      cases decide (r + 1 < R)
      · rw [cond_false, cond_false, by_by _ (subL_len hl), unsub_subL hl]
      · rw [cond_true, cond_true, by_by _ (mixL_len (subL_len hl)), unmix_mixL (subL_len hl), unsub_subL hl]
  unfold dec
  rw [key R (Nat.le_refl _), Nat.sub_self]
  exact by_by _ h
theorem enc_dec (h : b.length = 16) : enc k R (dec k R b) = b := by
  have key : ∀ r, r ≤ R → encR k R (dec k R b) r = decR k R b (R - r) := by
    intro r
    induction r with
    | zero => intro _; exact by_by _ (decR_len h R)
    | succ r ih =>
      intro hr
      have ih := ih (by omega)
      show byL (k (r + 1)) (bif decide (r + 1 < R) then mixL (subL (encR k R (dec k R b) r)) else subL (encR k R (dec k R b) r)) = _
      obtain ⟨j, hj⟩ : ∃ j, R - r = j + 1 := ⟨R - r - 1, by omega⟩
      rw [ih, show R - (r + 1) = j by omega, hj]
      have hl := decR_len (k := k) (R := R) h j
      have e : decR k R b (j + 1) = unsubL (bif decide (R - j < R) then unmixL (byL (k (R - j)) (decR k R b j)) else byL (k (R - j)) (decR k R b j)) := rfl
      rw [e, show R - j = r + 1 by omega]
      cases decide (r + 1 < R)
      · rw [cond_false, cond_false, sub_unsubL (byL_len _ hl), by_by _ hl]
      · rw [cond_true, cond_true, sub_unsubL (unmixL_len (byL_len _ hl)), mix_unmixL (byL_len _ hl), by_by _ hl]
  unfold enc
  rw [key R (Nat.le_refl _), Nat.sub_self]; rfl
end Go.Gfn
