import Derived.Test.YtkookenoedbadaaDc
namespace Go.Proofs.Ytkookenoedbadaa
open Go.Ty

/-! ## What is written is read -/
theorem lenD_a {k : BitVec 8} {c : List (BitVec 8)} (h : k.toNat < 128) : lenD (k :: c) = (k.toNat, 1, 0) := by
  unfold lenD
  rw [cond_ndec (show ¬ (k :: c).length = 0 by rw [List.length_cons]; omega)]
  exact cond_dec (show k < 128#8 from h)
theorem lenD_b {k : BitVec 8} {c : List (BitVec 8)} (h : 128 ≤ k.toNat) : lenD (129#8 :: k :: c) = (k.toNat, 2, 0) := by
  unfold lenD
  rw [cond_ndec (show ¬ (129#8 :: k :: c).length = 0 by rw [List.length_cons]; omega)]
  show (bif false then _ else bif false then _ else bif false then _ else bif decide ((129#8 :: k :: c).length + 127 < 129) then _ else bif true then (bif decide (k.toNat < 128) then _ else (k.toNat, 2, 0)) else _) = _
  rw [cond_false, cond_false, cond_false, cond_ndec (show ¬ (129#8 :: k :: c).length + 127 < 129 by rw [List.length_cons, List.length_cons]; omega), cond_true]
  exact cond_ndec (show ¬ k.toNat < 128 by omega)
theorem lenD_c {h l : BitVec 8} {c : List (BitVec 8)} (e : 256 ≤ 256 * h.toNat + l.toNat) : lenD (130#8 :: h :: l :: c) = (256 * h.toNat + l.toNat, 3, 0) := by
  unfold lenD
  rw [cond_ndec (show ¬ (130#8 :: h :: l :: c).length = 0 by rw [List.length_cons]; omega)]
  show (bif false then _ else bif false then _ else bif false then _ else bif decide ((130#8 :: h :: l :: c).length + 127 < 130) then _ else bif false then _ else (bif decide (256 * h.toNat + l.toNat < 256) then _ else (256 * h.toNat + l.toNat, 3, 0))) = _
  rw [cond_false, cond_false, cond_false, cond_ndec (show ¬ (130#8 :: h :: l :: c).length + 127 < 130 by rw [List.length_cons, List.length_cons, List.length_cons]; omega), cond_false]
  exact cond_ndec (by omega)
theorem fst_of {t : BitVec 8} {c : List (BitVec 8)} {n a : Nat} (h : lenD c = (n, a, 0)) (hn : n ≤ 4096) (hl : a + n ≤ c.length) : fstD (t :: c) = ((t, (c.drop a).take n, ()), 1 + a + n, 0) := by
  have h1 : lenN c = n := by unfold lenN; rw [h]
  have h2 : lenA c = a := by unfold lenA; rw [h]
  have h3 : lenE c = 0 := by unfold lenE; rw [h]
  unfold fstD
  rw [cond_ndec (show ¬ (t :: c).length = 0 by rw [List.length_cons]; omega)]
  show (bif !decide (lenE c = 0) then _ else bif decide (4096 < lenN c) then _ else bif decide ((t :: c).length < 1 + lenA c + lenN c) then _ else ((t, ((t :: c).drop (1 + lenA c)).take (lenN c), ()), 1 + lenA c + lenN c, 0)) = _
  rw [decTr h3, not_true_, cond_false, h1, h2, cond_ndec (show ¬ 4096 < n by omega), cond_ndec (show ¬ (t :: c).length < 1 + a + n by rw [List.length_cons]; omega), Nat.add_comm 1 a]
  rfl
theorem fst_cut {t : BitVec 8} {c : List (BitVec 8)} {n a : Nat} (h : lenD c = (n, a, 0)) (hn : n ≤ 4096) (hl : c.length < a + n) : fstE (t :: c) = 3 := by
  have h1 : lenN c = n := by unfold lenN; rw [h]
  have h2 : lenA c = a := by unfold lenA; rw [h]
  have h3 : lenE c = 0 := by unfold lenE; rw [h]
  unfold fstE fstD
  rw [cond_ndec (show ¬ (t :: c).length = 0 by rw [List.length_cons]; omega)]
  show (bif !decide (lenE c = 0) then _ else bif decide (4096 < lenN c) then _ else bif decide ((t :: c).length < 1 + lenA c + lenN c) then (zeroI, 0, 3) else _ : Itm × Nat × Int).2.2 = _
  rw [decTr h3, not_true_, cond_false, h1, h2, cond_ndec (show ¬ 4096 < n by omega), cond_dec (show (t :: c).length < 1 + a + n by rw [List.length_cons]; omega)]
theorem toN8 {n : Nat} (h : n < 256) : (BitVec.ofNat 8 n).toNat = n := by rw [BitVec.toNat_ofNat]; omega
theorem toN16 {n : Nat} (h : n < 65536) : 256 * (BitVec.ofNat 8 (n / 256)).toNat + (BitVec.ofNat 8 n).toNat = n := by rw [BitVec.toNat_ofNat, BitVec.toNat_ofNat]; omega
theorem hdrA {x : Itm} (h : lenI x < 128) : hdrB x = [x.1, BitVec.ofNat 8 (lenI x)] := cond_dec h
theorem hdrBb {x : Itm} (h : ¬ lenI x < 128) (g : lenI x < 256) : hdrB x = [x.1, 129#8, BitVec.ofNat 8 (lenI x)] := by unfold hdrB; rw [cond_ndec h, cond_dec g]
theorem hdrC {x : Itm} (g : ¬ lenI x < 256) : hdrB x = [x.1, 130#8, BitVec.ofNat 8 (lenI x / 256), BitVec.ofNat 8 (lenI x)] := by unfold hdrB; rw [cond_ndec (show ¬ lenI x < 128 by omega), cond_ndec g]
theorem take_app (a r : List (BitVec 8)) : (a ++ r).take a.length = a := by rw [List.take_append_of_le_length (Nat.le_refl _), List.take_length]
theorem fst_enc {x : Itm} (r : List (BitVec 8)) (h : lenI x ≤ 4096) : fstD (encB x ++ r) = (x, (encB x).length, 0) := by
  rw [encB_len]
  unfold encB
  have hx : ∀ (a : List (BitVec 8)), a = x.2.1 → ((x.1, a, ()) : Itm) = x := fun a e => by rw [e]
  have tk : (x.2.1 ++ r).take (lenI x) = x.2.1 := take_app x.2.1 r
  by_cases c : lenI x < 128
  · rw [hdrA c]
    have e := toN8 (show lenI x < 256 by omega)
    refine (fst_of (lenD_a (by rw [e]; exact c)) (by rw [e]; exact h) ?_).trans ?_
    · rw [e]; show 1 + lenI x ≤ (x.2.1 ++ r).length + 1; rw [List.length_append]; unfold lenI; omega
    · rw [e]
      show ((x.1, (x.2.1 ++ r).take (lenI x), ()), 1 + 1 + lenI x, 0) = _
      rw [hx _ tk]; rfl
  · by_cases d : lenI x < 256
    · rw [hdrBb c d]
      have e := toN8 d
      refine (fst_of (lenD_b (by rw [e]; omega)) (by rw [e]; exact h) ?_).trans ?_
      · rw [e]; show 2 + lenI x ≤ (x.2.1 ++ r).length + 1 + 1; rw [List.length_append]; unfold lenI; omega
      · rw [e]
        show ((x.1, (x.2.1 ++ r).take (lenI x), ()), 1 + 2 + lenI x, 0) = _
        rw [hx _ tk]; rfl
    · rw [hdrC d]
      have e := toN16 (show lenI x < 65536 by omega)
      refine (fst_of (lenD_c (by rw [e]; omega)) (by rw [e]; exact h) ?_).trans ?_
      · rw [e]; show 3 + lenI x ≤ (x.2.1 ++ r).length + 1 + 1 + 1; rw [List.length_append]; unfold lenI; omega
      · rw [e]
        show ((x.1, (x.2.1 ++ r).take (lenI x), ()), 1 + 3 + lenI x, 0) = _
        rw [hx _ tk]; rfl
theorem cut_short {x : Itm} {k : Nat} (h : lenI x ≤ 4096) (h0 : 0 < k) (hk : k < (encB x).length) : fstE ((encB x).take k) = 3 := by
  rw [encB_len] at hk
  unfold encB
  have hl : ∀ j, (x.2.1.take j).length ≤ j := fun j => by rw [List.length_take]; omega
  by_cases c : lenI x < 128
  · rw [hdrA c] at hk ⊢
    have hk : k < 2 + lenI x := hk
    have e := toN8 (show lenI x < 256 by omega)
    match k, h0, hk with
    | 1, _, _ => rfl
    | k + 2, _, hk =>
      refine fst_cut (lenD_a (by rw [e]; exact c)) (by rw [e]; exact h) ?_
      rw [e]; show (x.2.1.take k).length + 1 < 1 + lenI x
      have := hl k; omega
  · by_cases d : lenI x < 256
    · rw [hdrBb c d] at hk ⊢
      have hk : k < 3 + lenI x := hk
      have e := toN8 d
      match k, h0, hk with
      | 1, _, _ => rfl
      | 2, _, _ => rfl
      | k + 3, _, hk =>
        refine fst_cut (lenD_b (by rw [e]; omega)) (by rw [e]; exact h) ?_
        rw [e]; show (x.2.1.take k).length + 1 + 1 < 2 + lenI x
        have := hl k; omega
    · rw [hdrC d] at hk ⊢
      have hk : k < 4 + lenI x := hk
      have e := toN16 (show lenI x < 65536 by omega)
      match k, h0, hk with
      | 1, _, _ => rfl
      | 2, _, _ => rfl
      | 3, _, _ => rfl
      | k + 4, _, hk =>
        refine fst_cut (lenD_c (by rw [e]; omega)) (by rw [e]; exact h) ?_
        rw [e]; show (x.2.1.take k).length + 1 + 1 + 1 < 3 + lenI x
        have := hl k; omega
theorem bv8 (k : BitVec 8) : BitVec.ofNat 8 k.toNat = k := BitVec.eq_of_toNat_eq (toN8 k.isLt)
theorem lenD_inv {c : List (BitVec 8)} (h : lenE c = 0) : ∃ hd r, c = hd ++ r ∧ lenA c = hd.length ∧ (∀ (t : BitVec 8) (b : List (BitVec 8)), b.length = lenN c → hdrB (t, b, ()) = t :: hd) := by
  have hD := lenD_ok h
  match c, h, hD with
  | [], h, _ => cases h
  | k :: c, h, hD =>
    by_cases d : k.toNat < 128
    · have e := lenD_a (c := c) d
      unfold lenN lenA
      rw [e]
      exact ⟨[k], c, rfl, rfl, fun t b hb => by
        have hb : lenI (t, b, ()) = k.toNat := hb
        rw [hdrA (by omega), hb, bv8]⟩
    · by_cases f : k = 129#8
      · subst f
        match c, h, hD with
        | [], h, _ => exact absurd h (by decide)
        | n :: c, h, hD =>
          by_cases g : n.toNat < 128
          · have e : lenE (129#8 :: n :: c) = 4 := by
              unfold lenE lenD
              rw [cond_ndec (show ¬ (129#8 :: n :: c).length = 0 by rw [List.length_cons]; omega)]
              show (bif false then _ else bif false then _ else bif false then _ else bif decide ((129#8 :: n :: c).length + 127 < 129) then _ else bif true then (bif decide (n.toNat < 128) then (0, 0, 4) else _) else _ : Nat × Nat × Int).2.2 = _
              rw [cond_false, cond_false, cond_false, cond_ndec (show ¬ (129#8 :: n :: c).length + 127 < 129 by rw [List.length_cons, List.length_cons]; omega), cond_true, cond_dec g]
            rw [e] at h; cases h
          · have e := lenD_b (c := c) (k := n) (by omega)
            unfold lenN lenA
            rw [e]
            exact ⟨[129#8, n], c, rfl, rfl, fun t b hb => by
              have hb : lenI (t, b, ()) = n.toNat := hb
              have := n.isLt
              rw [hdrBb (by omega) (by omega), hb, bv8]⟩
      · by_cases g : k = 130#8
        · subst g
          match c, h, hD with
          | [], h, _ => exact absurd h (by decide)
          | [n], h, hD =>
            have e : lenE [130#8, n] = 3 := rfl
            rw [e] at h; cases h
          | m :: n :: c, h, hD =>
            by_cases g : 256 * m.toNat + n.toNat < 256
            · have e : lenE (130#8 :: m :: n :: c) = 4 := by
                unfold lenE lenD
                rw [cond_ndec (show ¬ (130#8 :: m :: n :: c).length = 0 by rw [List.length_cons]; omega)]
                show (bif false then _ else bif false then _ else bif false then _ else bif decide ((130#8 :: m :: n :: c).length + 127 < 130) then _ else bif false then _ else bif decide (256 * m.toNat + n.toNat < 256) then (0, 0, 4) else _ : Nat × Nat × Int).2.2 = _
                rw [cond_false, cond_false, cond_false, cond_ndec (show ¬ (130#8 :: m :: n :: c).length + 127 < 130 by rw [List.length_cons, List.length_cons, List.length_cons]; omega), cond_false, cond_dec g]
              rw [e] at h; cases h
            · have e := lenD_c (h := m) (l := n) (c := c) (by omega)
              unfold lenN lenA
              rw [e]
              exact ⟨[130#8, m, n], c, rfl, rfl, fun t b hb => by
                have hb : lenI (t, b, ()) = 256 * m.toNat + n.toNat := hb
                have h1 := m.isLt
                have h2 := n.isLt
                have e1 : (256 * m.toNat + n.toNat) / 256 = m.toNat := by omega
                have e2 : BitVec.ofNat 8 (256 * m.toNat + n.toNat) = n := BitVec.eq_of_toNat_eq (by rw [BitVec.toNat_ofNat]; omega)
                rw [hdrC (by omega), hb, e1, e2, bv8]⟩
        · have e : lenE (k :: c) = 4 := by
            unfold lenE lenD
            rw [cond_ndec (show ¬ (k :: c).length = 0 by rw [List.length_cons]; omega)]
            show (bif decide (k < 128#8) then _ else bif decide (k = 128#8) then (0, 0, 4) else bif decide (130#8 < k) then (0, 0, 4) else _ : Nat × Nat × Int).2.2 = _
            rw [cond_ndec (show ¬ k < 128#8 from d)]
            by_cases q : k = 128#8
            · rw [cond_dec q]
            · have q1 : ¬ k.toNat = 128 := fun h => q (BitVec.eq_of_toNat_eq h)
              have q2 : ¬ k.toNat = 129 := fun h => f (BitVec.eq_of_toNat_eq h)
              have q3 : ¬ k.toNat = 130 := fun h => g (BitVec.eq_of_toNat_eq h)
              rw [cond_ndec q, cond_dec (show 130#8 < k from (show 130 < k.toNat by omega))]
          rw [e] at h; cases h
theorem fst_inv {b : List (BitVec 8)} (h : fstE b = 0) : b = encB (fstX b) ++ b.drop (fstN b) := by
  match b, h with
  | [], h => cases h
  | t :: c, h =>
    have h0 := h
    unfold fstE fstD at h0
    rw [cond_ndec (show ¬ (t :: c).length = 0 by rw [List.length_cons]; omega)] at h0
    have h0 : (bif !decide (lenE c = 0) then (zeroI, 0, lenE c) else bif decide (4096 < lenN c) then (zeroI, 0, 2) else bif decide ((t :: c).length < 1 + lenA c + lenN c) then (zeroI, 0, 3) else ((t, ((t :: c).drop (1 + lenA c)).take (lenN c), ()), 1 + lenA c + lenN c, 0) : Itm × Nat × Int).2.2 = 0 := h0
    by_cases d : lenE c = 0
    · rw [decTr d, not_true_, cond_false] at h0
      by_cases e : 4096 < lenN c
      · rw [cond_dec e] at h0; cases h0
      rw [cond_ndec e] at h0
      by_cases f : (t :: c).length < 1 + lenA c + lenN c
      · rw [cond_dec f] at h0; cases h0
      rw [List.length_cons] at f
      have hc : lenD c = (lenN c, lenA c, 0) := by
        have : lenD c = ((lenD c).1, (lenD c).2.1, (lenD c).2.2) := rfl
        rw [this]; unfold lenN lenA; rw [show (lenD c).2.2 = 0 from d]
      have hf := fst_of (t := t) hc (by omega) (by omega)
      unfold fstX fstN
      rw [hf]
      obtain ⟨hd, r, e1, e2, e3⟩ := lenD_inv d
      have er : c.drop (lenA c) = r := by rw [e2]; conv => lhs; rw [e1]
                                          rw [List.drop_append_of_le_length (Nat.le_refl _), List.drop_length, List.nil_append]
      have hr : lenN c ≤ r.length := by
        have := congrArg List.length e1
        rw [List.length_append] at this; omega
      show t :: c = encB (t, (c.drop (lenA c)).take (lenN c), ()) ++ (t :: c).drop (1 + lenA c + lenN c)
      have ed : (t :: c).drop (1 + lenA c + lenN c) = r.drop (lenN c) := by
        rw [show 1 + lenA c + lenN c = (lenA c + lenN c) + 1 by omega, List.drop_succ_cons, ← List.drop_drop, er]
      rw [ed, er]
      unfold encB
      rw [e3 t _ (by rw [List.length_take]; omega), List.append_assoc]
      show t :: c = t :: (hd ++ (r.take (lenN c) ++ r.drop (lenN c)))
      rw [List.take_append_drop, ← e1]
    · rw [decFa d] at h0
      exact absurd h0 d
theorem fst_inv_len {b : List (BitVec 8)} (h : fstE b = 0) : fstN b = (encB (fstX b)).length := by
  have h1 := congrArg List.length (fst_inv h)
  have h2 := (fst_ok h).2.1
  rw [List.length_append, List.length_drop] at h1
  omega
theorem goodL_cons {x : Itm} {l : List Itm} : goodL (x :: l) = true ↔ lenI x ≤ 4096 ∧ goodL l = true := by
  unfold goodL; rw [List.all_cons, Bool.and_eq_true, decide_eq_true_iff]
theorem rdF_succ (k : Nat) (b : List (BitVec 8)) (acc : List Itm) : rdF (k + 1) b acc = bif decide (b.length = 0) then (acc, 0) else bif decide (acc.length = 200) then ([], 2) else bif !decide (fstE b = 0) then ([], fstE b) else rdF k (b.drop (fstN b)) (acc ++ [fstX b]) := rfl
theorem rdF_enc : ∀ (l : List Itm) (k : Nat) (c : List (BitVec 8)) (acc : List Itm), goodL l = true → acc.length + l.length ≤ 200 → rdF (k + l.length) (encL l ++ c) acc = rdF k c (acc ++ l)
  | [], k, c, acc, _, _ => by rw [List.append_nil]; rfl
  | x :: l, k, c, acc, hg, hl => by
    obtain ⟨hx, hg⟩ := goodL_cons.1 hg
    rw [List.length_cons] at hl
    rw [encL_cons, List.append_assoc]
    have hf := fst_enc (encL l ++ c) hx
    have h1 : fstE (encB x ++ (encL l ++ c)) = 0 := by unfold fstE; rw [hf]
    have h2 : fstN (encB x ++ (encL l ++ c)) = (encB x).length := by unfold fstN; rw [hf]
    have h3 : fstX (encB x ++ (encL l ++ c)) = x := by unfold fstX; rw [hf]
    show rdF (k + l.length + 1) _ _ = _
    rw [rdF_succ]
    have hne : ¬ (encB x ++ (encL l ++ c)).length = 0 := by
      have := (hdrB_len x).1
      rw [List.length_append, encB_len]; omega
    rw [decFa hne, cond_false, decFa (show ¬ acc.length = 200 by omega), cond_false, h1, h2, h3, decTr rfl, not_true_, cond_false, List.drop_append_of_le_length (Nat.le_refl _), List.drop_length, List.nil_append,
      rdF_enc l k c (acc ++ [x]) hg (by rw [List.length_append]; show acc.length + 1 + l.length ≤ 200; omega), List.append_assoc]
    rfl
theorem encL_ge (l : List Itm) : l.length ≤ (encL l).length := by
  induction l with
  | nil => exact Nat.le_refl 0
  | cons x l ih =>
    have := (hdrB_len x).1
    rw [encL_cons, List.length_append, encB_len, List.length_cons]; omega
theorem rd_enc {l : List Itm} (c : List (BitVec 8)) (hg : goodL l = true) (hl : l.length ≤ 200) (hb : (encL l ++ c).length ≤ 65536) : rdD (encL l ++ c) = rdF ((encL l ++ c).length - l.length + 1) c l := by
  have h := encL_ge l
  unfold rdD
  rw [cond_ndec (show ¬ 65536 < (encL l ++ c).length by omega)]
  have e : (encL l ++ c).length + 1 = ((encL l ++ c).length - l.length + 1) + l.length := by rw [List.length_append]; omega
  rw [e, rdF_enc l _ c [] hg (by show 0 + l.length ≤ 200; omega), List.nil_append]
theorem rd_back {l : List Itm} (hg : goodL l = true) (hl : l.length ≤ 200) (hb : (encL l).length ≤ 65536) : rdD (encL l) = (l, 0) := by
  have h := rd_enc (l := l) [] hg hl (by rw [List.append_nil]; exact hb)
  rw [List.append_nil] at h
  rw [h]; rfl
theorem rdF_inv : ∀ (k : Nat) (b : List (BitVec 8)) (acc : List Itm), b.length < k → acc.length ≤ 200 → (rdF k b acc).2 = 0 → ∃ m, (rdF k b acc).1 = acc ++ m ∧ b = encL m ∧ goodL m = true ∧ acc.length + m.length ≤ 200
  | 0, _, _, h, _, _ => absurd h (Nat.not_lt_zero _)
  | k + 1, b, acc, h, ha, he => by
    unfold rdF at he ⊢
    by_cases c : b.length = 0
    · rw [decTr c]
      exact ⟨[], (List.append_nil acc).symm, List.eq_nil_of_length_eq_zero c, rfl, ha⟩
    rw [decFa c] at he ⊢
    by_cases d : acc.length = 200
    · rw [decTr d] at he; cases he
    rw [decFa d] at he ⊢
    by_cases e : fstE b = 0
    · rw [decTr e] at he ⊢
      obtain ⟨h1, h2, h3⟩ := fst_ok e
      obtain ⟨m, e1, e2, e3, e4⟩ := rdF_inv k (b.drop (fstN b)) (acc ++ [fstX b]) (by rw [List.length_drop]; omega) (by rw [List.length_append]; show acc.length + 1 ≤ 200; omega) he
      refine ⟨fstX b :: m, ?_, ?_, goodL_cons.2 ⟨h3, e3⟩, ?_⟩
      · refine e1.trans ?_
        rw [List.append_assoc]; rfl
      · rw [encL_cons, ← e2]; exact fst_inv e
      · rw [List.length_append] at e4
        have e4 : acc.length + 1 + m.length ≤ 200 := e4
        rw [List.length_cons]; omega
    · rw [decFa e] at he
      exact absurd he e
theorem rd_inv {b : List (BitVec 8)} (h : (rdD b).2 = 0) : b = encL (rdD b).1 ∧ goodL (rdD b).1 = true ∧ (rdD b).1.length ≤ 200 := by
  unfold rdD at h ⊢
  by_cases c : 65536 < b.length
  · rw [cond_dec c] at h; cases h
  rw [cond_ndec c] at h ⊢
  obtain ⟨m, e1, e2, e3, e4⟩ := rdF_inv _ b [] (by omega) (by decide) h
  rw [List.nil_append] at e1
  rw [e1]
  exact ⟨e2, e3, by have e4 : 0 + m.length ≤ 200 := e4; omega⟩
theorem rd_err {b : List (BitVec 8)} (h : (rdD b).2 ≠ 0) : (rdD b).1 = [] := by
  unfold rdD at h ⊢
  by_cases c : 65536 < b.length
  · rw [cond_dec c]
  rw [cond_ndec c] at h ⊢
  exact rdF_err _ b [] h
theorem rd_cut {l1 : List Itm} {x : Itm} {l2 : List Itm} {k : Nat} (hg : goodL (l1 ++ x :: l2) = true) (hl : (l1 ++ x :: l2).length ≤ 200) (hb : (encL (l1 ++ x :: l2)).length ≤ 65536) (h1 : (encL l1).length < k) (h2 : k < (encL l1).length + (encB x).length) :
    rdD ((encL (l1 ++ x :: l2)).take k) = ([], 3) := by
  have hg1 : goodL l1 = true ∧ lenI x ≤ 4096 := by
    unfold goodL at hg ⊢
    rw [List.all_append, List.all_cons, Bool.and_eq_true, Bool.and_eq_true, decide_eq_true_iff] at hg
    exact ⟨hg.1, hg.2.1⟩
  rw [List.length_append, List.length_cons] at hl
  have ek : (encL (l1 ++ x :: l2)).take k = encL l1 ++ (encB x).take (k - (encL l1).length) := by
    rw [encL_app, encL_cons, List.take_append, List.take_of_length_le (by omega), List.take_append_of_le_length (by omega)]
  have hkl : ((encL (l1 ++ x :: l2)).take k).length ≤ 65536 := by rw [List.length_take]; omega
  rw [ek] at hkl ⊢
  rw [rd_enc _ hg1.1 (by omega) hkl]
  have hc := cut_short hg1.2 (k := k - (encL l1).length) (by omega) (by omega)
  have hn : ¬ ((encB x).take (k - (encL l1).length)).length = 0 := by rw [List.length_take]; omega
  unfold rdF
  rw [decFa hn, cond_false, decFa (show ¬ l1.length = 200 by omega), cond_false, hc]
  rfl
theorem cutc : ∀ (l : List Itm) (k : Nat), k ≤ (encL l).length → (∃ j, j ≤ l.length ∧ (encL (l.take j)).length = k ∧ ∀ i, i < j → (encL (l.take i)).length ≠ k) ∨
    (∃ l1 x l2, l = l1 ++ x :: l2 ∧ (encL l1).length < k ∧ k < (encL l1).length + (encB x).length ∧ ∀ i, i ≤ l.length → (encL (l.take i)).length ≠ k)
  | [], k, h => .inl ⟨0, Nat.le_refl 0, by have h : k ≤ 0 := h; show 0 = k; omega, fun i hi => absurd hi (Nat.not_lt_zero i)⟩
  | x :: l, k, h => by
    rw [encL_cons, List.length_append] at h
    by_cases c : k = 0
    · exact .inl ⟨0, Nat.zero_le _, c.symm, fun i hi => absurd hi (Nat.not_lt_zero i)⟩
    have ht : ∀ i, (encL ((x :: l).take (i + 1))).length = (encB x).length + (encL (l.take i)).length := fun i => by
      rw [List.take_succ_cons, encL_cons, List.length_append]
    by_cases d : k < (encB x).length
    · refine .inr ⟨[], x, l, rfl, show 0 < k by omega, show k < 0 + (encB x).length by omega, fun i _ => ?_⟩
      cases i with
      | zero => exact fun e => c e.symm
      | succ i => rw [ht]; omega
    · rcases cutc l (k - (encB x).length) (by omega) with ⟨j, h1, h2, h3⟩ | ⟨l1, y, l2, e, h1, h2, h3⟩
      · refine .inl ⟨j + 1, by rw [List.length_cons]; omega, by rw [ht]; omega, fun i hi => ?_⟩
        cases i with
        | zero => exact fun e => c e.symm
        | succ i =>
          have := h3 i (by omega)
          rw [ht]; omega
      · refine .inr ⟨x :: l1, y, l2, by rw [e]; rfl, by rw [encL_cons, List.length_append]; omega, by rw [encL_cons, List.length_append]; omega, fun i hi => ?_⟩
        rw [List.length_cons] at hi
        cases i with
        | zero => exact fun e => c e.symm
        | succ i =>
          have := h3 i (by omega)
          rw [ht]; omega
end Go.Proofs.Ytkookenoedbadaa
