import Derived.Test.YtninlahlmjhmhaaTyStep
namespace Go.Ty
open Go.Ab (vcells plainC capU szOf zeroOf bytesOf aggT apart splice blkAt cellsAt)
section
variable {X : Cx} {M : Lk} {H H' : Heap} {v : Option SV} {e : Env} {e1 : Ab.Env}

theorem zero_cells {P : Program} {s : Sh} {t : TypeId} (h : shChk P s (.inl t) = true) : ∃ z, zeroOf P t = some z ∧ vcells z = zcells s ∧ (vcells z).all plainC = true := by
  have hv : vcells (mkV s.isAgg (zcells s)) = zcells s := (CellsA.zero (G := fun _ => none) (M := ⟨[], fun _ => none, fun _ => 0⟩) s).vcells
  exact ⟨_, shChk_zero h, hv, by rw [hv, List.all_eq_true]; exact zcells_plain s⟩

theorem allocA_sound (hX : XOK X) {t : TypeId} {s : Sh} {nid : Nat} (hs : X.sh t = some s) (hf : H nid = .fresh) (hH : HR (gl1 X) M H) :
    OpR X M H e1 (.alloc t) (some (.av (.cell (.ptr nid (.one s) [])))) (H.put nid (.live ⟨.one s (zeroA s), true⟩)) := by
  have hse := hX.sh _ _ hs
  obtain ⟨z, h1, h2, h3⟩ := zero_cells hse
  obtain ⟨k1, k2, k3, k4⟩ := new_step hH hf (x := ⟨.one s (zeroA s), true⟩) (B := { cells := vcells z, own := true, es := s.size }) (L := 0) rfl (by rw [h2]; exact CellsA.zero s) (fun _ _ h => by cases h)
  refine .mem (r1 := some (.pointer (some ⟨M.H1.length, 0, none⟩))) rfl (.refl _) ?_ (fun u hu => ?_) k1 k2
  · show (zeroOf X.P t).bind _ = _
    rw [h1]
    simp only [Option.bind_some]
    show (szOf X.P t).bind _ = _
    rw [shChk_sz hse]
    simp only [Option.bind_some, h3, cond_true]
  · injection hu with hu; subst hu
    exact ⟨_, rfl, .mkptr k3 (inP_nil s) (by simp only [offL, offS_nil])⟩

theorem boxA_sound (hX : XOK X) {t : TypeId} {x : Operand} {s : Sh} {nid : Nat} {a : AV} {u : Value} (hs : X.sh t = some s) (hx : Ab.evo e1 x = some u) (ha : VR (gl1 X) M a u) (hc : (a.norm s).conf s = true) (hf : H nid = .fresh) (hH : HR (gl1 X) M H) :
    OpR X M H e1 (.box t x) (some (.av (.cell (.ptr nid (.one s) [])))) (H.put nid (.live ⟨.one s (a.norm s), true⟩)) := by
  have hse := hX.sh _ _ hs
  obtain ⟨cs, g1, g2⟩ := norm_conf_cells hc ha
  have hv : vcells u = cs := by rw [g2]; exact g1.vcells
  obtain ⟨k1, k2, k3, k4⟩ := new_step hH hf (x := ⟨.one s (a.norm s), true⟩) (B := { cells := vcells u, own := true, es := s.size }) (L := 0) rfl (by rw [hv]; exact g1) (fun _ _ h => by cases h)
  refine .mem (r1 := some (.pointer (some ⟨M.H1.length, 0, none⟩))) rfl (.refl _) ?_ (fun u' hu => ?_) k1 k2
  · show (Ab.evo e1 x).bind _ = _
    rw [hx]
    simp only [Option.bind_some]
    show (szOf X.P t).bind _ = _
    rw [shChk_sz hse]
    have hnt := ha.nottup
    cases u <;> first | rfl | (simp [Ab.isTup] at hnt)
  · injection hu with hu; subst hu
    exact ⟨_, rfl, .mkptr k3 (inP_nil s) (by simp only [offL, offS_nil])⟩

/-- a new row -/
theorem newrow_step (hH : HR (gl1 X) M H) {nid : Nat} (hf : H nid = .fresh) {s : Sh} {xs : List s.T} {cs : List Value} (hs : 0 < s.size) (hc : AllC (Cells (gl1 X) M.H1 s) xs cs) {len : Nat} {cap : Option Nat} {c : Nat} (hl : len ≤ xs.length) (hcap : ∀ k, cap = some k → len ≤ k ∧ k ≤ xs.length) (hci : capIs xs.length 0 len cap c) :
    HR (gl1 X) ⟨M.H1 ++ [some { cells := cs, own := true, es := s.size }], updN M.mu nid (some M.H1.length), updN M.ln nid xs.length⟩ (H.put nid (.live ⟨.row s xs, true⟩)) ∧
    Ext M H ⟨M.H1 ++ [some { cells := cs, own := true, es := s.size }], updN M.mu nid (some M.H1.length), updN M.ln nid xs.length⟩ (H.put nid (.live ⟨.row s xs, true⟩)) ∧
    VR (gl1 X) ⟨M.H1 ++ [some { cells := cs, own := true, es := s.size }], updN M.mu nid (some M.H1.length), updN M.ln nid xs.length⟩ (.cell (.ref nid (.row s) [] s 0 len cap)) (.slice (some ⟨M.H1.length, 0, none⟩) len c) := by
  obtain ⟨k1, k2, k3, k4⟩ := new_step hH hf (x := ⟨.row s xs, true⟩) (B := { cells := cs, own := true, es := s.size }) (L := xs.length) rfl ⟨hc, rfl, hs⟩ (fun s' xs' h => by
    injection h with h1 h2; subst h1; have h2 := eq_of_heq h2; subst h2; rfl)
  refine ⟨k1, k2, .mkref (c := c) (o := 0) k3 (.inr ⟨rfl, rfl, by show 0 + len ≤ updN M.ln nid xs.length nid; rw [k4]; omega, fun k hk => ?_⟩) rfl (by simp [offL]) (.inl (by simp [offL])) (by show capIs (updN M.ln nid xs.length nid) 0 len cap c; rw [k4]; exact hci)⟩
  show len ≤ k ∧ 0 + k ≤ updN M.ln nid xs.length nid
  rw [k4]; have := hcap k hk; omega

theorem buildSliceA_sound (hX : XOK X) (he : ER X M e e1) {t : TypeId} {len nid : Nat} {parts : Array (Nat × Operand)} (h : Ex (opA X e nid (.buildSlice t len parts)) H v H') (hH : HR (gl1 X) M H) : OpR X M H e1 (.buildSlice t len parts) v H' := by
  unfold opA at h
  simp only [Ex_ofO, Ex_bif, Ex_fail, and_false, false_or] at h
  obtain ⟨⟨isA, n0, s⟩, het, hg, ps, hps, h⟩ := h
  simp only [Bool.or_eq_false_iff, Bool.not_eq_false', Nat.ble_eq] at hg
  obtain ⟨⟨⟨hA, hsz0⟩, hbig⟩, hl0⟩ := hg
  rcases elemT_arr het with ⟨rfl, hs⟩ | ⟨rfl, hs⟩
  · cases hA
  obtain ⟨el, hu, hse⟩ := shChk_sl (hX.sh _ _ hs)
  have hsz : 0 < s.size := by
    rcases Nat.eq_zero_or_pos s.size with h0 | h0
    · rw [h0] at hsz0; simp at hsz0
    · exact h0
  obtain ⟨l, hl, hpr⟩ := partsA_sound hX he hps
  obtain ⟨ps', Hm, H1m, g1, g2, g3, g4, g5⟩ := frzP_sound h hpr hH
  simp only [Ex_ofO, Ex_new, Ex_pure] at g1
  obtain ⟨xs, hxs, hf, rfl, rfl⟩ := g1
  obtain ⟨z, z1, z2, z3⟩ := zero_cells hse
  have hz0 : AllC (Cells (gl1 X) H1m s) (List.replicate len s.dft) (Ab.zerosN (zcells s) len) := .replicate (Cells.zero s) len
  obtain ⟨cs, f1, f2, f3⟩ := elems_fill (M := ⟨H1m, M.mu, M.ln⟩) hxs g3 hz0
  rw [List.length_replicate] at f3
  have hcu : len < capU := by
    have := Nat.le_mul_of_pos_right len hsz
    simp only [capU]; omega
  obtain ⟨k1, k2, k3⟩ := newrow_step (M := ⟨H1m, M.mu, M.ln⟩) (len := len) (cap := none) (c := len) g4 hf hsz f2 (by omega) (fun _ h => by cases h) (.inr ⟨hcu, Nat.le_refl _, by omega⟩)
  refine .mem rfl g2 (r1 := some (.slice (some ⟨H1m.length, 0, none⟩) len len)) ?_ (fun u hu => ?_) k1 (g5.trans k2)
  · show (match X.P.underlying t with | some (.slice el) => _ | _ => none) = _
    rw [hu]
    simp only [x1]
    rw [shChk_sz hse, z1]
    simp only [Option.bind_some, hl, z2, f1]
    rw [if_pos ⟨by omega, hsz, zcells_len s, by rw [← z2]; exact z3⟩]
  · injection hu with hu; subst hu
    exact ⟨_, rfl, k3⟩

theorem num_sound {a : AV} {u : Value} {i : Int} (h : numA a = some i) (ha : VR (gl1 X) M a u) : Ab.aint u = some i := by
  unfold numA at h
  split at h
  · have ha := ha.int; subst ha; exact h
  · cases h
theorem evnum (hX : XOK X) (he : ER X M e e1) {x : Operand} {i : Int} (h : (evA X e x).bind numA = some i) : (Ab.evo e1 x).bind Ab.aint = some i := by
  obtain ⟨a, ha, hi⟩ := Option.bind_eq_some_iff.1 h
  obtain ⟨u, g1, g2⟩ := evA_sound hX he ha
  rw [g1]; exact num_sound hi g2

theorem makeSliceA_sound (hX : XOK X) (he : ER X M e e1) {t : TypeId} {l c : Operand} {nid : Nat} (h : Ex (opA X e nid (.makeSlice t l c)) H v H') (hH : HR (gl1 X) M H) : OpR X M H e1 (.makeSlice t l c) v H' := by
  unfold opA at h
  simp only [Ex_ofO, Ex_bif, Ex_fail, and_false, false_or] at h
  obtain ⟨⟨isA, n0, s⟩, het, hg, li, hli, ci, hci, h⟩ := h
  simp only [Bool.or_eq_false_iff] at hg
  obtain ⟨hA, hsz0⟩ := hg
  rcases elemT_arr het with ⟨rfl, hs⟩ | ⟨rfl, hs⟩
  · cases hA
  obtain ⟨el, hu, hse, hby⟩ := shChk_slb (hX.sh _ _ hs)
  have hsz : 0 < s.size := by
    rcases Nat.eq_zero_or_pos s.size with h0 | h0
    · rw [h0] at hsz0; simp at hsz0
    · exact h0
  simp only [Ex_dem, Ex_new, Ex_pure, Bool.and_eq_true, decide_eq_true_eq] at h
  obtain ⟨⟨d1, d2, d3, d4⟩, hf, rfl, rfl⟩ := h
  obtain ⟨z, z1, z2, z3⟩ := zero_cells hse
  have hz0 : AllC (Cells (gl1 X) M.H1 s) (List.replicate ci.toNat s.dft) (Ab.zerosN (zcells s) ci.toNat) := .replicate (Cells.zero s) _
  obtain ⟨k1, k2, k3⟩ := newrow_step (len := li.toNat) (cap := some ci.toNat) (c := ci.toNat) hH hf hsz hz0 (by rw [List.length_replicate]; omega) (fun k hk => by injection hk with hk; rw [List.length_replicate]; omega) ⟨rfl, by simp only [capU]; omega⟩
  refine .mem (r1 := some (.slice (some ⟨M.H1.length, 0, none⟩) li.toNat ci.toNat)) rfl (.refl _) ?_ (fun u hu => ?_) k1 k2
  · show (match X.P.underlying t with | some (.slice el) => _ | _ => none) = _
    rw [hu]
    simp only [x1]
    rw [shChk_sz hse, hby, z1]
    simp only [Option.bind_some, evnum hX he hli, evnum hX he hci, z2]
    rw [if_pos ⟨d1, d2, by omega, by omega, hsz, zcells_len s, by rw [← z2]; exact z3⟩]
  · injection hu with hu; subst hu
    exact ⟨_, rfl, k3⟩

/-- a block that is no longer looked at -/
theorem drop_step (hH : HR (gl1 X) M H) {b : Nat} {x : Blk} (hb : H b = .live x) : HR (gl1 X) M (H.put b .dead) ∧ Ext M H M (H.put b .dead) := by
  constructor
  · refine { live := fun k y hk => ?_, inj := ?_, fresh := ?_, lt := hH.lt }
    · rw [put_at] at hk
      by_cases e : k = b
      · rw [if_pos e] at hk; cases hk
      · rw [if_neg e] at hk; exact hH.live k y hk
    · intro k k' y y' j hk hk' hoy hm hm'
      rw [put_at] at hk hk'
      by_cases e : k = b
      · rw [if_pos e] at hk; cases hk
      · by_cases e' : k' = b
        · rw [if_pos e'] at hk'; cases hk'
        · rw [if_neg e] at hk; rw [if_neg e'] at hk'
          exact hH.inj k k' y y' j hk hk' hoy hm hm'
    · intro k hk
      rw [put_at] at hk
      by_cases e : k = b
      · rw [if_pos e] at hk; cases hk
      · rw [if_neg e] at hk; exact hH.fresh k hk
  · refine { len := Nat.le_refl _, mu := fun _ _ h => ⟨h, rfl⟩, keep := fun j b' hb' hf => ⟨hb', fun k y hk hoy => ?_⟩, ro := fun _ _ h _ => h }
    rw [put_at] at hk
    by_cases e : k = b
    · rw [if_pos e] at hk; cases hk
    · rw [if_neg e] at hk; exact hf k y hk hoy
/-- a block that gets another number -/
theorem rename_step (hH : HR (gl1 X) M H) {b nid : Nat} {x : Blk} (hb : H b = .live x) (ho : x.own = true) (hf : H nid = .fresh) {i : Nat} (hi : M.mu b = some i) {c' : Cont} (hc : ∀ B, ContR (gl1 X) M x.c B → ContR (gl1 X) M c' B) (hl : ∀ s xs, c' = .row s xs → xs.length = M.ln b) :
    HR (gl1 X) ⟨M.H1, updN M.mu nid (some i), updN M.ln nid (M.ln b)⟩ ((H.put b .dead).put nid (.live ⟨c', true⟩)) ∧ Ext M H ⟨M.H1, updN M.mu nid (some i), updN M.ln nid (M.ln b)⟩ ((H.put b .dead).put nid (.live ⟨c', true⟩)) := by
  have hne : nid ≠ b := by rintro rfl; rw [hf] at hb; cases hb
  have hnone := hH.fresh nid hf
  have hm : ∀ k i', M.mu k = some i' → updN M.mu nid (some i) k = some i' ∧ updN M.ln nid (M.ln b) k = M.ln k := by
    intro k i' hk
    have e : k ≠ nid := by rintro rfl; rw [hnone] at hk; cases hk
    exact ⟨by unfold updN; rw [if_neg e]; exact hk, by unfold updN; rw [if_neg e]⟩
  have look : ∀ k y, ((H.put b .dead).put nid (.live ⟨c', true⟩)) k = .live y → (k = nid ∧ y = ⟨c', true⟩) ∨ (k ≠ nid ∧ k ≠ b ∧ H k = .live y) := by
    intro k y hk
    rw [put_at] at hk
    by_cases e : k = nid
    · rw [if_pos e] at hk; injection hk with hk; exact .inl ⟨e, hk.symm⟩
    · rw [if_neg e, put_at] at hk
      by_cases e2 : k = b
      · rw [if_pos e2] at hk; cases hk
      · rw [if_neg e2] at hk; exact .inr ⟨e, e2, hk⟩
  refine ⟨{ live := fun k y hk => ?_, inj := ?_, fresh := ?_, lt := ?_ }, { len := Nat.le_refl _, mu := hm, keep := fun j b' hb' hfo => ⟨hb', fun k y hk hoy => ?_⟩, ro := fun _ _ h _ => h }⟩
  · rcases look k y hk with ⟨rfl, rfl⟩ | ⟨e1, e2, hk⟩
    · obtain ⟨i', B, g1, g2, g3, g4, g5⟩ := hH.live b x hb
      rw [hi] at g1; cases g1
      exact ⟨i, B, by simp [updN], g2, by rw [g3, ho], (hc B g4).mono (M := M) (M' := ⟨M.H1, updN M.mu k (some i), updN M.ln k (M.ln b)⟩) (fun _ _ h _ => h) hm, fun s xs h => by rw [hl s xs h]; simp [updN]⟩
    · obtain ⟨i', B, g1, g2, g3, g4, g5⟩ := hH.live k y hk
      exact ⟨i', B, (hm k i' g1).1, g2, g3, g4.mono (M := M) (M' := ⟨M.H1, updN M.mu nid (some i), updN M.ln nid (M.ln b)⟩) (fun _ _ h _ => h) hm, fun s xs h => by rw [g5 s xs h]; exact (hm k i' g1).2.symm⟩
  · intro k k' y y' j hk hk' hoy hmk hmk'
    have at_ : ∀ k, updN M.mu nid (some i) k = some j → (k = nid ∧ j = i) ∨ (k ≠ nid ∧ M.mu k = some j) := by
      intro k h
      unfold updN at h
      by_cases e : k = nid
      · rw [if_pos e] at h; injection h with h; exact .inl ⟨e, h.symm⟩
      · rw [if_neg e] at h; exact .inr ⟨e, h⟩
    rcases look k y hk with ⟨e1, e1'⟩ | ⟨e1, e1', hk1⟩ <;> rcases look k' y' hk' with ⟨e2, e2'⟩ | ⟨e2, e2', hk2⟩
    · rw [e1, e2]
    · rcases at_ k' hmk' with ⟨h1, _⟩ | ⟨_, h1⟩
      · exact absurd h1 e2
      · rcases at_ k hmk with ⟨_, h2⟩ | ⟨h2, _⟩
        · subst h2
          exact absurd (hH.inj b k' x y' j hb hk2 ho hi h1) (fun h => e2' h.symm)
        · exact absurd e1 h2
    · rcases at_ k hmk with ⟨h1, _⟩ | ⟨_, h1⟩
      · exact absurd h1 e1
      · rcases at_ k' hmk' with ⟨_, h2⟩ | ⟨h2, _⟩
        · subst h2
          exact absurd (hH.inj k b y x j hk1 hb hoy h1 hi) e1'
        · exact absurd e2 h2
    · rcases at_ k hmk with ⟨h1, _⟩ | ⟨_, h1⟩
      · exact absurd h1 e1
      · rcases at_ k' hmk' with ⟨h2, _⟩ | ⟨_, h2⟩
        · exact absurd h2 e2
        · exact hH.inj k k' y y' j hk1 hk2 hoy h1 h2
  · intro k hk
    rw [put_at] at hk
    show updN M.mu nid (some i) k = none
    unfold updN
    by_cases e : k = nid
    · rw [if_pos e] at hk; cases hk
    · rw [if_neg e] at hk ⊢
      rw [put_at] at hk
      by_cases e2 : k = b
      · rw [if_pos e2] at hk; cases hk
      · rw [if_neg e2] at hk; exact hH.fresh k hk
  · intro k j hk
    have hk : updN M.mu nid (some i) k = some j := hk
    unfold updN at hk
    by_cases e : k = nid
    · rw [if_pos e] at hk; injection hk with hk; subst hk; exact hH.lt b _ hi
    · rw [if_neg e] at hk; exact hH.lt k j hk
  · show updN M.mu nid (some i) k ≠ some j
    rcases look k y hk with ⟨rfl, rfl⟩ | ⟨e1, e2, hk⟩
    · simp only [updN, if_true]
      intro h; injection h with h; subst h
      exact hfo b x hb ho hi
    · unfold updN; rw [if_neg e1]; exact hfo k y hk hoy

theorem set_same1 {A : Ab.Heap} {i : Nat} {B : Ab.Blk} (h : A[i]? = some (some B)) : A.set i (some B) = A := by
  apply List.ext_getElem?; intro j
  rw [set_at h]
  by_cases e : j = i
  · subst e; rw [if_pos rfl, h]
  · rw [if_neg e]

theorem appendA_sound (hX : XOK X) {nid : Nat} {t : TypeId} {d x : AV} {ud ux : Value} (h : Ex (appendA X nid t d x) H v H') (hd : VR (gl1 X) M d ud) (hx : VR (gl1 X) M x ux) (hH : HR (gl1 X) M H) :
    ∃ y v1 H1' mu' ln', v = some (.av y) ∧ Ab.aappend (x1 X) M.H1 t ud ux = some (v1, H1') ∧ VR (gl1 X) ⟨H1', mu', ln'⟩ y v1 ∧ HR (gl1 X) ⟨H1', mu', ln'⟩ H' ∧ Ext M H ⟨H1', mu', ln'⟩ H' := by
  unfold appendA at h
  simp only [Ex_ofO, Ex_bif, Ex_fail, and_false, false_or] at h
  obtain ⟨⟨isA, n0, s⟩, het, hg, hb0, h⟩ := h
  simp only [Bool.or_eq_false_iff] at hg
  obtain ⟨hA, hsz0⟩ := hg
  rcases elemT_arr het with ⟨rfl, hs⟩ | ⟨rfl, hs⟩
  · cases hA
  obtain ⟨el, hu, hse, hby⟩ := shChk_slb (hX.sh _ _ hs)
  have hb0 : Nat.beq s.bytes 0 = false := hb0
  have hsz : 0 < s.size := by
    rcases Nat.eq_zero_or_pos s.size with h0 | h0
    · rw [h0] at hsz0; simp at hsz0
    · exact h0
  have hbp : 0 < s.bytes := by
    rcases Nat.eq_zero_or_pos s.bytes with h0 | h0
    · rw [h0] at hb0; simp at hb0
    · exact h0
  dsimp only at h
  obtain ⟨ys, cs, hk, hys, hlen, hrow, hone⟩ := rowA_sound h hx hH
  clear h
  have h := hk
  clear hk
  obtain ⟨z, z1, z2, z3⟩ := zero_cells hse
  have hcl := hys.length fun _ _ h => Cells.length h
  have hrow1 : Ab.rowOf (x1 X) M.H1 s.size ys.length ux = some cs := by
    rw [hrow _ (Nat.le_refl _), List.take_of_length_le (by omega)]
  have hz2 : Nat.beq (vcells z).length s.size = true := by rw [z2, zcells_len]; exact Nat.beq_refl _
  have head : ∀ {a : Option Addr} {l cap : Nat}, Ab.aappend (x1 X) M.H1 t (.slice a l cap) ux =
      bif Nat.beq cap capU then
        match a with
        | some ⟨i, 0, none⟩ => (blkAt M.H1 i).bind fun b =>
          if b.own ∧ b.es = s.size ∧ 0 < s.size ∧ 0 < s.bytes ∧ b.cells.length = l * s.size ∧ (l + ys.length) * s.bytes ≤ 2 ^ 47 then
            some (.slice (some ⟨M.H1.length, 0, none⟩) (l + ys.length) capU, M.H1.set i none ++ [some { cells := b.cells ++ cs, own := true, es := s.size }])
          else none
        | _ => none
      else if l + ys.length ≤ cap then
        match a with
        | none => some (.slice a l cap, M.H1)
        | some ⟨i, off, none⟩ =>
          if ys.length = 0 then some (.slice a l cap, M.H1)
          else (blkAt M.H1 i).bind fun b => if b.own ∧ off + (l + ys.length) * s.size ≤ b.cells.length then some (.slice a (l + ys.length) cap, M.H1.set i (some { b with cells := splice b.cells (off + l * s.size) cs })) else none
        | _ => none
      else if 0 < s.size ∧ 0 < s.bytes ∧ (l + ys.length) * s.bytes ≤ 2 ^ 47 then
        (Ab.rowOf (x1 X) M.H1 s.size l (.slice a l cap)).bind fun old => some (.slice (some ⟨M.H1.length, 0, none⟩) (l + ys.length) capU, M.H1 ++ [some { cells := old ++ cs, own := true, es := s.size }])
      else none := by
    intro a l cap
    unfold Ab.aappend
    rw [show (x1 X).P = X.P from rfl, hu]
    simp only
    rw [shChk_sz hse, hby, z1]
    simp only [Option.bind_some]
    rw [hlen]
    simp only [Option.bind_some]
    rw [hrow1]
    simp only [Option.bind_some, hone, hz2, Bool.and_self, Bool.not_true, cond_false]
    rfl
  cases d with
  | val _ _ => simp at h
  | two _ _ => simp at h
  | cell q =>
  cases q with
  | ptr _ _ _ => simp at h
  | fptr _ _ => simp at h
  | fn _ => simp at h
  | nilS =>
    -- nothing ahead
    have hd := hd.cell
    have hd : ud = .slice none 0 0 := hd
    subst hd
    simp only [Ex_dem, Ex_new, Ex_pure, Bool.and_eq_true, Nat.ble_eq, Bool.not_eq_true'] at h
    obtain ⟨⟨h1, h2⟩, hf, rfl, rfl⟩ := h
    have h2 : ys.length ≠ 0 := by intro h; rw [h] at h2; simp at h2
    obtain ⟨k1, k2, k3⟩ := newrow_step (len := ys.length) (cap := none) (c := capU) hH hf hsz hys (Nat.le_refl _) (fun _ h => by cases h) (.inl rfl)
    refine ⟨_, .slice (some ⟨M.H1.length, 0, none⟩) ys.length capU, M.H1 ++ [some { cells := cs, own := true, es := s.size }], _, _, rfl, ?_, k3, k1, k2⟩
    rw [head]
    simp only [show Nat.beq 0 capU = false from rfl, cond_false, Nat.zero_add]
    rw [if_neg (by omega), if_pos ⟨hsz, hbp, by omega⟩]
    simp [Ab.rowOf]
  | ref b r p e' off len cap =>
    dsimp only at h
    simp only [Ex_bif, Ex_fail, and_false, or_false] at h
    obtain ⟨he, h⟩ := h
    have he : e' = s := Sh.eq_of_beq he
    subst he
    obtain ⟨i, cc, o, q1, q2, rfl, q3, q4, q5⟩ := hd.cell
    split at h
    · -- as long as may be
      simp only [Ex_look, Ex_bif, Ex_fail, and_false, or_false, Bool.and_eq_true] at h
      obtain ⟨k, hb, ⟨ho, hoff⟩, h⟩ := h
      have hoff := Nat.eq_of_beq_eq_true hoff
      subst hoff
      rcases q2 with ⟨n, c', k1, k2, k3, k4, k5⟩ | ⟨k1, k2, k3, k4⟩
      · cases k3
      subst k1; subst k2
      obtain ⟨i', B, g1, g2, g3, g4, g5⟩ := hH.live b k hb
      rw [q1] at g1; cases g1
      have hBo : B.own = true := by rw [g3, ho]
      split at h
      · rename_i s xs hkc _
        simp only [Ex_ofO, Ex_dem, Ex_kill, Ex_new, Ex_pure, Bool.and_eq_true, Nat.ble_eq] at h
        obtain ⟨xs', hxs, ⟨hl1, hl2⟩, y, hby', hf, rfl, rfl⟩ := h
        have hee := castSl_eq hxs; subst hee
        have hee := (castSl_same hxs).symm; subst hee
        have hl1 := Nat.eq_of_beq_eq_true hl1
        subst hl1
        rw [hkc] at g4
        have hlx := g5 s xs hkc
        obtain ⟨g4a, g4b, g4c⟩ := g4
        have hBl := g4a.length fun _ _ h => h.length
        have hap := g4a.append hys
        have hne : nid ≠ b := by rintro rfl; rw [put_at, if_pos rfl] at hf; cases hf
        have hf0 : H nid = .fresh := by rw [put_at, if_neg hne] at hf; exact hf
        by_cases hcU : cc = capU
        · subst hcU
          have ho0 : o = 0 := by
            rcases q4 with q4 | q4
            · rw [q4]; simp [offL]
            · simp [capU] at q4
          subst ho0
          obtain ⟨w1, w2⟩ := kill_step hH hb ho q1 g2 hBo
          have hap' : AllC (Cells (gl1 X) (M.H1.set i none) s) (xs ++ ys) (B.cells ++ cs) := hap.mono fun _ _ h => h.mono w2.ro
          obtain ⟨n1, n2, n3⟩ := newrow_step (M := ⟨M.H1.set i none, M.mu, M.ln⟩) (len := xs.length + ys.length) (cap := none) (c := capU) w1 hf hsz hap' (by rw [List.length_append]; omega) (fun _ h => by cases h) (.inl rfl)
          refine ⟨_, .slice (some ⟨M.H1.length, 0, none⟩) (xs.length + ys.length) capU, M.H1.set i none ++ [some { cells := B.cells ++ cs, own := true, es := s.size }], _, _, rfl, ?_, by simpa using n3, n1, w2.trans n2⟩
          rw [head]
          simp only [Nat.beq_refl, cond_true, blkAt, g2, Option.bind_some, id]
          rw [if_pos ⟨hBo, g4b, hsz, hbp, hBl, by omega⟩]
        · obtain ⟨q5, q6, q7⟩ := q5.resolve_left hcU
          have hcc : cc = xs.length := by omega
          subst hcc
          have hbq : Nat.beq xs.length capU = false := by
            cases hbq : Nat.beq xs.length capU with
            | false => rfl
            | true => exact absurd (Nat.eq_of_beq_eq_true hbq) hcU
          by_cases hn : ys.length = 0
          · have hys0 : ys = [] := List.length_eq_zero_iff.1 hn
            subst hys0
            have hcs0 : cs = [] := hys
            subst hcs0
            obtain ⟨w1, w2⟩ := rename_step hH hb ho hf0 q1 (c' := .row s (xs ++ [])) (fun B hB => by rw [hkc] at hB; simpa using hB) (fun s' xs' h' => by
              injection h' with h1 h2; subst h1; have h2 := eq_of_heq h2; subst h2; simpa using hlx)
            refine ⟨_, .slice (some ⟨i, o, none⟩) xs.length xs.length, M.H1, _, _, rfl, ?_, ?_, w1, w2⟩
            · rw [head]
              simp only [hbq, cond_false, List.length_nil, Nat.add_zero, Nat.le_refl, if_true]
            · refine .mkref (c := xs.length) (o := o) (i := i) (by simp [updN]) (.inr ⟨rfl, rfl, ?_, by simp⟩) (by simp) (by simpa [offL] using q3) ?_ (.inr ⟨q5, by simp, ?_⟩)
              · simp [updN, hlx]
              · simpa [offL] using q4
              · simp [updN, hlx]
          · obtain ⟨w1, w2⟩ := drop_step hH hb
            obtain ⟨n1, n2, n3⟩ := newrow_step (len := xs.length + ys.length) (cap := none) (c := capU) w1 hf hsz hap (by rw [List.length_append]; omega) (fun _ h => by cases h) (.inl rfl)
            refine ⟨_, .slice (some ⟨M.H1.length, 0, none⟩) (xs.length + ys.length) capU, M.H1 ++ [some { cells := B.cells ++ cs, own := true, es := s.size }], _, _, rfl, ?_, n3, n1, w2.trans n2⟩
            rw [head]
            simp only [hbq, cond_false]
            rw [if_neg (by omega), if_pos ⟨hsz, hbp, by omega⟩]
            have hold : Ab.rowOf (x1 X) M.H1 s.size xs.length (.slice (some ⟨i, o, none⟩) xs.length xs.length) = some B.cells := by
              simp only [Ab.rowOf]
              cases hl0 : Nat.beq xs.length 0 with
              | true =>
                have hl0 := Nat.eq_of_beq_eq_true hl0
                rw [hl0, Nat.zero_mul] at hBl
                rw [List.length_eq_zero_iff.1 hBl]; rfl
              | false =>
                have hl0' : xs.length ≠ 0 := by intro h0; rw [h0] at hl0; simp at hl0
                have ho0 : o = 0 := by
                  rcases q4 with q4 | q4
                  · rw [q4]; simp [offL]
                  · omega
                subst ho0
                simp only [cond_false, cellsAt_blk (X := X) (M := M) g2, Option.bind_some]
                rw [if_pos (by omega), ← hBl]; simp
            rw [hold]; rfl
      · simp at h
    · -- within what there is
      rename_i c0
      simp only [Ex_look, Ex_bif, Ex_ofO, Ex_dem, Ex_put, Ex_pure, Ex_fail, and_false, or_false, Bool.and_eq_true, Nat.ble_eq] at h
      obtain ⟨k, hb, ⟨hlay, ho⟩, c', hc', hle, y, hy, rfl, rfl⟩ := h
      have hlay := Lay.eq_of_beq hlay
      obtain ⟨q5, q6⟩ := q5
      subst q5
      obtain ⟨i', B, g1, g2, g3, g4, g5⟩ := hH.live b k hb
      rw [q1] at g1; cases g1
      have hBo : B.own = true := by rw [g3, ho]
      obtain ⟨w1, w2, w3⟩ := setRowC_cells g4 hlay g5 q2 hc' hys (fun n hn' => by
        rcases hn' with ⟨q, k1, rfl⟩ | ⟨k1, k2, rfl⟩
        · rcases q2 with ⟨n, c2, z1, z2, z3, z4, z5⟩ | ⟨z1, z2, z3, z4⟩
          · rw [k1] at z1; cases z1; cases z3; omega
          · subst z1; subst z2; simp [subL] at k1
        · rcases q2 with ⟨n, c2, z1, z2, z3, z4, z5⟩ | ⟨z1, z2, z3, z4⟩
          · subst k1; subst k2; simp [subL] at z1
          · have := z4 cc rfl; omega)
      obtain ⟨p1, p2⟩ := put_step hH hb ho q1 g2 hBo (B' := { B with cells := put B.cells (offL r p + (off + len) * e'.size) cs }) hBo w1 w3
      have hbq : Nat.beq cc capU = false := by
        cases hbq : Nat.beq cc capU with
        | false => rfl
        | true => have := Nat.eq_of_beq_eq_true hbq; omega
      have href : ∀ (H1' : Ab.Heap), VR (gl1 X) ⟨H1', M.mu, M.ln⟩ (.cell (.ref b r p e' off (len + ys.length) (some cc))) (.slice (some ⟨i, o, none⟩) (len + ys.length) cc) := by
        intro H1'
        refine .mkref (c := cc) (o := o) q1 ?_ rfl q3 q4 ⟨rfl, q6⟩
        rcases q2 with ⟨n, c2, z1, z2, z3, z4, z5⟩ | ⟨z1, z2, z3, z4⟩
        · cases z3; exact .inl ⟨n, cc, z1, z2, rfl, by omega, z5⟩
        · have := z4 cc rfl
          refine .inr ⟨z1, z2, by show off + (len + ys.length) ≤ M.ln b; omega, fun c2 hc2 => ?_⟩
          injection hc2 with hc2; subst hc2
          show len + ys.length ≤ cc ∧ off + cc ≤ M.ln b
          omega
      by_cases hn : ys.length = 0
      · have hcs0 : cs = [] := by rw [hn, Nat.zero_mul] at hcl; exact List.length_eq_zero_iff.1 hcl
        have e1 : ({ B with cells := put B.cells (offL r p + (off + len) * e'.size) cs } : Ab.Blk) = B := by
          rw [hcs0]
          have : put B.cells (offL r p + (off + len) * e'.size) [] = B.cells := by unfold put; simp
          rw [this]
        rw [e1, set_same1 g2] at p1 p2
        refine ⟨_, _, M.H1, _, _, rfl, ?_, href _, p1, p2⟩
        rw [head]
        simp only [hbq, cond_false]
        rw [if_pos hle]
        simp only [hn, if_true, Nat.add_zero]
      · have ho2 : o = offL r p + off * e'.size := by
          rcases q4 with q4 | q4
          · exact q4
          · omega
        refine ⟨_, _, _, _, _, rfl, ?_, href _, p1, p2⟩
        rw [head]
        simp only [hbq, cond_false]
        rw [if_pos hle]
        simp only [if_neg hn, blkAt, g2, Option.bind_some, id]
        have e3 : o + len * e'.size = offL r p + (off + len) * e'.size := by rw [ho2, Nat.add_mul]; omega
        have e4 : o + (len + ys.length) * e'.size = offL r p + (off + len) * e'.size + cs.length := by rw [hcl, ho2, Nat.add_mul, Nat.add_mul]; omega
        rw [if_pos ⟨hBo, by rw [e4]; exact w2⟩, e3, splice_put w2]
end
end Go.Ty
