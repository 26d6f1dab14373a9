import Derived.Test.YtninlahlmjhmhaaTyRel
import Derived.Test.YtninlahlmjhmhaaAbOps
namespace Go.Ty
open Go.Ab (vcells plainC capU szOf zeroOf aggT apart splice)

/-! ## What a checked type is -/
theorem zvEq_eq {a b : Value} (h : zvEq a b = true) : a = b := by
  unfold zvEq at h
  split at h
  · simp only [Bool.and_eq_true, decide_eq_true_eq] at h; rw [h.1, h.2]
  · simp only [beq_iff_eq] at h; rw [h]
  · rename_i x y
    simp only [Bool.and_eq_true] at h
    have e : ∀ z : ByteArray, Nat.beq z.size 0 = true → z = ⟨#[]⟩ := by
      intro z hz
      have hz := Nat.eq_of_beq_eq_true hz
      cases z with
      | mk d => have : d = #[] := Array.eq_empty_of_size_eq_zero hz; rw [this]
    rw [e x h.1, e y h.2]
  all_goals first | rfl | cases h
theorem zlEq_eq : ∀ {a b : List Value}, zlEq a b = true → a = b
  | [], [], _ => rfl
  | x :: a, y :: b, h => by
    simp only [zlEq, Bool.and_eq_true] at h
    rw [zvEq_eq h.1, zlEq_eq h.2]

section
variable {P : Program} {s : Sh} {t : TypeId}
theorem szChk_sz (h : szChk P s t = true) : szOf P t = some s.size := by
  unfold szChk at h
  rw [Bool.and_eq_true] at h
  have h := h.1
  split at h
  · rename_i n hn; rw [hn, Nat.eq_of_beq_eq_true h]
  · cases h
theorem szChk_zero (h : szChk P s t = true) : zeroOf P t = some (mkV s.isAgg (zcells s)) := by
  unfold szChk at h
  rw [Bool.and_eq_true] at h
  have h := h.2
  split at h
  · rename_i cs hz
    rw [Bool.and_eq_true] at h
    rw [hz, h.1, ← zlEq_eq h.2]; rfl
  · rename_i v _ hz
    rw [Bool.and_eq_true, Bool.not_eq_true'] at h
    rw [hz, h.1, ← zlEq_eq h.2]; rfl
  · cases h
theorem shChk_szChk (h : shChk P s (.inl t) = true) : szChk P s t = true := by
  cases s with
  | non k => cases k <;> (simp only [shChk, Bool.and_eq_true] at h; exact h.2)
  | _ => simp only [shChk, Bool.and_eq_true] at h; exact h.2
theorem shChk_sz (h : shChk P s (.inl t) = true) : szOf P t = some s.size := szChk_sz (shChk_szChk h)
theorem shChk_zero (h : shChk P s (.inl t) = true) : zeroOf P t = some (mkV s.isAgg (zcells s)) := szChk_zero (shChk_szChk h)
theorem shChk_arr {n : Nat} (h : shChk P (.arr n s) (.inl t) = true) : ∃ e, P.underlying t = some (.array n e) ∧ shChk P s (.inl e) = true := by
  simp only [shChk, Bool.and_eq_true] at h
  have h := h.1
  split at h
  · rename_i m e he
    rw [Bool.and_eq_true] at h
    exact ⟨e, by rw [he, Nat.eq_of_beq_eq_true h.1], h.2⟩
  · cases h
theorem shChk_slb (h : shChk P (.sl s) (.inl t) = true) : ∃ e, P.underlying t = some (.slice e) ∧ shChk P s (.inl e) = true ∧ Ab.bytesOf P e = some s.bytes := by
  simp only [shChk, Bool.and_eq_true] at h
  have h := h.1
  split at h
  · rename_i e he
    rw [Bool.and_eq_true] at h
    refine ⟨e, he, h.1, ?_⟩
    have h2 := h.2
    split at h2
    · rename_i n hn; rw [hn, Nat.eq_of_beq_eq_true h2]
    · cases h2
  · cases h
theorem shChk_sl (h : shChk P (.sl s) (.inl t) = true) : ∃ e, P.underlying t = some (.slice e) ∧ shChk P s (.inl e) = true := by
  obtain ⟨e, h1, h2, _⟩ := shChk_slb h
  exact ⟨e, h1, h2⟩
theorem shChk_int {k : IntKind} (h : shChk P (.int k) (.inl t) = true) : P.underlying t = some (.int k) := by
  simp only [shChk, Bool.and_eq_true] at h
  have h := h.1
  split at h
  · rename_i j he; rw [he]; simp only [decide_eq_true_eq] at h; rw [h]
  · cases h
theorem shChk_bool (h : shChk P .bool (.inl t) = true) : P.underlying t = some .bool := by
  simp only [shChk, Bool.and_eq_true] at h
  have h := h.1
  split at h
  · rename_i he; exact he
  · cases h
theorem shChk_str (h : shChk P .str (.inl t) = true) : P.underlying t = some .string := by
  simp only [shChk, Bool.and_eq_true] at h
  have h := h.1
  split at h
  · rename_i he; exact he
  · cases h
theorem shChk_pair {a b : Sh} (h : shChk P (.pair a b) (.inl t) = true) : ∃ fs, P.underlying t = some (.struct fs) ∧ shChk P (.pair a b) (.inr (fs.toList, 0)) = true := by
  simp only [shChk, Bool.and_eq_true] at h
  have h := h.1
  split at h
  · rename_i f r he
    refine ⟨⟨f :: r⟩, he, ?_⟩
    simp only [Bool.and_eq_true] at h
    simp only [shChk, Bool.and_eq_true, Nat.zero_add]
    exact h
  · cases h
theorem shChk_unit (h : shChk P .unit (.inl t) = true) : P.underlying t = some (.struct #[]) := by
  simp only [shChk, Bool.and_eq_true] at h
  have h := h.1
  split at h
  · rename_i he; exact he
  · cases h
theorem shChk_und (h : shChk P s (.inl t) = true) : ∃ d, P.underlying t = some d ∧ aggT d = s.isAgg := by
  cases s with
  | int k => exact ⟨_, shChk_int h, rfl⟩
  | bool => exact ⟨_, shChk_bool h, rfl⟩
  | str => exact ⟨_, shChk_str h, rfl⟩
  | non k =>
    cases k <;> simp only [shChk, Bool.and_eq_true] at h <;> (have h := h.1; split at h <;> first | (rename_i he; exact ⟨_, he, rfl⟩) | cases h)
  | unit => exact ⟨_, shChk_unit h, rfl⟩
  | pair a b => obtain ⟨fs, h1, _⟩ := shChk_pair h; exact ⟨_, h1, rfl⟩
  | arr n s => obtain ⟨e, h1, _⟩ := shChk_arr h; exact ⟨_, h1, rfl⟩
  | sl s => obtain ⟨e, h1, _⟩ := shChk_sl h; exact ⟨_, h1, rfl⟩

/-- the fields of a struct's shape -/
theorem fields_sh : ∀ {s : Sh} {l : List Field} {off f : Nat}, shChk P s (.inr (l, off)) = true → (∀ fld, l[f]? = some fld → ∃ sf, subS s (fieldP f) = some sf ∧ fld.offset = off + offS s (fieldP f) ∧ shChk P sf (.inl fld.type) = true) ∧
    (∀ sf, subS s (fieldP f) = some sf → ∃ fld, l[f]? = some fld)
  | .unit, [], off, f, _ => ⟨fun fld h => by simp at h, fun sf h => by cases f <;> simp [fieldP, subS] at h⟩
  | .unit, _ :: _, _, _, h => by simp [shChk] at h
  | .pair a b, [], _, _, h => by simp [shChk] at h
  | .pair a b, g :: r, off, 0, h => by
    simp only [shChk, Bool.and_eq_true] at h
    refine ⟨fun fld hf => ?_, fun sf _ => ⟨g, rfl⟩⟩
    simp only [List.getElem?_cons_zero, Option.some.injEq] at hf
    subst hf
    exact ⟨a, by simp [fieldP, subS], by rw [Nat.eq_of_beq_eq_true h.1]; simp [fieldP, offS], h.2.1⟩
  | .pair a b, g :: r, off, f + 1, h => by
    simp only [shChk, Bool.and_eq_true] at h
    obtain ⟨h1, h2⟩ := fields_sh (f := f) h.2.2
    refine ⟨fun fld hf => ?_, fun sf hs => ?_⟩
    · obtain ⟨sf, g1, g2, g3⟩ := h1 fld (by simpa using hf)
      exact ⟨sf, by simpa [fieldP, subS] using g1, by rw [g2]; simp [fieldP, offS]; omega, g3⟩
    · obtain ⟨fld, g1⟩ := h2 sf (by simpa [fieldP, subS] using hs)
      exact ⟨fld, by simpa using g1⟩
  | .int _, _, _, _, h | .bool, _, _, _, h | .str, _, _, _, h | .non _, _, _, _, h | .arr _ _, _, _, _, h | .sl _, _, _, _, h => by simp [shChk] at h
theorem field_of {f : Nat} {sf : Sh} (h : shChk P s (.inl t) = true) (hs : subS s (fieldP f) = some sf) : ∃ fs fld, P.underlying t = some (.struct fs) ∧ fs.toList[f]? = some fld ∧ fld.offset = offS s (fieldP f) ∧ shChk P sf (.inl fld.type) = true := by
  cases s with
  | pair a b =>
    obtain ⟨fs, h1, h2⟩ := shChk_pair h
    obtain ⟨g1, g2⟩ := fields_sh (f := f) h2
    obtain ⟨fld, k1⟩ := g2 sf hs
    obtain ⟨sf', k2, k3, k4⟩ := g1 fld k1
    rw [hs] at k2; cases k2
    exact ⟨fs, fld, h1, k1, by omega, k4⟩
  | _ => cases f <;> simp [fieldP, subS] at hs
end

/-! ## Nothing, as cells -/
section
variable {G : Nat → Option (List Value)} {H1 : Ab.Heap} {M : Lk}
theorem toI_ofI_zero (k : IntKind) : toI k (ofI k 0) = 0 := by cases k <;> rfl
theorem zerosN_eq (z : List Value) : ∀ n, Ab.zerosN z n = (List.replicate n z).flatten
  | 0 => rfl
  | n + 1 => by rw [List.replicate_succ, List.flatten_cons, ← zerosN_eq z n]; rfl
theorem Cells.zero : ∀ (s : Sh), Cells G H1 s s.dft (zcells s)
  | .int k => by show [Value.int k 0] = [Value.int k (toI k (ofI k 0))]; rw [toI_ofI_zero]
  | .bool => rfl
  | .str => rfl
  | .non k => by cases k <;> rfl
  | .unit => rfl
  | .pair a b => ⟨_, _, rfl, zero a, zero b⟩
  | .arr n s => ⟨List.length_replicate, AllC.replicate (zero s) n⟩
  | .sl s => .inl ⟨rfl, rfl⟩
theorem CellsA.zero : ∀ (s : Sh), CellsA G M (zeroA s) s (zcells s)
  | .int k => ⟨rfl, Cells.zero _⟩
  | .bool => ⟨rfl, Cells.zero _⟩
  | .str => ⟨rfl, Cells.zero _⟩
  | .non k => ⟨rfl, Cells.zero _⟩
  | .unit => ⟨rfl, Cells.zero _⟩
  | .pair a b => by
    unfold zeroA
    cases hf : (Sh.pair a b).flat with
    | true => exact ⟨rfl, Cells.zero (.pair a b)⟩
    | false => exact ⟨a, b, rfl, _, _, rfl, zero a, zero b⟩
  | .arr n s => ⟨rfl, Cells.zero (.arr n s)⟩
  | .sl s => ⟨rfl, _, rfl, rfl⟩
theorem zcells_plain : ∀ (s : Sh), ∀ v ∈ zcells s, plainC v = true
  | .int k => by simp [zcells, plainC]
  | .bool => by simp [zcells, plainC]
  | .str => by simp [zcells, plainC]
  | .non k => by cases k <;> simp [zcells, plainC]
  | .unit => by simp [zcells]
  | .pair a b => by
    intro v hv
    simp only [zcells, List.mem_append] at hv
    rcases hv with h | h
    · exact zcells_plain a v h
    · exact zcells_plain b v h
  | .arr n s => by
    intro v hv
    simp only [zcells, zerosN_eq, List.mem_flatten, List.mem_replicate] at hv
    obtain ⟨l, ⟨_, rfl⟩, h⟩ := hv
    exact zcells_plain s v h
  | .sl s => by simp [zcells, plainC]
theorem zcells_len (s : Sh) : (zcells s).length = s.size := (Cells.zero (G := fun _ => none) (H1 := []) s).length

/-! ## Parts -/
theorem rd_of {s : Sh} {xs : List s.T} {k : Nat} (h : k < xs.length) : xs[k]? = some (rd s xs k) := by
  unfold rd; rw [List.getD_eq_getElem?_getD, List.getElem?_eq_getElem h]; rfl
theorem getP_cells : ∀ (p : Path) {s : Sh} {x : s.T} {cs : List Value} {v : AV}, Cells G H1 s x cs → inP s p → getP s p x = some v →
    ∃ t y, v = .val t y ∧ subS s p = some t ∧ offS s p + t.size ≤ cs.length ∧ Cells G H1 t y ((cs.drop (offS s p)).take t.size)
  | [], s, x, cs, v, h, _, hg => by
    simp only [getP, Option.some.injEq] at hg
    subst hg
    refine ⟨s, x, rfl, by cases s <;> rfl, by rw [h.length]; cases s <;> simp [offS], ?_⟩
    rw [show offS s [] = 0 by cases s <;> rfl, List.drop_zero, List.take_of_length_le (by rw [h.length]; exact Nat.le_refl _)]
    exact h
  | .l :: p, .pair a b, x, _, v, ⟨c, d, e, h1, h2⟩, hi, hg => by
    subst e
    obtain ⟨t, y, e1, e2, e3, e4⟩ := getP_cells p h1 hi hg
    refine ⟨t, y, e1, e2, by simp only [offS, List.length_append]; omega, ?_⟩
    simp only [offS]
    rw [List.drop_append_of_le_length (by omega), List.take_append_of_le_length (by rw [List.length_drop]; omega)]
    exact e4
  | .r :: p, .pair a b, x, _, v, ⟨c, d, e, h1, h2⟩, hi, hg => by
    subst e
    obtain ⟨t, y, e1, e2, e3, e4⟩ := getP_cells p h2 hi hg
    have hc := h1.length
    refine ⟨t, y, e1, e2, by simp only [offS, List.length_append]; omega, ?_⟩
    simp only [offS]
    rw [← hc, List.drop_append, List.drop_eq_nil_of_le (Nat.le_add_right _ _), Nat.add_sub_cancel_left, List.nil_append]
    exact e4
  | .i k :: p, .arr n s, xs, cs, v, ⟨h1, h2⟩, hi, hg => by
    have hk : k < List.length xs := by rw [h1]; exact hi.1
    obtain ⟨g1, g2⟩ := h2.nth (fun _ _ h => h.length) (rd_of hk)
    obtain ⟨t, y, e1, e2, e3, e4⟩ := getP_cells p g1 hi.2 hg
    have hl : (List.take s.size (List.drop (k * s.size) cs)).length = s.size := by rw [List.length_take, List.length_drop]; omega
    rw [hl] at e3
    refine ⟨t, y, e1, e2, by simp only [offS]; omega, ?_⟩
    simp only [offS]
    rw [List.drop_take, List.drop_drop, List.take_take, Nat.min_eq_left (by omega)] at e4
    exact e4
  | .l :: _, .int _, _, _, _, _, hi, _ | .l :: _, .bool, _, _, _, _, hi, _ | .l :: _, .str, _, _, _, _, hi, _ | .l :: _, .non _, _, _, _, _, hi, _ | .l :: _, .unit, _, _, _, _, hi, _ | .l :: _, .arr _ _, _, _, _, _, hi, _ | .l :: _, .sl _, _, _, _, _, hi, _ => hi.elim
  | .r :: _, .int _, _, _, _, _, hi, _ | .r :: _, .bool, _, _, _, _, hi, _ | .r :: _, .str, _, _, _, _, hi, _ | .r :: _, .non _, _, _, _, _, hi, _ | .r :: _, .unit, _, _, _, _, hi, _ | .r :: _, .arr _ _, _, _, _, _, hi, _ | .r :: _, .sl _, _, _, _, _, hi, _ => hi.elim
  | .i _ :: _, .int _, _, _, _, _, hi, _ | .i _ :: _, .bool, _, _, _, _, hi, _ | .i _ :: _, .str, _, _, _, _, hi, _ | .i _ :: _, .non _, _, _, _, _, hi, _ | .i _ :: _, .unit, _, _, _, _, hi, _ | .i _ :: _, .pair _ _, _, _, _, _, hi, _ | .i _ :: _, .sl _, _, _, _, _, hi, _ => hi.elim

theorem getA_cells : ∀ (p : Path) {v : AV} {s : Sh} {cs : List Value} {u : AV}, CellsA G M v s cs → inP s p → getA v p = some u →
    ∃ t, subS s p = some t ∧ offS s p + t.size ≤ cs.length ∧ CellsA G M u t ((cs.drop (offS s p)).take t.size)
  | [], v, s, cs, u, h, _, hg => by
    have : u = v := by cases v <;> simp [getA] at hg <;> exact hg.symm
    subst this
    refine ⟨s, by cases s <;> rfl, by rw [h.length]; cases s <;> simp [offS], ?_⟩
    rw [show offS s [] = 0 by cases s <;> rfl, List.drop_zero, List.take_of_length_le (by rw [h.length]; exact Nat.le_refl _)]
    exact h
  | q :: p, .val t x, s, cs, u, h, hi, hg => by
    obtain ⟨rfl, h⟩ := h
    simp only [getA] at hg
    obtain ⟨t', y, e1, e2, e3, e4⟩ := getP_cells (q :: p) h hi hg
    exact ⟨t', e2, e3, by rw [e1]; exact ⟨rfl, e4⟩⟩
  | .l :: p, .two a b, _, _, u, ⟨s1, s2, e0, c, d, e, h1, h2⟩, hi, hg => by
    subst e0; subst e
    obtain ⟨t, e2, e3, e4⟩ := getA_cells p h1 hi hg
    refine ⟨t, e2, by simp only [offS, List.length_append]; omega, ?_⟩
    simp only [offS]
    rw [List.drop_append_of_le_length (by omega), List.take_append_of_le_length (by rw [List.length_drop]; omega)]
    exact e4
  | .r :: p, .two a b, _, _, u, ⟨s1, s2, e0, c, d, e, h1, h2⟩, hi, hg => by
    subst e0; subst e
    obtain ⟨t, e2, e3, e4⟩ := getA_cells p h2 hi hg
    have hc := h1.length
    refine ⟨t, e2, by simp only [offS, List.length_append]; omega, ?_⟩
    simp only [offS]
    rw [← hc, List.drop_append, List.drop_eq_nil_of_le (Nat.le_add_right _ _), Nat.add_sub_cancel_left, List.nil_append]
    exact e4
  | .i k :: p, .two a b, _, _, u, ⟨s1, s2, e0, c, d, e, h1, h2⟩, hi, hg => by subst e0; exact hi.elim
  | q :: p, .cell c, _, _, u, _, _, hg => by cases q <;> simp [getA] at hg

/-- a part written -/
def put (cs : List Value) (off : Nat) (ds : List Value) : List Value := cs.take off ++ ds ++ cs.drop (off + ds.length)
theorem put_len {cs ds : List Value} {off : Nat} (h : off + ds.length ≤ cs.length) : (put cs off ds).length = cs.length := by
  unfold put; simp only [List.length_append, List.length_take, List.length_drop]; omega
theorem put_left {c d ds : List Value} {off : Nat} (h : off + ds.length ≤ c.length) : put (c ++ d) off ds = put c off ds ++ d := by
  unfold put
  rw [List.take_append_of_le_length (by omega), List.drop_append_of_le_length h]
  simp [List.append_assoc]
theorem put_right {c d ds : List Value} {off : Nat} : put (c ++ d) (c.length + off) ds = c ++ put d off ds := by
  unfold put
  rw [List.take_append, List.take_of_length_le (Nat.le_add_right _ _), Nat.add_assoc, List.drop_append, List.drop_eq_nil_of_le (Nat.le_add_right _ _)]
  simp [List.append_assoc]
theorem put_mid {cs ds : List Value} {a n off : Nat} (h1 : a + n ≤ cs.length) (h2 : off + ds.length ≤ n) : put cs (a + off) ds = cs.take a ++ put ((cs.drop a).take n) off ds ++ cs.drop (a + n) := by
  have e : cs = cs.take a ++ ((cs.drop a).take n ++ cs.drop (a + n)) := by
    rw [← List.drop_drop, List.take_append_drop, List.take_append_drop]
  have hl : (cs.take a).length = a := by rw [List.length_take]; omega
  have hn : ((cs.drop a).take n).length = n := by rw [List.length_take, List.length_drop]; omega
  have k := put_right (c := cs.take a) (d := (cs.drop a).take n ++ cs.drop (a + n)) (ds := ds) (off := off)
  rw [hl, ← e] at k
  rw [k, put_left (by rw [hn]; exact h2), List.append_assoc]
theorem castTo_some {a b : Sh} {x : a.T} {y : b.T} (h : castTo a b x = some y) : ∃ e : a = b, y = e ▸ x := by
  unfold castTo at h
  split at h
  · rename_i hb
    injection h with h
    exact ⟨Sh.eq_of_beq hb, h.symm⟩
  · cases h
theorem castTo_cells {a b : Sh} {x : a.T} {y : b.T} {cs : List Value} (h : castTo a b x = some y) (hc : Cells G H1 a x cs) : Cells G H1 b y cs := by
  obtain ⟨e, rfl⟩ := castTo_some h
  subst e; exact hc
/-- a value told as one of a shape -/
theorem CellsA.as {v : AV} {s t : Sh} {cs : List Value} {y : s.T} (h : CellsA G M v t cs) (ha : v.as s = some y) : Cells G M.H1 s y cs := by
  cases v with
  | val u x => exact castTo_cells ha h.2
  | two a b => simp [AV.as] at ha
  | cell q =>
    cases q with
    | nilS =>
      cases s with
      | sl s =>
        simp only [AV.as, Option.some.injEq] at ha
        subst ha
        obtain ⟨_, u, rfl, hu⟩ := h
        have hu : u = .slice none 0 0 := hu
        subst hu
        exact .inl ⟨rfl, rfl⟩
      | _ => simp [AV.as] at ha
    | _ => simp [AV.as] at ha
theorem AV.as_conf {v : AV} {s : Sh} {y : s.T} (ha : v.as s = some y) : v.conf s = true := by
  cases v with
  | val u x =>
    simp only [AV.as] at ha
    unfold castTo at ha
    split at ha
    · rename_i hb; exact hb
    · cases ha
  | two a b => simp [AV.as] at ha
  | cell q =>
    cases q with
    | nilS => cases s <;> first | rfl | simp [AV.as] at ha
    | _ => simp [AV.as] at ha

theorem setP_cells : ∀ (p : Path) {s : Sh} {x y : s.T} {cs : List Value} {u : AV} {t t' : Sh} {ds : List Value}, Cells G M.H1 s x cs → inP s p → subS s p = some t → setP s p x u = some y → CellsA G M u t' ds →
    ds.length = t.size ∧ Cells G M.H1 s y (put cs (offS s p) ds) ∧ offS s p + t.size ≤ cs.length
  | [], s, x, y, cs, u, t, t', ds, h, _, ht, hs, hu => by
    simp only [subS, Option.some.injEq] at ht; subst ht
    simp only [setP] at hs
    have hc := hu.as hs
    have hl := hc.length
    have hlc := h.length
    refine ⟨hl, ?_, by simp [offS]; omega⟩
    have : put cs (offS s []) ds = ds := by
      have e0 : offS s [] = 0 := by cases s <;> rfl
      unfold put; rw [e0, List.take_zero, Nat.zero_add, List.drop_eq_nil_of_le (by omega)]; simp
    rw [this]; exact hc
  | .l :: p, .pair a b, x, y, _, u, t, t', ds, ⟨c, d, e, h1, h2⟩, hi, ht, hs, hu => by
    subst e
    simp only [setP, Option.map_eq_some_iff] at hs
    obtain ⟨z, hz, rfl⟩ := hs
    obtain ⟨k1, k2, k3⟩ := setP_cells p h1 hi ht hz hu
    refine ⟨k1, ⟨put c (offS a p) ds, d, ?_, k2, h2⟩, by simp only [offS, List.length_append]; omega⟩
    simp only [offS]
    exact put_left (by omega)
  | .r :: p, .pair a b, x, y, _, u, t, t', ds, ⟨c, d, e, h1, h2⟩, hi, ht, hs, hu => by
    subst e
    simp only [setP, Option.map_eq_some_iff] at hs
    obtain ⟨z, hz, rfl⟩ := hs
    obtain ⟨k1, k2, k3⟩ := setP_cells p h2 hi ht hz hu
    have hc := h1.length
    refine ⟨k1, ⟨c, put d (offS b p) ds, ?_, h1, k2⟩, by simp only [offS, List.length_append]; omega⟩
    simp only [offS]
    rw [← hc]; exact put_right
  | .i k :: p, .arr n s, xs, y, cs, u, t, t', ds, ⟨h1, h2⟩, hi, ht, hs, hu => by
    have hk : k < List.length xs := by rw [h1]; exact hi.1
    simp only [setP, Option.map_eq_some_iff] at hs
    obtain ⟨z, hz, rfl⟩ := hs
    obtain ⟨g1, g2⟩ := h2.nth (fun _ _ h => h.length) (rd_of hk)
    obtain ⟨k1, k2, k3⟩ := setP_cells p g1 hi.2 ht hz hu
    have hl : (List.take s.size (List.drop (k * s.size) cs)).length = s.size := by rw [List.length_take, List.length_drop]; omega
    rw [hl] at k3
    refine ⟨k1, ⟨by rw [List.length_set]; exact h1, ?_⟩, by simp only [offS]; omega⟩
    have := h2.set (k := k) (fun _ _ h => h.length) k2 hk
    simp only [offS]
    rw [put_mid g2 (by omega)]
    exact this
  | .l :: _, .int _, _, _, _, _, _, _, _, _, hi, _, _, _ | .l :: _, .bool, _, _, _, _, _, _, _, _, hi, _, _, _ | .l :: _, .str, _, _, _, _, _, _, _, _, hi, _, _, _ | .l :: _, .non _, _, _, _, _, _, _, _, _, hi, _, _, _ | .l :: _, .unit, _, _, _, _, _, _, _, _, hi, _, _, _ | .l :: _, .arr _ _, _, _, _, _, _, _, _, _, hi, _, _, _ | .l :: _, .sl _, _, _, _, _, _, _, _, _, hi, _, _, _ => hi.elim
  | .r :: _, .int _, _, _, _, _, _, _, _, _, hi, _, _, _ | .r :: _, .bool, _, _, _, _, _, _, _, _, hi, _, _, _ | .r :: _, .str, _, _, _, _, _, _, _, _, hi, _, _, _ | .r :: _, .non _, _, _, _, _, _, _, _, _, hi, _, _, _ | .r :: _, .unit, _, _, _, _, _, _, _, _, hi, _, _, _ | .r :: _, .arr _ _, _, _, _, _, _, _, _, _, hi, _, _, _ | .r :: _, .sl _, _, _, _, _, _, _, _, _, hi, _, _, _ => hi.elim
  | .i _ :: _, .int _, _, _, _, _, _, _, _, _, hi, _, _, _ | .i _ :: _, .bool, _, _, _, _, _, _, _, _, hi, _, _, _ | .i _ :: _, .str, _, _, _, _, _, _, _, _, hi, _, _, _ | .i _ :: _, .non _, _, _, _, _, _, _, _, _, hi, _, _, _ | .i _ :: _, .unit, _, _, _, _, _, _, _, _, hi, _, _, _ | .i _ :: _, .pair _ _, _, _, _, _, _, _, _, _, hi, _, _, _ | .i _ :: _, .sl _, _, _, _, _, _, _, _, _, hi, _, _, _ => hi.elim

theorem setV_cells : ∀ (p : Path) {s : Sh} {x : s.T} {w : AV} {cs : List Value} {u : AV} {t : Sh} {ds : List Value}, Cells G M.H1 s x cs → inP s p → subS s p = some t → setA.setV s p x u = some w → CellsA G M u t ds →
    CellsA G M w s (put cs (offS s p) ds) ∧ offS s p + t.size ≤ cs.length
  | [], s, x, w, cs, u, t, ds, h, _, ht, hs, hu => by
    simp only [subS, Option.some.injEq] at ht; subst ht
    simp only [setA.setV, Option.some.injEq] at hs; subst hs
    have hl := hu.length
    have hlc := h.length
    have : put cs (offS s []) ds = ds := by
      have e0 : offS s [] = 0 := by cases s <;> rfl
      unfold put; rw [e0, List.take_zero, Nat.zero_add, List.drop_eq_nil_of_le (by omega)]; simp
    rw [this]; exact ⟨hu, by simp [offS]; omega⟩
  | .l :: p, .pair a b, x, w, _, u, t, ds, ⟨c, d, e, h1, h2⟩, hi, ht, hs, hu => by
    subst e
    simp only [setA.setV, Option.map_eq_some_iff] at hs
    obtain ⟨z, hz, rfl⟩ := hs
    obtain ⟨k2, k3⟩ := setV_cells p h1 hi ht hz hu
    refine ⟨⟨a, b, rfl, put c (offS a p) ds, d, ?_, k2, rfl, h2⟩, by simp only [offS, List.length_append]; omega⟩
    simp only [offS]
    exact put_left (by rw [hu.length]; omega)
  | .r :: p, .pair a b, x, w, _, u, t, ds, ⟨c, d, e, h1, h2⟩, hi, ht, hs, hu => by
    subst e
    simp only [setA.setV, Option.map_eq_some_iff] at hs
    obtain ⟨z, hz, rfl⟩ := hs
    obtain ⟨k2, k3⟩ := setV_cells p h2 hi ht hz hu
    have hc := h1.length
    refine ⟨⟨a, b, rfl, c, put d (offS b p) ds, ?_, ⟨rfl, h1⟩, k2⟩, by simp only [offS, List.length_append]; omega⟩
    simp only [offS]
    rw [← hc]; exact put_right
  | .i k :: p, .arr n s, _, _, _, _, _, _, _, _, _, hs, _ => by simp [setA.setV] at hs
  | .l :: _, .int _, _, _, _, _, _, _, _, hi, _, _, _ | .l :: _, .bool, _, _, _, _, _, _, _, hi, _, _, _ | .l :: _, .str, _, _, _, _, _, _, _, hi, _, _, _ | .l :: _, .non _, _, _, _, _, _, _, _, hi, _, _, _ | .l :: _, .unit, _, _, _, _, _, _, _, hi, _, _, _ | .l :: _, .arr _ _, _, _, _, _, _, _, _, hi, _, _, _ | .l :: _, .sl _, _, _, _, _, _, _, _, hi, _, _, _ => hi.elim
  | .r :: _, .int _, _, _, _, _, _, _, _, hi, _, _, _ | .r :: _, .bool, _, _, _, _, _, _, _, hi, _, _, _ | .r :: _, .str, _, _, _, _, _, _, _, hi, _, _, _ | .r :: _, .non _, _, _, _, _, _, _, _, hi, _, _, _ | .r :: _, .unit, _, _, _, _, _, _, _, hi, _, _, _ | .r :: _, .arr _ _, _, _, _, _, _, _, _, hi, _, _, _ | .r :: _, .sl _, _, _, _, _, _, _, _, hi, _, _, _ => hi.elim
  | .i _ :: _, .int _, _, _, _, _, _, _, _, hi, _, _, _ | .i _ :: _, .bool, _, _, _, _, _, _, _, hi, _, _, _ | .i _ :: _, .str, _, _, _, _, _, _, _, hi, _, _, _ | .i _ :: _, .non _, _, _, _, _, _, _, _, hi, _, _, _ | .i _ :: _, .unit, _, _, _, _, _, _, _, hi, _, _, _ | .i _ :: _, .pair _ _, _, _, _, _, _, _, _, hi, _, _, _ | .i _ :: _, .sl _, _, _, _, _, _, _, _, hi, _, _, _ => hi.elim

theorem setA_cells : ∀ (p : Path) {v w : AV} {s : Sh} {cs : List Value} {u : AV} {t : Sh} {ds : List Value}, CellsA G M v s cs → inP s p → subS s p = some t → setA v p u = some w → CellsA G M u t ds →
    CellsA G M w s (put cs (offS s p) ds) ∧ offS s p + t.size ≤ cs.length
  | [], v, w, s, cs, u, t, ds, h, _, ht, hs, hu => by
    have e : s = t := by cases s <;> simpa [subS] using ht
    subst e
    have : u = w := by cases v <;> simpa [setA] using hs
    subst this
    have hl := hu.length
    have hlc := h.length
    have e0 : offS s [] = 0 := by cases s <;> rfl
    have : put cs (offS s []) ds = ds := by
      unfold put; rw [e0, List.take_zero, Nat.zero_add, List.drop_eq_nil_of_le (by omega)]; simp
    rw [this]; exact ⟨hu, by omega⟩
  | q :: p, .val t0 x, w, s, cs, u, t, ds, h, hi, ht, hs, hu => by
    obtain ⟨rfl, h⟩ := h
    simp only [setA] at hs
    split at hs
    · rename_i y hy
      injection hs with hs; subst hs
      obtain ⟨k1, k2, k3⟩ := setP_cells (q :: p) h hi ht hy hu
      exact ⟨⟨rfl, k2⟩, k3⟩
    · exact setV_cells (q :: p) h hi ht hs hu
  | .l :: p, .two a b, w, _, _, u, t, ds, ⟨s1, s2, e0, c, d, e, h1, h2⟩, hi, ht, hs, hu => by
    subst e0; subst e
    simp only [setA, Option.map_eq_some_iff] at hs
    obtain ⟨z, hz, rfl⟩ := hs
    obtain ⟨k2, k3⟩ := setA_cells p h1 hi ht hz hu
    refine ⟨⟨s1, s2, rfl, put c (offS s1 p) ds, d, ?_, k2, h2⟩, by simp only [offS, List.length_append]; omega⟩
    simp only [offS]
    exact put_left (by rw [hu.length]; omega)
  | .r :: p, .two a b, w, _, _, u, t, ds, ⟨s1, s2, e0, c, d, e, h1, h2⟩, hi, ht, hs, hu => by
    subst e0; subst e
    simp only [setA, Option.map_eq_some_iff] at hs
    obtain ⟨z, hz, rfl⟩ := hs
    obtain ⟨k2, k3⟩ := setA_cells p h2 hi ht hz hu
    have hc := h1.length
    refine ⟨⟨s1, s2, rfl, c, put d (offS s2 p) ds, ?_, h1, k2⟩, by simp only [offS, List.length_append]; omega⟩
    simp only [offS]
    rw [← hc]; exact put_right
  | .i k :: p, .two a b, _, _, _, _, _, _, ⟨s1, s2, e0, c, d, e, h1, h2⟩, hi, _, _, _ => by subst e0; exact hi.elim
  | q :: p, .cell c, _, _, _, _, _, _, _, _, _, hs, _ => by cases q <;> simp [setA] at hs
end
end Go.Ty
