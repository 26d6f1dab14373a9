import Derived.Test.YtninlahlmjhmhaaAbCore
import Derived.Laws.CopyRow
import Derived.Laws.Rows
import Derived.Laws.NewBlocks
namespace Go.Ab

/-- where an abstract block lies -/
structure Loc where
  block : Nat
  off : Nat
  size : Nat
  es : Nat

def locA (ρ : Nat → Loc) (a : Addr) : Addr :=
  match a.spot with
  | none => ⟨(ρ a.block).block, (ρ a.block).off + a.off, none⟩
  | some _ => ⟨a.block, a.off, none⟩

/-- a slice's capacity and address, abstract and real -/
def capRel (ρ : Nat → Loc) (a : Addr) (l c : Nat) (a' : Addr) (c' : Nat) : Prop :=
  if c = capU then (a' = locA ρ a ∨ (l = 0 ∧ a.off ≠ 0)) ∧ l ≤ c' ∧ c' < 2 ^ 63 ∧ (a.spot = none → a.off = 0 → c' * (ρ a.block).es ≤ (ρ a.block).size)
  else a' = locA ρ a ∧ c' = c ∧ c < capU

/-- cells alike -/
def CRel (ρ : Nat → Loc) (n : Nat) : Value → Value → Prop
  | .pointer (some a), v => (a.spot = none → a.block < n) ∧ v = .pointer (some (locA ρ a))
  | .slice (some a) l c, v => (a.spot = none → a.block < n) ∧ ∃ a' c', v = .slice (some a') l c' ∧ capRel ρ a l c a' c'
  | .slice none l c, v => l = 0 ∧ c = 0 ∧ v = .slice none l c
  | .agg _, _ => False
  | .tuple _, _ => False
  | u, v => v = u

def LRel (R : Value → Value → Prop) (l l' : List Value) : Prop :=
  l.length = l'.length ∧ ∀ (j : Nat) (v : Value), l[j]? = some v → ∃ v' : Value, l'[j]? = some v' ∧ R v v'

def VRel (ρ : Nat → Loc) (n : Nat) : Value → Value → Prop
  | .agg cs, v => ∃ cs', v = .agg cs' ∧ LRel (CRel ρ n) cs.toList cs'.toList
  | u, v => CRel ρ n u v

def TRel (ρ : Nat → Loc) (n : Nat) : Value → Value → Prop
  | .tuple vs, v => ∃ vs', v = .tuple vs' ∧ LRel (VRel ρ n) vs.toList vs'.toList
  | u, v => VRel ρ n u v

/-! lists -/
theorem LRel.nil {R : Value → Value → Prop} : LRel R [] [] := ⟨rfl, by simp⟩
theorem LRel.cons {R : Value → Value → Prop} {v v' : Value} {l l' : List Value} (h : R v v') (t : LRel R l l') : LRel R (v :: l) (v' :: l') := by
  refine ⟨by simp [t.1], fun j u hj => ?_⟩
  cases j with
  | zero => simp at hj; subst hj; exact ⟨v', by simp, h⟩
  | succ j => simpa using t.2 j u (by simpa using hj)
theorem LRel.mono {R S : Value → Value → Prop} {l l' : List Value} (h : LRel R l l') (hs : ∀ v v', R v v' → S v v') : LRel S l l' :=
  ⟨h.1, fun j v hj => let ⟨v', a, b⟩ := h.2 j v hj; ⟨v', a, hs _ _ b⟩⟩
theorem LRel.take {R : Value → Value → Prop} {l l' : List Value} (h : LRel R l l') (n : Nat) : LRel R (l.take n) (l'.take n) := by
  refine ⟨by simp [h.1], fun j v hj => ?_⟩
  rw [List.getElem?_take] at hj
  split at hj
  · rename_i hlt
    obtain ⟨v', a, b⟩ := h.2 j v hj
    exact ⟨v', by rw [List.getElem?_take, if_pos hlt]; exact a, b⟩
  · cases hj
theorem LRel.drop {R : Value → Value → Prop} {l l' : List Value} (h : LRel R l l') (n : Nat) : LRel R (l.drop n) (l'.drop n) := by
  refine ⟨by simp [h.1], fun j v hj => ?_⟩
  rw [List.getElem?_drop] at hj
  obtain ⟨v', a, b⟩ := h.2 _ v hj
  exact ⟨v', by rw [List.getElem?_drop]; exact a, b⟩
theorem LRel.append {R : Value → Value → Prop} {l l' m m' : List Value} (h : LRel R l l') (k : LRel R m m') : LRel R (l ++ m) (l' ++ m') := by
  refine ⟨by simp [h.1, k.1], fun j v hj => ?_⟩
  by_cases hlt : j < l.length
  · rw [List.getElem?_append_left hlt] at hj
    obtain ⟨v', a, b⟩ := h.2 j v hj
    exact ⟨v', by rw [List.getElem?_append_left (by have := h.1; omega)]; exact a, b⟩
  · rw [List.getElem?_append_right (by omega)] at hj
    obtain ⟨v', a, b⟩ := k.2 _ v hj
    exact ⟨v', by rw [List.getElem?_append_right (by have := h.1; omega), ← h.1]; exact a, b⟩
theorem LRel.set {R : Value → Value → Prop} {l l' : List Value} (h : LRel R l l') {v v' : Value} (n : Nat) (k : R v v') : LRel R (l.set n v) (l'.set n v') := by
  refine ⟨by simp [h.1], fun j u hj => ?_⟩
  rw [List.getElem?_set] at hj
  by_cases e : n = j
  · subst e
    by_cases hlt : n < l.length
    · simp [hlt] at hj; subst hj
      exact ⟨v', by rw [List.getElem?_set]; simp [h.1 ▸ hlt], k⟩
    · simp [hlt] at hj
  · simp [e] at hj
    obtain ⟨u', a, b⟩ := h.2 j u hj
    exact ⟨u', by rw [List.getElem?_set, if_neg e]; exact a, b⟩
theorem splice_eq (cs : List Value) (off : Nat) (vs : List Value) (h : off + vs.length ≤ cs.length) : splice cs off vs = cs.take off ++ vs ++ cs.drop (off + vs.length) := by
  unfold splice
  split
  · rename_i v
    simp only [List.length_singleton] at h ⊢
    rw [List.set_eq_take_append_cons_drop, if_pos (by omega)]
    simp
  · rfl
theorem LRel.splice {R : Value → Value → Prop} {l l' m m' : List Value} (h : LRel R l l') (off : Nat) (k : LRel R m m') (hl : off + m.length ≤ l.length) : LRel R (splice l off m) (splice l' off m') := by
  rw [splice_eq _ _ _ hl, splice_eq _ _ _ (by have := h.1; have := k.1; omega), ← k.1]
  exact ((h.take off).append k).append (h.drop _)
theorem length_splice (cs : List Value) (off : Nat) (vs : List Value) (h : off + vs.length ≤ cs.length) : (splice cs off vs).length = cs.length := by
  rw [splice_eq _ _ _ h]; simp; omega
theorem LRel.refl_of {R : Value → Value → Prop} {l : List Value} (h : ∀ v ∈ l, R v v) : LRel R l l :=
  ⟨rfl, fun _ v hj => ⟨v, hj, h v (List.mem_of_getElem? hj)⟩⟩
theorem LRel.eq_of {R : Value → Value → Prop} {l l' : List Value} (hR : ∀ v ∈ l, ∀ v', R v v' → v' = v) (h : LRel R l l') : l' = l := by
  apply List.ext_getElem?
  intro j
  cases hj : l[j]? with
  | none => rw [List.getElem?_eq_none_iff] at hj ⊢; have := h.1; omega
  | some v =>
    obtain ⟨v', a, b⟩ := h.2 j v hj
    rw [a, hR v (List.mem_of_getElem? hj) v' b]

/-! values that lead to no memory -/
theorem CRel.plain {ρ : Nat → Loc} {n : Nat} {v : Value} (h : plainC v = true) : CRel ρ n v v := by
  cases v with
  | pointer a => cases a <;> simp [plainC] at h <;> simp [CRel]
  | slice a l c => cases a <;> simp [plainC] at h <;> simp [CRel, h.1, h.2]
  | agg _ => simp [plainC] at h
  | tuple _ => simp [plainC] at h
  | _ => simp [CRel]
theorem CRel.plain_eq {ρ : Nat → Loc} {n : Nat} {v v' : Value} (h : plainC v = true) (r : CRel ρ n v v') : v' = v := by
  cases v with
  | pointer a => cases a <;> simp [plainC] at h; simpa [CRel] using r
  | slice a l c => cases a <;> simp [plainC] at h; simp [CRel] at r; exact r.2.2
  | agg _ => simp [plainC] at h
  | tuple _ => simp [plainC] at h
  | _ => simpa [CRel] using r
theorem LRel.plain {ρ : Nat → Loc} {n : Nat} {l : List Value} (h : l.all plainC = true) : LRel (CRel ρ n) l l :=
  .refl_of fun v hv => .plain (List.all_eq_true.1 h v hv)
theorem VRel.plain {ρ : Nat → Loc} {n : Nat} {v : Value} (h : plainV v = true) : VRel ρ n v v := by
  cases v with
  | agg cs => exact ⟨cs, rfl, .plain (by simpa [plainV] using h)⟩
  | tuple _ => simp [plainV, plainC] at h
  | _ => simp only [VRel]; exact CRel.plain (by simpa [plainV] using h)
theorem VRel.plain_eq {ρ : Nat → Loc} {n : Nat} {v v' : Value} (h : plainV v = true) (r : VRel ρ n v v') : v' = v := by
  cases v with
  | agg cs =>
    obtain ⟨cs', rfl, hl⟩ := r
    have := LRel.eq_of (fun v hv v' r => CRel.plain_eq (List.all_eq_true.1 (by simpa [plainV] using h) v hv) r) hl
    congr 1; exact Array.ext' this
  | tuple _ => simp [plainV, plainC] at h
  | _ => simp only [VRel] at r; exact CRel.plain_eq (by simpa [plainV] using h) r
theorem TRel.plain {ρ : Nat → Loc} {n : Nat} {v : Value} (h : plainT v = true) : TRel ρ n v v := by
  cases v with
  | tuple vs => exact ⟨vs, rfl, .refl_of fun v hv => .plain (List.all_eq_true.1 (by simpa [plainT] using h) v hv)⟩
  | _ => simp only [TRel]; exact VRel.plain (by simpa [plainT] using h)
theorem TRel.plain_eq {ρ : Nat → Loc} {n : Nat} {v v' : Value} (h : plainT v = true) (r : TRel ρ n v v') : v' = v := by
  cases v with
  | tuple vs =>
    obtain ⟨vs', rfl, hl⟩ := r
    have := LRel.eq_of (fun v hv v' r => VRel.plain_eq (List.all_eq_true.1 (by simpa [plainT] using h) v hv) r) hl
    congr 1; exact Array.ext' this
  | _ => simp only [TRel] at r; exact VRel.plain_eq (by simpa [plainT] using h) r
theorem plainT_of_V {v : Value} (h : plainV v = true) : plainT v = true := by
  cases v <;> first | exact h | simp [plainV, plainC] at h
theorem TRel.of_V {ρ : Nat → Loc} {n : Nat} {v v' : Value} (h : VRel ρ n v v') : TRel ρ n v v' := by
  cases v <;> first | exact h | (simp [VRel, CRel] at h)
theorem VRel.of_C {ρ : Nat → Loc} {n : Nat} {v v' : Value} (h : CRel ρ n v v') : VRel ρ n v v' := by
  cases v <;> first | exact h | (simp [CRel] at h)

/-! a greater heap -/
theorem capRel.mono {ρ ρ' : Nat → Loc} {n : Nat} {a a' : Addr} {l c c' : Nat} (h : capRel ρ a l c a' c') (ha : a.spot = none → a.block < n) (hρ : ∀ i, i < n → ρ' i = ρ i) : capRel ρ' a l c a' c' := by
  have e : locA ρ' a = locA ρ a := by
    unfold locA; split
    · rename_i hs; rw [hρ _ (ha hs)]
    · rfl
  unfold capRel at *
  split
  · rename_i hc
    simp only [hc, if_true] at h
    rw [e]
    refine ⟨h.1, h.2.1, h.2.2.1, fun hs h0 => ?_⟩
    rw [hρ _ (ha hs)]; exact h.2.2.2 hs h0
  · rename_i hc
    simp only [hc, if_false] at h
    rw [e]; exact h
theorem CRel.mono {ρ ρ' : Nat → Loc} {n n' : Nat} {v v' : Value} (h : CRel ρ n v v') (hρ : ∀ i, i < n → ρ' i = ρ i) (hn : n ≤ n') : CRel ρ' n' v v' := by
  cases v with
  | pointer a =>
    cases a with
    | none => exact h
    | some a =>
      obtain ⟨h1, h2⟩ := h
      refine ⟨fun hs => Nat.lt_of_lt_of_le (h1 hs) hn, ?_⟩
      rw [h2]; congr 2
      unfold locA; split
      · rename_i hs; rw [hρ _ (h1 hs)]
      · rfl
  | slice a l c =>
    cases a with
    | none => exact h
    | some a =>
      obtain ⟨h1, a', c', h2, h3⟩ := h
      exact ⟨fun hs => Nat.lt_of_lt_of_le (h1 hs) hn, a', c', h2, h3.mono h1 hρ⟩
  | _ => exact h
theorem VRel.mono {ρ ρ' : Nat → Loc} {n n' : Nat} {v v' : Value} (h : VRel ρ n v v') (hρ : ∀ i, i < n → ρ' i = ρ i) (hn : n ≤ n') : VRel ρ' n' v v' := by
  cases v with
  | agg cs => obtain ⟨cs', e, l⟩ := h; exact ⟨cs', e, l.mono fun _ _ r => CRel.mono r hρ hn⟩
  | _ => simp only [VRel] at h ⊢; exact CRel.mono h hρ hn
theorem TRel.mono {ρ ρ' : Nat → Loc} {n n' : Nat} {v v' : Value} (h : TRel ρ n v v') (hρ : ∀ i, i < n → ρ' i = ρ i) (hn : n ≤ n') : TRel ρ' n' v v' := by
  cases v with
  | tuple vs => obtain ⟨vs', e, l⟩ := h; exact ⟨vs', e, l.mono fun _ _ r => VRel.mono r hρ hn⟩
  | _ => simp only [TRel] at h ⊢; exact VRel.mono h hρ hn

/-! the cells of a value -/
theorem VRel.cells {ρ : Nat → Loc} {n : Nat} {v v' : Value} (h : VRel ρ n v v') : LRel (CRel ρ n) (vcells v) v'.cells.toList := by
  cases v with
  | agg cs => obtain ⟨cs', rfl, l⟩ := h; exact l
  | tuple _ => simp [VRel, CRel] at h
  | pointer a =>
    cases a with
    | none => simp [VRel, CRel] at h; subst h; exact .cons rfl .nil
    | some a => have h' := h; simp only [VRel, CRel] at h; obtain ⟨_, rfl⟩ := h; exact .cons h' .nil
  | slice a l c =>
    cases a with
    | none => have h' := h; simp only [VRel, CRel] at h; obtain ⟨_, _, rfl⟩ := h; exact .cons h' .nil
    | some a => have h' := h; simp only [VRel, CRel] at h; obtain ⟨_, _, _, rfl, _⟩ := h; exact .cons h' .nil
  | _ => simp only [VRel, CRel] at h; subst h; exact .cons rfl .nil
theorem CRel.one {ρ : Nat → Loc} {n : Nat} {v v' : Value} (h : CRel ρ n v v') : v'.oneCell' = true := by
  cases v with
  | agg cs => simp [CRel] at h
  | tuple _ => simp [CRel] at h
  | pointer a => cases a <;> (simp only [CRel] at h; first | (subst h; rfl) | (obtain ⟨_, rfl⟩ := h; rfl))
  | slice a l c =>
    cases a with
    | none => simp only [CRel] at h; obtain ⟨_, _, rfl⟩ := h; rfl
    | some a => simp only [CRel] at h; obtain ⟨_, _, _, rfl, _⟩ := h; rfl
  | _ => simp only [CRel] at h; subst h; rfl
theorem LRel.ones {ρ : Nat → Loc} {n : Nat} {l l' : List Value} (h : LRel (CRel ρ n) l l') : ∀ v ∈ l', v.oneCell' = true := by
  intro v hv
  obtain ⟨j, hj, rfl⟩ := List.getElem_of_mem hv
  have hl : j < l.length := by rw [h.1]; exact hj
  obtain ⟨v', a, b⟩ := h.2 j l[j] (by simp [hl])
  have : l'[j] = v' := by simpa [hj] using a
  rw [this]; exact b.one

end Go.Ab
