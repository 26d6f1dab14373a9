import Derived.Test.YtninlahlmjhmhaaAbRel
namespace Go.Ab

structure Ctx where
  w : World
  S : Nat → Prop
  n : Nat
  r : Nat → Loc

structure Sim (X : Cx) (C : Ctx) (ρ : Nat → Loc) (H : Heap) (w : World) : Prop where
  blk : ∀ i b, H[i]? = some (some b) → ∃ cs t fr, w.heap[(ρ i).block]? = some (.cells cs t fr) ∧
    (b.own = true → fr = (0, 0) ∧ cs.size = (ρ i).off + (ρ i).size ∧ b.es = (ρ i).es ∧ b.cells.length ≤ (ρ i).size) ∧
    ∀ (j : Nat) (v : Value), b.cells[j]? = some v → ∃ v', cs[(ρ i).off + j]? = some v' ∧ CRel ρ H.length v v'
  own : ∀ i b, H[i]? = some (some b) → b.own = true → C.S (ρ i).block ∨ C.w.heap.size ≤ (ρ i).block
  far : ∀ i j bi bj, H[i]? = some (some bi) → H[j]? = some (some bj) → bi.own = true → i ≠ j → (ρ i).block ≠ (ρ j).block
  os : w.os = C.w.os
  tape : w.tape = C.w.tape
  output : w.output = C.w.output
  size : C.w.heap.size ≤ w.heap.size
  keep : ∀ b, b < C.w.heap.size → ¬ C.S b → w.heap[b]? = C.w.heap[b]?
  agree : ∀ i, i < C.n → ρ i = C.r i
  len : C.n ≤ H.length
  glob : ∀ g l, X.glob g = some l → ¬ C.S g ∧ l.all plainC = true ∧ ∃ cs t fr, C.w.heap[g]? = some (.cells cs t fr) ∧ cs.toList = l

def ERel (ρ : Nat → Loc) (n : Nat) (e : Env) (tmps : Array Value) : Prop :=
  ∀ k v, e k = some v → ∃ v', tmps[k]? = some v' ∧ TRel ρ n v v'

theorem ERel.mono {ρ ρ' : Nat → Loc} {n n' : Nat} {e : Env} {tmps : Array Value} (h : ERel ρ n e tmps) (hρ : ∀ i, i < n → ρ' i = ρ i) (hn : n ≤ n') : ERel ρ' n' e tmps :=
  fun k v hk => let ⟨v', a, b⟩ := h k v hk; ⟨v', a, b.mono hρ hn⟩

theorem ERel.put {ρ : Nat → Loc} {n N : Nat} {e : Env} {a : Act} (h : ERel ρ n e a.tmps) (hN : a.tmps.size = N) {dst : Option Tmp} (hd : fitsN N dst = true) {v : Option Value} {v' : Value}
    (hv : ∀ u, v = some u → TRel ρ n u v') : ERel ρ n (putS e dst v) (a.put dst v').tmps := by
  cases dst with
  | none => exact h
  | some d =>
    simp only [fitsN, Nat.blt_eq] at hd
    intro k u hk
    simp only [putS, Env.set] at hk
    cases e' : Nat.beq k d with
    | true =>
      have : k = d := by simpa using e'
      subst this
      simp only [e', cond_true] at hk
      exact ⟨v', by simp [Act.put, hN, hd], hv u hk⟩
    | false =>
      have hne : k ≠ d := by intro h; subst h; simp at e'
      simp only [e', cond_false] at hk
      obtain ⟨u', a1, a2⟩ := h k u hk
      exact ⟨u', by simp only [Act.put]; rw [Array.getElem?_setIfInBounds_ne (fun h => hne h.symm)]; exact a1, a2⟩

theorem put_size (a : Act) (dst : Option Tmp) (v : Value) : (a.put dst v).tmps.size = a.tmps.size := by cases dst <;> simp [Act.put]
theorem put_defers (a : Act) (dst : Option Tmp) (v : Value) : (a.put dst v).defers = a.defers := by cases dst <;> rfl

def upd (ρ : Nat → Loc) (k : Nat) (L : Loc) : Nat → Loc := fun i => if i = k then L else ρ i
theorem upd_lt {ρ : Nat → Loc} {n : Nat} {L : Loc} : ∀ i, i < n → upd ρ n L i = ρ i := fun i hi => by unfold upd; rw [if_neg (by omega)]
theorem upd_same {ρ : Nat → Loc} {n : Nat} {L : Loc} : upd ρ n L n = L := by simp [upd]

section
variable {X : Cx} {C : Ctx} {ρ : Nat → Loc} {H : Heap} {w : World}

theorem Sim.lt (hs : Sim X C ρ H w) {i : Nat} {b : Blk} (h : H[i]? = some (some b)) : (ρ i).block < w.heap.size := by
  obtain ⟨cs, t, fr, a, _⟩ := hs.blk i b h
  rcases Nat.lt_or_ge (ρ i).block w.heap.size with h' | h'
  · exact h'
  · rw [Array.getElem?_eq_none h'] at a; cases a

theorem Sim.globNow (hs : Sim X C ρ H w) {g : Nat} {l : List Value} (h : X.glob g = some l) : l.all plainC = true ∧ ∃ cs t fr, w.heap[g]? = some (.cells cs t fr) ∧ cs.toList = l := by
  obtain ⟨h1, h2, cs, t, fr, h3, h4⟩ := hs.glob g l h
  have hlt : g < C.w.heap.size := by
    rcases Nat.lt_or_ge g C.w.heap.size with h' | h'
    · exact h'
    · rw [Array.getElem?_eq_none h'] at h3; cases h3
  exact ⟨h2, cs, t, fr, by rw [hs.keep g hlt h1]; exact h3, h4⟩

theorem Sim.of_alike {w' : World} (hs : Sim X C ρ H w) (h1 : w'.heap = w.heap) (h2 : w'.os = w.os) (h3 : w'.tape = w.tape) (h4 : w'.output = w.output) : Sim X C ρ H w' :=
  { blk := by rw [h1]; exact hs.blk, own := hs.own, far := hs.far, os := h2.trans hs.os, tape := h3.trans hs.tape, output := h4.trans hs.output
    size := by rw [h1]; exact hs.size, keep := by rw [h1]; exact hs.keep, agree := hs.agree, len := hs.len, glob := hs.glob }

theorem Sim.drew (hs : Sim X C ρ H w) : Sim X C ρ H w.drew := hs.of_alike rfl rfl rfl rfl

theorem getElem?_snoc {α : Type} (H : List α) (b : α) (i : Nat) (x : α) (h : (H ++ [b])[i]? = some x) : (i < H.length ∧ H[i]? = some x) ∨ (i = H.length ∧ x = b) := by
  by_cases hi : i < H.length
  · rw [List.getElem?_append_left hi] at h; exact .inl ⟨hi, h⟩
  · rw [List.getElem?_append_right (by omega)] at h
    by_cases e : i = H.length
    · subst e; simp at h; exact .inr ⟨rfl, h.symm⟩
    · rw [List.getElem?_eq_none (by simp; omega)] at h; cases h

theorem heap_alloc (w : World) (o : Obj) (k : Nat) (h : k < w.heap.size) : (w.alloc o).heap[k]? = w.heap[k]? := by
  show (w.heap.push o)[k]? = _
  rw [Array.getElem?_push, if_neg (by omega)]
theorem heap_alloc_same (w : World) (o : Obj) : (w.alloc o).heap[w.heap.size]? = some o := by
  show (w.heap.push o)[w.heap.size]? = _
  simp

/-- a new block -/
theorem Sim.alloc (hs : Sim X C ρ H w) {l : List Value} {cs : Array Value} {t : TypeId} {es : Nat} (hl : l.length ≤ cs.size) (h : ∀ (j : Nat) v, l[j]? = some v → ∃ v', cs[j]? = some v' ∧ CRel ρ H.length v v') :
    Sim X C (upd ρ H.length ⟨w.heap.size, 0, cs.size, es⟩) (H ++ [some { cells := l, own := true, es := es }]) (w.alloc (.cells cs t)) := by
  have hlen : (H ++ [some { cells := l, own := true, es := es : Blk }]).length = H.length + 1 := by simp
  refine { blk := ?_, own := ?_, far := ?_, os := hs.os, tape := hs.tape, output := hs.output, size := ?_, keep := ?_, agree := ?_, len := ?_, glob := hs.glob }
  · intro i b hb
    rw [hlen]
    rcases getElem?_snoc _ _ _ _ hb with ⟨hi, hb⟩ | ⟨rfl, hb2⟩
    · rw [upd_lt i hi]
      obtain ⟨cs', t', fr, h1, h2, h3⟩ := hs.blk i b hb
      refine ⟨cs', t', fr, by rw [heap_alloc _ _ _ (hs.lt hb)]; exact h1, h2, fun j v hj => ?_⟩
      obtain ⟨v', a, r⟩ := h3 j v hj
      exact ⟨v', a, r.mono upd_lt (by omega)⟩
    · injection hb2 with hb2
      subst hb2
      rw [upd_same]
      refine ⟨cs, t, (0, 0), by simpa using heap_alloc_same w _, fun _ => ⟨rfl, by simp, rfl, hl⟩, fun j v hj => ?_⟩
      obtain ⟨v', a, r⟩ := h j v hj
      exact ⟨v', by simpa using a, r.mono upd_lt (by omega)⟩
  · intro i b hb ho
    rcases getElem?_snoc _ _ _ _ hb with ⟨hi, hb⟩ | ⟨rfl, hb⟩
    · rw [upd_lt i hi]; exact hs.own i b hb ho
    · rw [upd_same]; exact .inr hs.size
  · intro i j bi bj hi hj ho hne
    rcases getElem?_snoc _ _ _ _ hi with ⟨h1, h2⟩ | ⟨rfl, h2⟩ <;> rcases getElem?_snoc _ _ _ _ hj with ⟨h3, h4⟩ | ⟨rfl, h4⟩
    · rw [upd_lt i h1, upd_lt j h3]; exact hs.far i j bi bj h2 h4 ho hne
    · rw [upd_lt i h1, upd_same]; have := hs.lt h2; simp; omega
    · rw [upd_lt j h3, upd_same]; have := hs.lt h4; simp; omega
    · exact absurd rfl hne
  · have := hs.size; simp; omega
  · intro b hb hS
    rw [heap_alloc _ _ _ (by have := hs.size; omega)]; exact hs.keep b hb hS
  · intro i hi
    rw [upd_lt i (by have := hs.len; omega)]; exact hs.agree i hi
  · rw [hlen]; have := hs.len; omega

/-- a block is written -/
theorem Sim.store (hs : Sim X C ρ H w) {i : Nat} {b : Blk} (hb : H[i]? = some (some b)) (ho : b.own = true) {l : List Value} {cs cs' : Array Value} {t : TypeId} {fr : Nat × Nat}
    (hw : w.heap[(ρ i).block]? = some (.cells cs t fr)) (hsz : cs'.size = cs.size) (hl : l.length ≤ (ρ i).size)
    (h : ∀ (j : Nat) v, l[j]? = some v → ∃ v', cs'[(ρ i).off + j]? = some v' ∧ CRel ρ H.length v v') :
    Sim X C ρ (H.set i (some { b with cells := l })) (w.setRow (ρ i).block cs') := by
  have hilt : i < H.length := by
    rcases Nat.lt_or_ge i H.length with h' | h'
    · exact h'
    · rw [List.getElem?_eq_none h'] at hb; cases hb
  have at_ : ∀ k x, (H.set i (some { b with cells := l }))[k]? = some x → (k = i ∧ x = some { b with cells := l }) ∨ (k ≠ i ∧ H[k]? = some x) := by
    intro k x hk
    rw [List.getElem?_set] at hk
    by_cases e : i = k
    · subst e; simp [hilt] at hk; exact .inl ⟨rfl, hk.symm⟩
    · simp [e] at hk; exact .inr ⟨fun h => e h.symm, hk⟩
  refine { blk := ?_, own := ?_, far := ?_, os := by simpa using hs.os, tape := by simpa using hs.tape, output := by simpa using hs.output, size := by simpa using hs.size, keep := ?_, agree := hs.agree, len := by simpa using hs.len, glob := hs.glob }
  · intro k bk hk
    rw [List.length_set]
    rcases at_ k _ hk with ⟨rfl, e⟩ | ⟨hne, hk⟩
    · cases e
      obtain ⟨cs0, t0, fr0, h1, h2, _⟩ := hs.blk k b hb
      rw [hw] at h1; cases h1
      obtain ⟨rfl, h4, h5, _⟩ := h2 ho
      exact ⟨cs', t, (0, 0), setRow_heap w _ _ _ _ _ hw, fun _ => ⟨rfl, by rw [hsz]; exact h4, h5, hl⟩, h⟩
    · obtain ⟨cs0, t0, fr0, h1, h2, h3⟩ := hs.blk k bk hk
      have hfar := hs.far i k b bk hb hk ho (fun h => hne h.symm)
      exact ⟨cs0, t0, fr0, by rw [setRow_other _ _ _ _ (fun h => hfar h.symm)]; exact h1, h2, h3⟩
  · intro k bk hk hok
    rcases at_ k _ hk with ⟨rfl, e⟩ | ⟨hne, hk⟩
    · cases e; exact hs.own k b hb ho
    · exact hs.own k bk hk hok
  · intro k m bk bm hk hm hok hne
    rcases at_ k _ hk with ⟨rfl, e⟩ | ⟨hne1, hk⟩ <;> rcases at_ m _ hm with ⟨rfl, e'⟩ | ⟨hne2, hm⟩
    · exact absurd rfl hne
    · exact hs.far k m b bm hb hm ho hne
    · injection e' with e'; subst e'; exact hs.far k m bk b (by assumption) hb hok hne
    · exact hs.far k m bk bm hk hm hok hne
  · intro k hk hS
    have := hs.own i b hb ho
    have hne : k ≠ (ρ i).block := by
      rintro rfl
      rcases this with h | h
      · exact hS h
      · omega
    rw [setRow_other _ _ _ _ hne]; exact hs.keep k hk hS

/-- a block is forgotten -/
theorem Sim.kill (hs : Sim X C ρ H w) (i : Nat) : Sim X C ρ (H.set i none) w := by
  have at_ : ∀ (k : Nat) (x : Blk), (H.set i none)[k]? = some (some x) → k ≠ i ∧ H[k]? = some (some x) := by
    intro k x hk
    rw [List.getElem?_set] at hk
    by_cases e : i = k
    · subst e; simp only [if_true] at hk; split at hk <;> cases hk
    · simp [e] at hk; exact ⟨fun h => e h.symm, hk⟩
  exact { blk := fun k b hk => by rw [List.length_set]; exact hs.blk k b (at_ k b hk).2, own := fun k b hk => hs.own k b (at_ k b hk).2, far := fun k m bk bm hk hm => hs.far k m bk bm (at_ _ _ hk).2 (at_ _ _ hm).2,
          os := hs.os, tape := hs.tape, output := hs.output, size := hs.size, keep := hs.keep, agree := hs.agree, len := by simpa using hs.len, glob := hs.glob }

/-- a block gets another number -/
theorem Sim.move (hs : Sim X C ρ H w) {i : Nat} {b : Blk} (hb : H[i]? = some (some b)) : Sim X C (upd ρ H.length (ρ i)) (H.set i none ++ [some b]) w := by
  have hilt : i < H.length := by
    rcases Nat.lt_or_ge i H.length with h' | h'
    · exact h'
    · rw [List.getElem?_eq_none h'] at hb; cases hb
  have hlen : (H.set i none ++ [some b]).length = H.length + 1 := by simp
  have at_ : ∀ k x, (H.set i none ++ [some b])[k]? = some (some x) → (k < H.length ∧ k ≠ i ∧ H[k]? = some (some x)) ∨ (k = H.length ∧ x = b) := by
    intro k x hk
    rcases getElem?_snoc _ _ _ _ hk with ⟨h1, h2⟩ | ⟨h1, h2⟩
    · rw [List.length_set] at h1
      rw [List.getElem?_set] at h2
      by_cases e : i = k
      · subst e; simp only [if_true] at h2; split at h2 <;> cases h2
      · simp [e] at h2; exact .inl ⟨h1, fun h => e h.symm, h2⟩
    · rw [List.length_set] at h1; injection h2 with h2; exact .inr ⟨h1, h2⟩
  have look : ∀ k x, (H.set i none ++ [some b])[k]? = some (some x) → ∃ m, H[m]? = some (some x) ∧ upd ρ H.length (ρ i) k = ρ m ∧ (k = m ∧ k ≠ i ∨ k = H.length ∧ m = i) := by
    intro k x hk
    rcases at_ k x hk with ⟨h1, h2, h3⟩ | ⟨rfl, rfl⟩
    · exact ⟨k, h3, upd_lt k h1, .inl ⟨rfl, h2⟩⟩
    · exact ⟨i, hb, upd_same, .inr ⟨rfl, rfl⟩⟩
  refine { blk := ?_, own := ?_, far := ?_, os := hs.os, tape := hs.tape, output := hs.output, size := hs.size, keep := hs.keep, agree := ?_, len := ?_, glob := hs.glob }
  · intro k x hk
    obtain ⟨m, h1, h2, _⟩ := look k x hk
    rw [h2, hlen]
    obtain ⟨cs, t, fr, g1, g2, g3⟩ := hs.blk m x h1
    refine ⟨cs, t, fr, g1, g2, fun j v hj => ?_⟩
    obtain ⟨v', a, r⟩ := g3 j v hj
    exact ⟨v', a, r.mono upd_lt (by omega)⟩
  · intro k x hk ho
    obtain ⟨m, h1, h2, _⟩ := look k x hk
    rw [h2]; exact hs.own m x h1 ho
  · intro k m bk bm hk hm ho hne
    obtain ⟨k', h1, h2, h3⟩ := look k bk hk
    obtain ⟨m', g1, g2, g3⟩ := look m bm hm
    rw [h2, g2]
    exact hs.far k' m' bk bm h1 g1 ho (by omega)
  · intro k hk
    rw [upd_lt k (by have := hs.len; omega)]; exact hs.agree k hk
  · rw [hlen]; have := hs.len; omega

/-- the context of a call -/
def ctxOf (ρ : Nat → Loc) (H : Heap) (w : World) : Ctx :=
  { w := w, S := fun k => ∃ i b, H[i]? = some (some b) ∧ b.own = true ∧ (ρ i).block = k, n := H.length, r := ρ }

theorem Sim.enter (hs : Sim X C ρ H w) : Sim X (ctxOf ρ H w) ρ H w :=
  { blk := hs.blk, own := fun i b h ho => .inl ⟨i, b, h, ho, rfl⟩, far := hs.far, os := rfl, tape := rfl, output := rfl, size := Nat.le_refl _, keep := fun _ _ _ => rfl, agree := fun _ _ => rfl, len := Nat.le_refl _,
    glob := fun g l h => by
      obtain ⟨h1, h2⟩ := hs.globNow h
      obtain ⟨g1, g2, cs, t, fr, g3, g4⟩ := hs.glob g l h
      refine ⟨?_, h1, h2⟩
      rintro ⟨i, b, hb, ho, e⟩
      have hlt : g < C.w.heap.size := by
        rcases Nat.lt_or_ge g C.w.heap.size with h' | h'
        · exact h'
        · rw [Array.getElem?_eq_none h'] at g3; cases g3
      rcases hs.own i b hb ho with h | h
      · rw [e] at h; exact g1 h
      · omega }

theorem Sim.leave {ρ' : Nat → Loc} {H' : Heap} {w' : World} (hs : Sim X C ρ H w) (h : Sim X (ctxOf ρ H w) ρ' H' w') : Sim X C ρ' H' w' := by
  have hS : ∀ k, (ctxOf ρ H w).S k → C.S k ∨ C.w.heap.size ≤ k := by
    rintro k ⟨i, b, hb, ho, rfl⟩; exact hs.own i b hb ho
  refine { blk := h.blk, own := ?_, far := h.far, os := h.os.trans hs.os, tape := h.tape.trans hs.tape, output := h.output.trans hs.output, size := Nat.le_trans hs.size h.size, keep := ?_, agree := ?_, len := Nat.le_trans hs.len h.len, glob := hs.glob }
  · intro i b hb ho
    rcases h.own i b hb ho with h1 | h1
    · exact hS _ h1
    · exact .inr (Nat.le_trans hs.size h1)
  · intro k hk hk'
    rw [h.keep k (Nat.lt_of_lt_of_le hk hs.size) (fun h => by rcases hS k h with h | h; exact hk' h; omega)]
    exact hs.keep k hk hk'
  · intro i hi
    rw [h.agree i (Nat.lt_of_lt_of_le hi hs.len)]; exact hs.agree i hi

end
end Go.Ab
