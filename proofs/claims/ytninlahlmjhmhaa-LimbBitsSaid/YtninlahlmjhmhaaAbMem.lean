import Derived.Test.YtninlahlmjhmhaaAbOps
namespace Go.Ab

/-- a function with a body -/
def Has (X : Cx) (f : FuncId) : Prop := ∃ fn, X.P.funcs[f]? = some fn ∧ (fn.name == "runtime.NumGoroutine") = false ∧ fn.body.isNone = false

def GlobOK (X : Cx) (w : World) : Prop := ∀ g l, X.glob g = some l → l.all plainC = true ∧ ∃ cs t fr, w.heap[g]? = some (.cells cs t fr) ∧ cs.toList = l

/-- a call that looks at no memory -/
def PCall (X : Cx) (f : FuncId) (l : List Value) (v : Value) : Prop :=
  l.all plainT = true ∧ plainT v = true ∧ ((Has X f ∧ ∀ w, GlobOK X w → Calls X.P f ⟨l⟩ w (fun e w' => e = .returned v ∧ RowKit.Below w.heap.size w w')) ∨
    (∀ w, (callFunc f ⟨l⟩).run X.P w = .ok (.value v) w))

def OrcOK (X : Cx) : Prop := ∀ f l v, X.orc f l = some v → PCall X f l v

/-- a call that may look at memory, and write it -/
def HCall (X : Cx) (f : FuncId) (l : List Value) (H : Heap) (v : Value) (H' : Heap) : Prop :=
  Has X f ∧ ∀ C ρ w l', LRel (TRel ρ H.length) l l' → Sim X C ρ H w →
    Calls X.P f ⟨l'⟩ w (fun e w' => ∃ v' ρ', e = .returned v' ∧ TRel ρ' H'.length v v' ∧ (∀ i, i < H.length → ρ' i = ρ i) ∧ H.length ≤ H'.length ∧ Sim X C ρ' H' w')

def HOK (X : Cx) (hc : HOrc) : Prop := ∀ f l H v H', hc f l H = some (v, H') → HCall X f l H v H'

section
variable {X : Cx} {C : Ctx} {ρ : Nat → Loc} {H : Heap} {n : Nat} {e : Env} {a : Act} {w : World}

theorem Sim.globOK (hs : Sim X C ρ H w) : GlobOK X w := fun _ _ h => hs.globNow h

theorem Sim.below {w' : World} (hs : Sim X C ρ H w) (hb : RowKit.Below w.heap.size w w') : Sim X C ρ H w' :=
  { blk := fun i b h => by
      obtain ⟨cs, t, fr, h1, h2⟩ := hs.blk i b h
      exact ⟨cs, t, fr, by rw [hb.block _ (hs.lt h)]; exact h1, h2⟩
    own := hs.own, far := hs.far, os := hb.os.trans hs.os, tape := hb.tape.trans hs.tape, output := hb.output.trans hs.output, size := Nat.le_trans hs.size hb.size
    keep := fun b h1 h2 => by rw [hb.block b (Nat.lt_of_lt_of_le h1 hs.size)]; exact hs.keep b h1 h2
    agree := hs.agree, len := hs.len, glob := hs.glob }

theorem run_callFunc {P : Program} {f : FuncId} {fn : Func} {args : Array Value} (h1 : P.funcs[f]? = some fn) (h2 : (fn.name == "runtime.NumGoroutine") = false) (h3 : fn.body.isNone = false) :
    (callFunc f args).run P w = .ok (.enter f args) w := by
  simp only [callFunc, Sem.run_bind, run_program, Result.andThen_ok, h1, h2, h3]
  rfl

theorem blkAt_some {i : Nat} {b : Blk} (h : blkAt H i = some b) : H[i]? = some (some b) := by
  unfold blkAt at h
  cases hi : H[i]? with
  | none => simp [hi] at h
  | some x => simp [hi] at h; subst h; rfl

/-- the cells behind an address -/
theorem cellsAt_sound (hs : Sim X C ρ H w) {p : Addr} {cs : List Value} (h : cellsAt X H p = some cs) :
    ∃ cs' t fr off, w.heap[(locA ρ p).block]? = some (.cells cs' t fr) ∧ locA ρ p = ⟨(locA ρ p).block, off + p.off, none⟩ ∧ ∀ (j : Nat) v, cs[j]? = some v → ∃ v', cs'[off + j]? = some v' ∧ CRel ρ H.length v v' := by
  unfold cellsAt at h
  split at h
  · rename_i hsp
    simp only [Option.map_eq_some_iff] at h
    obtain ⟨b, hb, rfl⟩ := h
    obtain ⟨cs', t, fr, h1, h2, h3⟩ := hs.blk _ b (blkAt_some hb)
    exact ⟨cs', t, fr, (ρ p.block).off, by simpa [locA, hsp] using h1, by simp [locA, hsp], h3⟩
  · rename_i x hsp
    obtain ⟨h0, cs', t, fr, h1, h2⟩ := hs.globNow h
    refine ⟨cs', t, fr, 0, by simpa [locA, hsp] using h1, by simp [locA, hsp], fun j v hj => ⟨v, ?_, ?_⟩⟩
    · rw [← h2] at hj; simpa using hj
    · exact .plain (List.all_eq_true.1 h0 v (List.mem_of_getElem? hj))

theorem cell_at {p : Addr} {b off : Nat} {cs' : Array Value} {t : TypeId} {fr : Nat × Nat} (h1 : w.heap[b]? = some (.cells cs' t fr)) (h2 : p = ⟨b, off, none⟩) (j : Nat) : w.cell? (p.add j) = cs'[off + j]? := by
  subst h2
  have hadd : (⟨b, off, none⟩ : Addr).add j = ⟨b, off + j, none⟩ := by unfold Addr.add; split <;> simp_all
  rw [hadd]; simp [World.cell?, h1]

/-- some cells in a row are read -/
theorem load_row (hs : Sim X C ρ H w) {p : Addr} {cs : List Value} (h : cellsAt X H p = some cs) {k : Nat} (hk : p.off + k ≤ cs.length) :
    ∃ cs', (loadCells (locA ρ p) k).run X.P w = .ok cs' w ∧ LRel (CRel ρ H.length) ((cs.drop p.off).take k) cs'.toList := by
  obtain ⟨cs', t, fr, off, h1, h2, h3⟩ := cellsAt_sound hs h
  have hlen : ((cs'.toList.drop (off + p.off)).take k).length = k := by
    rcases Nat.lt_or_ge 0 k with hk0 | hk0
    · obtain ⟨v', g, _⟩ := h3 (p.off + k - 1) cs[p.off + k - 1] (by rw [List.getElem?_eq_getElem (by omega)])
      have := (Array.getElem?_eq_some_iff.1 g).1
      simp; omega
    · obtain rfl : k = 0 := by omega
      simp
  have hl : LRel (CRel ρ H.length) ((cs.drop p.off).take k) ((cs'.toList.drop (off + p.off)).take k) := by
    refine ⟨by rw [hlen]; simp; omega, fun j v hj => ?_⟩
    rw [List.getElem?_take] at hj
    split at hj
    · rename_i hlt
      rw [List.getElem?_drop] at hj
      obtain ⟨v', g1, g2⟩ := h3 _ v hj
      exact ⟨v', by rw [List.getElem?_take, if_pos hlt, List.getElem?_drop, Nat.add_assoc]; simpa using g1, g2⟩
    · cases hj
  have hr := run_loadCells_list (P := X.P) w (locA ρ p) ((cs'.toList.drop (off + p.off)).take k) (fun j v hj => by
    rw [cell_at h1 h2 j]
    rw [List.getElem?_take] at hj
    split at hj
    · rw [List.getElem?_drop] at hj; simpa using hj
    · cases hj)
  rw [hlen] at hr
  exact ⟨_, hr, by simpa using hl⟩

theorem ald_sound (hs : Sim X C ρ H w) {t : TypeId} {x v x' : Value} (h : ald X H t x = some v) (hx : TRel ρ H.length x x') :
    ∃ p, x' = .pointer (some p) ∧ ∃ v', (loadVar t p).run X.P w = .ok v' w ∧ VRel ρ H.length v v' := by
  unfold ald at h
  split at h
  · rename_i p
    obtain ⟨hp, rfl⟩ := TRel.ptr hx
    simp only [Option.bind_eq_some_iff] at h
    obtain ⟨cs, hcs, h⟩ := h
    refine ⟨_, rfl, ?_⟩
    unfold apart at h
    split at h
    · rename_i d k hd hk
      split at h
      · rename_i hagg
        cases hb : Nat.ble (p.off + k) cs.length with
        | false => simp [hb] at h
        | true =>
          simp only [hb, cond_true, Option.some.injEq] at h
          subst h
          obtain ⟨cs', g1, g2⟩ := load_row hs hcs (k := k) (by simpa using hb)
          exact ⟨.agg cs', by simp [loadVar, run_isAgg hd, hagg, run_sizeOf hk, g1], cs', rfl, g2⟩
      · rename_i hagg
        obtain ⟨cs', t', fr, off, h1, h2, h3⟩ := cellsAt_sound hs hcs
        obtain ⟨v', g1, g2⟩ := h3 _ v h
        have hc := cell_at h1 h2 0
        have ha : (locA ρ p).add 0 = locA ρ p := rfl
        rw [ha, Nat.add_zero, g1] at hc
        exact ⟨v', by simp [loadVar, run_isAgg hd, hagg, hc], .of_C g2⟩
    · cases h
  · cases h

/-- a row of a block of one's own is written -/
theorem store_row (hs : Sim X C ρ H w) {i off : Nat} {b : Blk} (hb : H[i]? = some (some b)) (ho : b.own = true) {l l' : List Value} (hl : LRel (CRel ρ H.length) l l') (hfit : off + l.length ≤ b.cells.length) :
    ∃ w', (storeCells (locA ρ ⟨i, off, none⟩) l').run X.P w = .ok () w' ∧ Sim X C ρ (H.set i (some { b with cells := splice b.cells off l })) w' := by
  obtain ⟨cs, t, fr, h1, h2, h3⟩ := hs.blk i b hb
  obtain ⟨rfl, h4, h5, h6⟩ := h2 ho
  have hlen := hl.1
  have hst := run_storeCells_at X.P (ρ i).block ((ρ i).off + off) t l' 0 cs w h1 (by omega) hl.ones
  refine ⟨_, hst, ?_⟩
  refine hs.store hb ho h1 ?_ (by rw [length_splice _ _ _ hfit]; exact h6) ?_
  · simp; omega
  · intro j v hj
    rw [splice_eq _ _ _ hfit] at hj
    simp only [Nat.add_zero]
    rw [← Array.getElem?_toList]
    simp only [List.append_assoc] at hj ⊢
    by_cases hj1 : j < off
    · rw [List.getElem?_append_left (by simp; omega), List.getElem?_take, if_pos hj1] at hj
      obtain ⟨v', g1, g2⟩ := h3 j v hj
      refine ⟨v', ?_, g2⟩
      rw [List.getElem?_append_left (by simp; omega), List.getElem?_take, if_pos (by omega)]; simpa using g1
    · rw [List.getElem?_append_right (by simp; omega)] at hj
      have e1 : (List.take off b.cells).length = off := by simp; omega
      have e2 : (List.take ((ρ i).off + off) cs.toList).length = (ρ i).off + off := by simp; omega
      rw [e1] at hj
      rw [List.getElem?_append_right (by omega), e2]
      have e3 : (ρ i).off + j - ((ρ i).off + off) = j - off := by omega
      rw [e3]
      by_cases hj2 : j - off < l.length
      · rw [List.getElem?_append_left hj2] at hj
        obtain ⟨v', g1, g2⟩ := hl.2 _ v hj
        exact ⟨v', by rw [List.getElem?_append_left (by omega)]; exact g1, g2⟩
      · rw [List.getElem?_append_right (by omega), List.getElem?_drop] at hj
        obtain ⟨v', g1, g2⟩ := h3 _ v hj
        refine ⟨v', ?_, g2⟩
        rw [List.getElem?_append_right (by omega), List.getElem?_drop]
        have e4 : (ρ i).off + (off + l.length + (j - off - l.length)) = (ρ i).off + off + l'.length + (j - off - l'.length) := by omega
        rw [← e4]; simpa using g1

theorem ast_sound (hs : Sim X C ρ H w) {t : TypeId} {x v x' v' : Value} {H' : Heap} (h : ast X.P H t x v = some H') (hx : TRel ρ H.length x x') (hv : TRel ρ H.length v v') :
    ∃ w', (Instr.storeAt t x' v').run X.P w = .ok () w' ∧ Sim X C ρ H' w' ∧ H'.length = H.length := by
  unfold ast at h
  split at h
  · rename_i i off
    obtain ⟨_, rfl⟩ := TRel.ptr hx
    split at h
    · rename_i b k hb hk
      cases hc : (b.own && Nat.beq (vcells v).length k && Nat.ble (off + k) b.cells.length && !isTup v) with
      | false => simp [hc] at h
      | true =>
        simp only [hc, cond_true, Option.some.injEq] at h
        simp only [Bool.and_eq_true, Nat.ble_eq, Bool.not_eq_true'] at hc
        obtain ⟨⟨⟨c1, c2⟩, c3⟩, c4⟩ := hc
        have c2 : (vcells v).length = k := Nat.eq_of_beq_eq_true c2
        subst h
        have hvr : VRel ρ H.length v v' := hv.V (by intro vs e; subst e; simp [isTup] at c4)
        have hcell := hvr.cells
        obtain ⟨w', g1, g2⟩ := store_row hs (off := off) (blkAt_some hb) c1 hcell (by omega)
        refine ⟨w', ?_, g2, by simp⟩
        have hsz : v'.cells.size = k := by have := hcell.1; simp at this; omega
        simp [Instr.storeAt, Instr.sureAddr, storeVar, run_sizeOf hk, hsz, g1]
    · cases h
  · cases h

theorem run_newVar (P : Program) (t : TypeId) (v : Value) (w : World) : (newVar t v).run P w = .ok ⟨w.heap.size, 0, none⟩ (w.alloc (.cells v.cells t)) := rfl

/-- a new variable -/
theorem newVar_sound (hs : Sim X C ρ H w) {t : TypeId} {v v' : Value} {es : Nat} (hv : VRel ρ H.length v v') :
    ∃ ρ' w', (newVar t v').run X.P w = .ok ⟨w.heap.size, 0, none⟩ w' ∧ (∀ i, i < H.length → ρ' i = ρ i) ∧ Sim X C ρ' (H ++ [some { cells := vcells v, own := true, es := es }]) w' ∧
      TRel ρ' (H.length + 1) (.pointer (some ⟨H.length, 0, none⟩)) (.pointer (some ⟨w.heap.size, 0, none⟩)) := by
  have hc := hv.cells
  have hlen : (vcells v).length = v'.cells.size := by have := hc.1; simpa using this
  refine ⟨_, _, run_newVar _ _ _ _, upd_lt, hs.alloc (es := es) (t := t) (l := vcells v) (cs := v'.cells) (by omega) (fun j u hj => ?_), ?_⟩
  · obtain ⟨u', a1, a2⟩ := hc.2 j u hj
    exact ⟨u', by simpa using a1, a2⟩
  · exact ⟨fun _ => by simp, by simp [locA, upd_same]⟩

theorem lenV_sound {x x' : Value} {k : Nat} (h : lenV x = some k) (hx : TRel ρ n x x') : ∀ w, (Builtin.lenOf x').run X.P w = .ok k w := by
  intro w
  unfold lenV at h
  split at h
  · rename_i sa l c
    injection h with h; subst h
    cases sa with
    | none => obtain ⟨rfl, rfl, rfl⟩ := TRel.slcnil hx; rfl
    | some p => obtain ⟨_, a', c', rfl, _⟩ := TRel.slc hx; rfl
  · have := TRel.str hx; subst this
    injection h with h; subst h; rfl
  · cases h

theorem run_loadCells_zero (P : Program) (p : Addr) (w : World) : (loadCells p 0).run P w = .ok #[] w := rfl

theorem rowOf_sound (hs : Sim X C ρ H w) {sz k l : Nat} {x x' : Value} {cs : List Value} (h : rowOf X H sz k x = some cs) (hl : lenV x = some l) (hk : k ≤ l) (hx : TRel ρ H.length x x') :
    (isTup x = false → cs.length = k * sz ∨ ∃ s, x = .string s ∧ cs.length = k) ∧ ∃ cs', (Builtin.firstCells sz k x').run X.P w = .ok cs' w ∧ LRel (CRel ρ H.length) cs cs'.toList := by
  unfold rowOf at h
  split at h
  · rename_i p len cap
    obtain ⟨_, a', c', rfl, hc⟩ := TRel.slc hx
    simp only [lenV, Option.some.injEq] at hl
    subst hl
    cases hk0 : Nat.beq k 0 with
    | true =>
      have hk0 := Nat.eq_of_beq_eq_true hk0
      subst hk0
      simp only [Nat.beq_refl, cond_true, Option.some.injEq] at h
      subst h
      refine ⟨fun _ => .inl (by simp), #[], ?_, .nil⟩
      simp only [Builtin.firstCells, Nat.zero_mul]; exact run_loadCells_zero _ _ _
    | false =>
    rw [hk0] at h
    simp only [cond_false, Option.bind_eq_some_iff] at h
    obtain ⟨cs0, h0, h⟩ := h
    split at h
    · rename_i hfit
      injection h with h; subst h
      refine ⟨fun _ => .inl (by simp; omega), ?_⟩
      have hor : a' = locA ρ p ∨ len = 0 := by
        unfold capRel at hc
        split at hc
        · exact hc.1.imp id (·.1)
        · exact .inl hc.1
      rcases hor with rfl | hz
      · obtain ⟨cs', g1, g2⟩ := load_row hs h0 hfit
        exact ⟨cs', by simpa [Builtin.firstCells] using g1, g2⟩
      · obtain rfl : k = 0 := by omega
        refine ⟨#[], ?_, ?_⟩
        · simp only [Builtin.firstCells, Nat.zero_mul]; exact run_loadCells_zero _ _ _
        · simp only [Nat.zero_mul, List.take_zero]; exact .nil
    · cases h
  · obtain ⟨rfl, rfl, rfl⟩ := TRel.slcnil hx
    split at h
    · rename_i hz
      injection h with h; subst h; subst hz
      exact ⟨fun _ => .inl (by simp), #[], rfl, .nil⟩
    · cases h
  · rename_i s
    have := TRel.str hx; subst this
    simp only [lenV, Option.some.injEq] at hl
    injection h with h; subst h
    refine ⟨fun _ => .inr ⟨s, rfl, by simp; have : s.data.size = s.size := rfl; omega⟩, _, rfl, ?_⟩
    have e1 : ((s.extract 0 k).data.map fun b => Value.int .u8 b.toNat).toList = (s.data.toList.take k).map fun b => Value.int .u8 b.toNat := by
      simp [ByteArray.data_extract, Array.toList_extract, List.extract_eq_take_drop]
    rw [e1]
    exact LRel.refl_of fun v hv => by
      simp only [List.mem_map] at hv
      obtain ⟨b, _, rfl⟩ := hv
      exact rfl
  · cases h

/-- a new row -/
theorem newRow_sound (hs : Sim X C ρ H w) {t : TypeId} {l : List Value} {cs : Array Value} {es : Nat} (hl : l.length ≤ cs.size) (h : ∀ (j : Nat) v, l[j]? = some v → ∃ v', cs[j]? = some v' ∧ CRel ρ H.length v v') :
    ∃ ρ' w', (newRow t cs).run X.P w = .ok ⟨w.heap.size, 0, none⟩ w' ∧ (∀ i, i < H.length → ρ' i = ρ i) ∧ Sim X C ρ' (H ++ [some { cells := l, own := true, es := es }]) w' ∧
      ρ' H.length = ⟨w.heap.size, 0, cs.size, es⟩ :=
  ⟨_, _, rfl, upd_lt, hs.alloc (es := es) (t := t) hl h, upd_same⟩

theorem growBy_le (nl : Nat) : ∀ (k c : Nat), c ≤ 2 * nl → 256 ≤ nl → Builtin.growBy nl k c ≤ 2 * nl := by
  intro k
  induction k with
  | zero => intro c h _; simpa [Builtin.growBy] using h
  | succ k ih =>
    intro c h h2
    simp only [Builtin.growBy]
    split
    · exact h
    · rename_i hlt
      exact ih _ (by omega) h2

theorem nextcap_le (need old : Nat) (h : old < need) : Builtin.nextslicecap need old ≤ 2 * need := by
  unfold Builtin.nextslicecap
  split
  · omega
  · split
    · omega
    · exact growBy_le _ _ _ (by omega) (by omega)

theorem size_zeroCells (z : Array Value) (k : Nat) : (Builtin.zeroCells z k).size = k * z.size := by simp [Builtin.zeroCells]

theorem bytesOf_some {P : Program} {t : TypeId} {n : Nat} (h : bytesOf P t = some n) : ∃ i, P.info? t = some i ∧ i.bytes = n := by
  simpa [bytesOf] using h

theorem acopy_sound (hs : Sim X C ρ H w) {t : TypeId} {d s d' s' v : Value} {H' : Heap} (h : acopy X H t d s = some (v, H')) (hd : TRel ρ H.length d d') (hsr : TRel ρ H.length s s') (ts : Array TypeId) (ty : TypeId) (ht : ts[0]? = some t) :
    ∃ w', (Builtin.copy_ ts ty #[d', s']).run X.P w = .ok v w' ∧ Sim X C ρ H' w' ∧ H'.length = H.length ∧ TRel ρ H'.length v v := by
  unfold acopy at h
  split at h
  · rename_i el da dl dc hu
    simp only [Option.bind_eq_some_iff] at h
    obtain ⟨sz, hsz, sl, hsl, cs, hcs, h⟩ := h
    obtain ⟨_, cs', f1, f2⟩ := rowOf_sound hs hcs hsl (Nat.min_le_left _ _) hsr
    have hdst : ∃ da' dc', d' = .slice da' dl dc' ∧ (da = none → da' = none) ∧ ∀ p, da = some p → ∃ a', da' = some a' ∧ (a' = locA ρ p ∨ dl = 0) := by
      cases da with
      | none => obtain ⟨rfl, rfl, rfl⟩ := TRel.slcnil hd; exact ⟨_, _, rfl, fun _ => rfl, by simp⟩
      | some p =>
        obtain ⟨_, a', c', rfl, hc⟩ := TRel.slc hd
        refine ⟨_, _, rfl, by simp, fun q hq => ⟨a', rfl, ?_⟩⟩
        cases hq
        unfold capRel at hc
        split at hc
        · exact hc.1.imp id (·.1)
        · exact .inl hc.1
    obtain ⟨da', dc', rfl, k1, k2⟩ := hdst
    have hrun : (Builtin.copy_ ts ty #[.slice da' dl dc', s']).run X.P w = ((if let some a := da' then storeCells a cs'.toList else pure () : Sem Unit).run X.P w).andThen fun _ w' => .ok (.int .i64 (Nat.min sl dl)) w' := by
      simp only [Builtin.copy_, ht, List.getElem?_toArray, List.getElem?_cons_zero, List.getElem?_cons_succ, Sem.run_bind, run_underlying' hu, Result.andThen_ok, lenV_sound (X := X) hsl hsr, run_sizeOf hsz, f1]
      cases da' <;> simp [goInt]
    split at h
    · simp only [Option.some.injEq, Prod.mk.injEq] at h
      obtain ⟨rfl, rfl⟩ := h
      have := k1 rfl; subst this
      exact ⟨w, by rw [hrun]; rfl, hs, rfl, rfl⟩
    · rename_i i off
      simp only [Option.bind_eq_some_iff] at h
      obtain ⟨b, hb, h⟩ := h
      split at h
      · rename_i hfit
        simp only [Option.some.injEq, Prod.mk.injEq] at h
        obtain ⟨rfl, rfl⟩ := h
        obtain ⟨a', rfl, ha⟩ := k2 _ rfl
        by_cases hz : cs = []
        · subst hz
          have hcs'0 : cs'.toList = [] := by have := f2.1; simp at this; simpa using this.symm
          refine ⟨w, ?_, ?_, by simp, rfl⟩
          · rw [hrun, hcs'0]; rfl
          · have e0 : splice b.cells off [] = b.cells := by simp [splice]
            rw [e0]
            have : H.set i (some { b with cells := b.cells }) = H := by
              have hb' := blkAt_some hb
              apply List.ext_getElem?
              intro j
              rw [List.getElem?_set]
              by_cases e : i = j
              · subst e
                have : i < H.length := (List.getElem?_eq_some_iff.1 hb').1
                rw [if_pos rfl, if_pos this, hb']
              · simp [e]
            rw [this]; exact hs
        · have hdl : a' = locA ρ ⟨i, off, none⟩ := by
            rcases ha with h | h
            · exact h
            · exfalso
              apply hz
              subst h
              have : Nat.min sl 0 = 0 := by simp
              rw [this] at hcs
              unfold rowOf at hcs
              split at hcs
              · simpa using hcs.symm
              · simpa using hcs.symm
              · simpa using hcs.symm
              · cases hcs
          subst hdl
          obtain ⟨w', g1, g2⟩ := store_row hs (blkAt_some hb) hfit.1 f2 hfit.2
          exact ⟨w', by rw [hrun]; simp only [g1, Result.andThen_ok], g2, by simp, rfl⟩
      · cases h
    · cases h
  · cases h


section
variable {P : Program} {ts : Array TypeId} {ty t t2 el : TypeId} {d2 : TypeDesc} {sz l k : Nat} {x' : Value} {new' : Array Value}
theorem run_append_in {sa' : Option Addr} {cap' : Nat} {w' : World} (ht : ts[0]? = some t) (ht2 : ts[1]? = some t2) (hu : P.underlying t = some (.slice el)) (hsz : szOf P el = some sz)
    (hu2 : P.underlying t2 = some d2) (hd2 : (∃ e2, d2 = .slice e2) ∨ d2 = .string) (hlen : (Builtin.lenOf x').run P w = .ok k w) (hnew : (Builtin.firstCells sz k x').run P w = .ok new' w) (hfit : l + k ≤ cap')
    (hst : ((if let some a := sa' then storeCells (a.add (l * sz)) new'.toList else pure () : Sem Unit).run P w) = .ok () w') :
    (Builtin.append_ ts ty #[.slice sa' l cap', x']).run P w = .ok (.slice sa' (l + k) cap') w' := by
  rcases hd2 with ⟨e2, rfl⟩ | rfl <;> cases sa' with
  | none =>
    simp only [Sem.run_pure, Result.ok.injEq, true_and] at hst
    subst hst
    simp only [Builtin.append_, ht, ht2, List.getElem?_toArray, List.getElem?_cons_zero, List.getElem?_cons_succ, Sem.run_bind, run_underlying' hu, run_underlying' hu2, Result.andThen_ok, run_sizeOf hsz, Bool.false_eq_true, if_false, hlen, if_pos hfit, Bool.not_false, if_true, hnew, Sem.run_pure]
  | some a =>
    simp only at hst
    simp only [Builtin.append_, ht, ht2, List.getElem?_toArray, List.getElem?_cons_zero, List.getElem?_cons_succ, Sem.run_bind, run_underlying' hu, run_underlying' hu2, Result.andThen_ok, run_sizeOf hsz, Bool.false_eq_true, if_false, hlen, if_pos hfit, Bool.not_false, if_true, hnew, hst, Sem.run_pure]

theorem run_append_grow {sa' : Option Addr} {cap' by_ : Nat} {old' : Array Value} {z : Value} (ht : ts[0]? = some t) (ht2 : ts[1]? = some t2) (hu : P.underlying t = some (.slice el)) (hsz : szOf P el = some sz) (hby : bytesOf P el = some by_) (hzv : zeroOf P el = some z)
    (hu2 : P.underlying t2 = some d2) (hd2 : (∃ e2, d2 = .slice e2) ∨ d2 = .string) (hlen : (Builtin.lenOf x').run P w = .ok k w) (hfit : cap' < l + k) (hby0 : 0 < by_) (hbound : (l + k) * by_ ≤ 2 ^ 47)
    (hold : (Builtin.firstCells sz l (.slice sa' l cap')).run P w.drew = .ok old' w.drew) (hnew : (Builtin.firstCells sz k x').run P w.drew = .ok new' w.drew) :
    ∃ newCap w1, l + k ≤ newCap ∧ newCap < 2 ^ 63 ∧ w1 = w.drew ∧
      (Builtin.append_ ts ty #[.slice sa' l cap', x']).run P w = .ok (.slice (some ⟨w.heap.size, 0, none⟩) (l + k) newCap) (w1.alloc (.cells (old' ++ new' ++ Builtin.zeroCells z.cells (newCap - (l + k))) el)) := by
  obtain ⟨ie, hie, hieb⟩ := bytesOf_some hby
  have hneed : l + k ≤ 2 ^ 47 := Nat.le_trans (Nat.le_mul_of_pos_right _ hby0) hbound
  have hnext : ¬ (Builtin.nextslicecap (l + k) cap' * by_ > 2 ^ 48) := by
    have h1 := nextcap_le (l + k) cap' hfit
    have h2 := Nat.mul_le_mul_right by_ h1
    have h3 : 2 * (l + k) * by_ = 2 * ((l + k) * by_) := Nat.mul_assoc _ _ _
    omega
  have hbig : ¬ (((l + k : Nat) : Int) > IntKind.i64.max ∧ (False ∨ by_ = 0)) := by
    rintro ⟨_, h | h⟩
    · exact h
    · omega
  refine ⟨(l + k) + w.tape w.drawn (.appendCap (l + k) cap' el) % (2 ^ 63 - (l + k)), w.drew, by omega, ?_, rfl, ?_⟩
  · have : w.tape w.drawn (.appendCap (l + k) cap' el) % (2 ^ 63 - (l + k)) < 2 ^ 63 - (l + k) := Nat.mod_lt _ (by omega)
    omega
  · have hti : (typeInfo el).run P w = .ok ie w := by simp [typeInfo, hie]
    have hti' : (typeInfo el).run P w.drew = .ok ie w.drew := by simp [typeInfo, hie]
    have hzr : (zeroValue el).run P w.drew = .ok z w.drew := run_zeroValue hzv
    have hch : (choose (.appendCap (l + k) cap' el)).run P w = .ok ((l + k) + w.tape w.drawn (.appendCap (l + k) cap' el) % (2 ^ 63 - (l + k))) w.drew := by
      simp [run_choose, Question.forced, Question.cut]
    have hnr : ∀ (cs : Array Value), (newRow el cs).run P w.drew = .ok ⟨w.heap.size, 0, none⟩ (w.drew.alloc (.cells cs el)) := fun _ => rfl
    rcases hd2 with ⟨e2, rfl⟩ | rfl <;>
      (simp only [Builtin.append_, ht, ht2, List.getElem?_toArray, List.getElem?_cons_zero, List.getElem?_cons_succ, Sem.run_bind, run_underlying' hu, run_underlying' hu2, Result.andThen_ok, run_sizeOf hsz, Bool.false_eq_true, if_false, hlen,
        if_neg (by omega : ¬ l + k ≤ cap'), Bool.not_false, if_true, hti, hieb, Sem.run_pure]
       rw [if_neg hbig]
       simp only [Sem.run_bind, hti, Result.andThen_ok, hieb]
       rw [if_neg hnext]
       simp only [Sem.run_bind, hch, Result.andThen_ok, hti', run_askRoom, hold, hnew, hzr, hnr, Sem.run_pure])
end


theorem vcells_size (v : Value) : v.cells.size = (vcells v).length := by cases v <;> simp [Value.cells, vcells]

theorem set_same {i : Nat} {b : Blk} (hb : H[i]? = some (some b)) : H.set i (some b) = H := by
  apply List.ext_getElem?
  intro j
  rw [List.getElem?_set]
  by_cases e : i = j
  · subst e
    rw [if_pos rfl, if_pos (List.getElem?_eq_some_iff.1 hb).1, hb]
  · simp [e]

/-- cells ahead, and zeros behind -/
theorem LRel.ahead {R : Value → Value → Prop} {l : List Value} {cs : Array Value} {z : Array Value} (h : LRel R l cs.toList) : l.length ≤ (cs ++ z).size ∧ ∀ (j : Nat) v, l[j]? = some v → ∃ v', (cs ++ z)[j]? = some v' ∧ R v v' := by
  have hl : l.length = cs.size := by simpa using h.1
  refine ⟨by simp; omega, fun j v hj => ?_⟩
  obtain ⟨v', a, r⟩ := h.2 j v hj
  have hlt : j < cs.size := by have := (List.getElem?_eq_some_iff.1 hj).1; omega
  exact ⟨v', by rw [Array.getElem?_append_left hlt]; simpa using a, r⟩

theorem aappend_sound (hs : Sim X C ρ H w) {t t2 : TypeId} {s x s' x' v : Value} {H' : Heap} (h : aappend X H t s x = some (v, H')) (hsr : TRel ρ H.length s s') (hx : TRel ρ H.length x x') (ts : Array TypeId) (ty : TypeId)
    (ht : ts[0]? = some t) (ht2 : ts[1]? = some t2) {d2 : TypeDesc} (hu2 : X.P.underlying t2 = some d2) (hd2 : (∃ e2, d2 = .slice e2) ∨ d2 = .string) :
    ∃ ρ' w' v', (Builtin.append_ ts ty #[s', x']).run X.P w = .ok v' w' ∧ (∀ i, i < H.length → ρ' i = ρ i) ∧ Sim X C ρ' H' w' ∧ H.length ≤ H'.length ∧ TRel ρ' H'.length v v' := by
  unfold aappend at h
  split at h
  · rename_i el sa l cap hu
    simp only [Option.bind_eq_some_iff] at h
    obtain ⟨sz, hsz, by_, hby, z, hz, k, hk, new, hnew, h⟩ := h
    cases hchk : (strOne sz x && Nat.beq (vcells z).length sz) with
    | false => simp [hchk] at h
    | true =>
    simp only [hchk, Bool.not_true, cond_false] at h
    simp only [Bool.and_eq_true] at hchk
    obtain ⟨hstr, hzsz0⟩ := hchk
    have hzsz : z.cells.size = sz := by rw [vcells_size]; exact Nat.eq_of_beq_eq_true hzsz0
    obtain ⟨hn0, new', n1, n2⟩ := rowOf_sound hs hnew hk (Nat.le_refl _) hx
    obtain ⟨_, newd, d1, d2'⟩ := rowOf_sound hs.drew hnew hk (Nat.le_refl _) hx
    have hnlen : new.length = k * sz := by
      have hnt : isTup x = false := by
        cases x <;> first | rfl | (simp [lenV] at hk)
      rcases hn0 hnt with h | ⟨s0, rfl, h⟩
      · exact h
      · simp only [strOne] at hstr
        have := Nat.eq_of_beq_eq_true hstr
        rw [h, this, Nat.mul_one]
    have hlenx := lenV_sound (X := X) hk hx w
    by_cases hcU : Nat.beq cap capU = true
    · simp only [hcU, cond_true] at h
      have hcap : cap = capU := Nat.eq_of_beq_eq_true hcU
      split at h
      · rename_i i
        simp only [Option.bind_eq_some_iff] at h
        obtain ⟨b, hb, h⟩ := h
        split at h
        · rename_i hc
          obtain ⟨c1, c2, c3, c4, c5, c6⟩ := hc
          simp only [Option.some.injEq, Prod.mk.injEq] at h
          obtain ⟨rfl, rfl⟩ := h
          obtain ⟨hp, a', c', rfl, hcr⟩ := TRel.slc hsr
          simp only [capRel, hcap, if_true] at hcr
          obtain ⟨k1, k2, k3, k4⟩ := hcr
          have ea : a' = locA ρ ⟨i, 0, none⟩ := by
            rcases k1 with h | ⟨_, h⟩
            · exact h
            · exact absurd rfl h
          subst ea
          have hb' := blkAt_some hb
          obtain ⟨cs, t0, fr, b1, b2, b3⟩ := hs.blk i b hb'
          obtain ⟨rfl, b4, b5, b6⟩ := b2 c1
          have k4 := k4 trivial trivial
          have hilt : i < H.length := (List.getElem?_eq_some_iff.1 hb').1
          by_cases hfit : l + k ≤ c'
          · -- there is room
            have hroom : (l + k) * sz ≤ (ρ i).size := by
              rw [← b5, c2] at k4
              exact Nat.le_trans (Nat.mul_le_mul_right _ hfit) k4
            have hnl' : new'.toList.length = k * sz := by rw [← n2.1, hnlen]
            have hns : new'.size = k * sz := by rw [← hnl']; simp
            have hadd : (locA ρ ⟨i, 0, none⟩).add (l * sz) = ⟨(ρ i).block, (ρ i).off + l * sz, none⟩ := by rw [add_locA]; simp [locA, addA]
            have hmul : (l + k) * sz = l * sz + k * sz := Nat.add_mul _ _ _
            have hst := run_storeCells_at X.P (ρ i).block ((ρ i).off + l * sz) t0 new'.toList 0 cs w b1 (by omega) n2.ones
            have hrun := run_append_in (P := X.P) (w := w) (ty := ty) (sa' := some (locA ρ ⟨i, 0, none⟩)) (cap' := c') ht ht2 hu hsz hu2 hd2 hlenx n1 hfit (by simp only [hadd]; exact hst)
            have hsim := hs.store hb' c1 b1 (cs' := (cs.toList.take ((ρ i).off + l * sz + 0) ++ new'.toList ++ cs.toList.drop ((ρ i).off + l * sz + 0 + new'.toList.length)).toArray) (l := b.cells ++ new)
              (by simp only [List.size_toArray, List.length_append, List.length_take, List.length_drop, Array.length_toList]; omega) (by simp only [List.length_append, c5, hnlen]; omega) (by
                intro j u hj
                rw [← Array.getElem?_toList]
                simp only [List.append_assoc, Nat.add_zero]
                by_cases hj1 : j < b.cells.length
                · rw [List.getElem?_append_left hj1] at hj
                  obtain ⟨u', g1, g2⟩ := b3 j u hj
                  refine ⟨u', ?_, g2⟩
                  rw [List.getElem?_append_left (by simp; omega), List.getElem?_take, if_pos (by omega)]; simpa using g1
                · rw [List.getElem?_append_right (by omega)] at hj
                  obtain ⟨u', g1, g2⟩ := n2.2 _ u hj
                  refine ⟨u', ?_, g2⟩
                  have e2 : (List.take ((ρ i).off + l * sz) cs.toList).length = (ρ i).off + l * sz := by simp; omega
                  rw [List.getElem?_append_right (by omega), e2]
                  have hjlt : j - b.cells.length < new.length := (List.getElem?_eq_some_iff.1 hj).1
                  rw [show (ρ i).off + j - ((ρ i).off + l * sz) = j - b.cells.length from by omega, List.getElem?_append_left (by omega)]
                  exact g1)
            have hmv := hsim.move (i := i) (b := { b with cells := b.cells ++ new }) (by simp [hilt])
            simp only [List.length_set, List.set_set] at hmv
            have hbb : ({ b with cells := b.cells ++ new } : Blk) = { cells := b.cells ++ new, own := true, es := sz } := by cases b; simp_all
            rw [hbb] at hmv
            refine ⟨_, _, _, hrun, upd_lt, hmv, by simp, ?_⟩
            simp only [TRel, VRel, CRel]
            refine ⟨fun _ => by simp, locA ρ ⟨i, 0, none⟩, c', rfl, ?_⟩
            simp only [capRel, if_true]
            refine ⟨.inl (by simp [locA, upd_same]), hfit, k3, fun _ _ => ?_⟩
            rw [upd_same]; exact k4
          · -- it grows
            obtain ⟨hol, old', o1, o2⟩ := rowOf_sound (sz := sz) (k := l) (l := l) (cs := (b.cells.drop 0).take (l * sz)) hs.drew (x := .slice (some ⟨i, 0, none⟩) l cap) (by cases hl0 : Nat.beq l 0 with
              | true => have := Nat.eq_of_beq_eq_true hl0; subst this; simp [rowOf]
              | false => simp [rowOf, cellsAt, hb, c5, hl0]) rfl (Nat.le_refl _) hsr
            obtain ⟨newCap, w1, g1, g2, rfl, g3⟩ := run_append_grow (P := X.P) (w := w) (ty := ty) ht ht2 hu hsz hby hz hu2 hd2 hlenx (by omega) c4 c6 o1 d1
            have e0 : (b.cells.drop 0).take (l * sz) = b.cells := by rw [← c5]; simp
            rw [e0] at o2
            have hall : LRel (CRel ρ H.length) (b.cells ++ new) (old' ++ newd).toList := by rw [Array.toList_append]; exact o2.append d2'
            obtain ⟨a1, a2⟩ := hall.ahead (z := Builtin.zeroCells z.cells (newCap - (l + k)))
            have hk2 := (hs.drew.kill i).alloc (es := sz) (t := el) (l := b.cells ++ new) (cs := old' ++ newd ++ Builtin.zeroCells z.cells (newCap - (l + k))) a1 (by simpa using a2)
            simp only [List.length_set] at hk2
            refine ⟨_, _, _, g3, upd_lt, hk2, by simp, ?_⟩
            simp only [TRel, VRel, CRel]
            refine ⟨fun _ => by simp, ⟨w.heap.size, 0, none⟩, newCap, rfl, ?_⟩
            simp only [capRel, if_true]
            refine ⟨.inl (by simp [locA, upd_same]), g1, g2, fun _ _ => ?_⟩
            rw [upd_same]
            have e3 : old'.size = l * sz := by have := o2.1; simp at this; omega
            have e4 : newd.size = k * sz := by have := d2'.1; simp at this; omega
            simp only [Array.size_append, e3, e4, size_zeroCells, hzsz]
            rw [← Nat.add_mul, ← Nat.add_mul]
            exact Nat.mul_le_mul_right _ (by omega)
        · cases h
      · cases h
    · simp only [Bool.not_eq_true] at hcU
      simp only [hcU, cond_false] at h
      have hcap : cap ≠ capU := by intro e; subst e; simp at hcU
      have hsv : ∃ sa' : Option Addr, s' = .slice sa' l cap ∧ (sa = none → sa' = none ∧ l = 0 ∧ cap = 0) ∧ ∀ p, sa = some p → sa' = some (locA ρ p) ∧ cap < capU := by
        cases sa with
        | none => obtain ⟨rfl, rfl, rfl⟩ := TRel.slcnil hsr; exact ⟨_, rfl, fun _ => ⟨rfl, rfl, rfl⟩, by simp⟩
        | some p =>
          obtain ⟨_, a', c', rfl, hc⟩ := TRel.slc hsr
          simp only [capRel, hcap, if_false] at hc
          obtain ⟨rfl, rfl, hlt⟩ := hc
          exact ⟨_, rfl, by simp, fun q hq => by cases hq; exact ⟨rfl, hlt⟩⟩
      obtain ⟨sa', rfl, s1, s2⟩ := hsv
      split at h
      · rename_i hfit
        split at h
        · simp only [Option.some.injEq, Prod.mk.injEq] at h
          obtain ⟨rfl, rfl⟩ := h
          obtain ⟨rfl, rfl, rfl⟩ := s1 rfl
          obtain rfl : k = 0 := by omega
          have hrun := run_append_in (P := X.P) (w := w) (w' := w) (ty := ty) (sa' := none) (cap' := 0) ht ht2 hu hsz hu2 hd2 hlenx n1 hfit rfl
          exact ⟨ρ, w, _, hrun, fun _ _ => rfl, hs, Nat.le_refl _, hsr⟩
        · rename_i i off
          obtain ⟨rfl, hltU⟩ := s2 _ rfl
          split at h
          · rename_i hk0
            simp only [Option.some.injEq, Prod.mk.injEq] at h
            obtain ⟨rfl, rfl⟩ := h
            subst hk0
            have hn00 : new'.toList = [] := by
              have h1 := n2.1
              rw [hnlen, Nat.zero_mul] at h1
              exact List.length_eq_zero_iff.1 h1.symm
            have hrun := run_append_in (P := X.P) (w := w) (w' := w) (ty := ty) (sa' := some (locA ρ ⟨i, off, none⟩)) (cap' := cap) ht ht2 hu hsz hu2 hd2 hlenx n1 hfit (by simp only [hn00]; rfl)
            exact ⟨ρ, w, _, hrun, fun _ _ => rfl, hs, Nat.le_refl _, hsr⟩
          · simp only [Option.bind_eq_some_iff] at h
            obtain ⟨b, hb, h⟩ := h
            split at h
            · rename_i hc
              simp only [Option.some.injEq, Prod.mk.injEq] at h
              obtain ⟨rfl, rfl⟩ := h
              have hmul : (l + k) * sz = l * sz + k * sz := Nat.add_mul _ _ _
              obtain ⟨w', g1, g2⟩ := store_row hs (off := off + l * sz) (blkAt_some hb) hc.1 n2 (by omega)
              have hadd : (locA ρ ⟨i, off, none⟩).add (l * sz) = locA ρ ⟨i, off + l * sz, none⟩ := by rw [add_locA]; rfl
              have hrun := run_append_in (P := X.P) (w := w) (w' := w') (ty := ty) (sa' := some (locA ρ ⟨i, off, none⟩)) (cap' := cap) ht ht2 hu hsz hu2 hd2 hlenx n1 hfit (by simp only [hadd]; exact g1)
              refine ⟨ρ, w', _, hrun, fun _ _ => rfl, g2, by simp, ?_⟩
              simp only [TRel, VRel, CRel, List.length_set]
              refine ⟨fun _ => (List.getElem?_eq_some_iff.1 (blkAt_some hb)).1, _, _, rfl, ?_⟩
              simp only [capRel, hcap, if_false]
              exact ⟨trivial, trivial, hltU⟩
            · cases h
        · cases h
      · rename_i hfit
        split at h
        · rename_i hc
          obtain ⟨c3, c4, c6⟩ := hc
          simp only [Option.bind_eq_some_iff, Option.some.injEq, Prod.mk.injEq] at h
          obtain ⟨old, hold, rfl, rfl⟩ := h
          obtain ⟨hol, old', o1, o2⟩ := rowOf_sound hs.drew hold rfl (Nat.le_refl _) hsr
          obtain ⟨newCap, w1, g1, g2, rfl, g3⟩ := run_append_grow (P := X.P) (w := w) (ty := ty) ht ht2 hu hsz hby hz hu2 hd2 hlenx (by omega) c4 c6 o1 d1
          have holen : old.length = l * sz := by
            rcases hol rfl with h | ⟨_, h, _⟩
            · exact h
            · cases h
          have hall : LRel (CRel ρ H.length) (old ++ new) (old' ++ newd).toList := by rw [Array.toList_append]; exact o2.append d2'
          obtain ⟨a1, a2⟩ := hall.ahead (z := Builtin.zeroCells z.cells (newCap - (l + k)))
          have hk2 := hs.drew.alloc (es := sz) (t := el) (l := old ++ new) (cs := old' ++ newd ++ Builtin.zeroCells z.cells (newCap - (l + k))) a1 a2
          refine ⟨_, _, _, g3, upd_lt, hk2, by simp, ?_⟩
          simp only [TRel, VRel, CRel]
          refine ⟨fun _ => by simp, ⟨w.heap.size, 0, none⟩, newCap, rfl, ?_⟩
          simp only [capRel, if_true]
          refine ⟨.inl (by simp [locA, upd_same]), g1, g2, fun _ _ => ?_⟩
          rw [upd_same]
          have e3 : old'.size = l * sz := by have := o2.1; simp at this; omega
          have e4 : newd.size = k * sz := by have := d2'.1; simp at this; omega
          simp only [Array.size_append, e3, e4, size_zeroCells, hzsz]
          rw [← Nat.add_mul, ← Nat.add_mul]
          exact Nat.mul_le_mul_right _ (by omega)
        · cases h
  · cases h

end
end Go.Ab
