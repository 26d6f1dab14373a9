import Derived.Test.YtninlahlmjhmhaaTyCon
import Derived.Test.YtninlahlmjhmhaaAbLaw
namespace Go.Ty
open Go.Ab (TRel VRel CRel LRel Sim capU locA)

/-! ## What comes in -/
def Sh.good : Sh → Bool
  | .sl s => Nat.blt 0 s.size && s.good
  | .pair a b => a.good && b.good
  | .arr _ s => s.good
  | .non _ => false
  | _ => true
/-- within what there is -/
def Sh.okT : (s : Sh) → s.T → Prop
  | .int .i8, x => -128 ≤ (x : Int) ∧ (x : Int) ≤ 127
  | .int .i16, x => -32768 ≤ (x : Int) ∧ (x : Int) ≤ 32767
  | .int .i32, x => -2147483648 ≤ (x : Int) ∧ (x : Int) ≤ 2147483647
  | .int .i64, x => -9223372036854775808 ≤ (x : Int) ∧ (x : Int) ≤ 9223372036854775807
  | .int _, _ => True
  | .str, x => List.length x ≤ 140737488351232
  | .pair a b, x => a.okT x.1 ∧ b.okT x.2
  | .arr n s, xs => List.length xs = n ∧ ∀ x ∈ (xs : List s.T), s.okT x
  | .sl s, xs => List.length xs * s.bytes ≤ 140737488351232 ∧ List.length xs < 9223372036854775808 ∧ ∀ x ∈ (xs : List s.T), s.okT x
  | _, _ => True

def C0 (w : World) : Ab.Ctx := { w := w, S := fun _ => False, n := 0, r := fun _ => ⟨0, 0, 0, 0⟩ }
def Ready (X : Cx) (w : World) (H1 : Ab.Heap) (ρ : Nat → Ab.Loc) : Prop := Sim (x1 X) (C0 w) ρ H1 w ∧ ∀ (i : Nat) b, H1[i]? = some (some b) → b.own = false
structure Hext (H1 : Ab.Heap) (ρ : Nat → Ab.Loc) (H1' : Ab.Heap) (ρ' : Nat → Ab.Loc) : Prop where
  len : H1.length ≤ H1'.length
  keep : ∀ i : Nat, i < H1.length → H1'[i]? = H1[i]?
  at_ : ∀ i, i < H1.length → ρ' i = ρ i

section
variable {X : Cx} {w : World} {H1 H1' H1'' : Ab.Heap} {ρ ρ' ρ'' : Nat → Ab.Loc}
theorem Hext.refl : Hext H1 ρ H1 ρ := ⟨Nat.le_refl _, fun _ _ => rfl, fun _ _ => rfl⟩
theorem Hext.trans (h : Hext H1 ρ H1' ρ') (k : Hext H1' ρ' H1'' ρ'') : Hext H1 ρ H1'' ρ'' :=
  ⟨Nat.le_trans h.len k.len, fun i hi => by rw [k.keep i (Nat.lt_of_lt_of_le hi h.len), h.keep i hi], fun i hi => by rw [k.at_ i (Nat.lt_of_lt_of_le hi h.len), h.at_ i hi]⟩
theorem Hext.ro (h : Hext H1 ρ H1' ρ') : RoLe H1 H1' := fun i b hb _ => by rw [h.keep i (List.getElem?_eq_some_iff.1 hb).1]; exact hb
theorem Hext.crel (h : Hext H1 ρ H1' ρ') {l l' : List Value} (r : LRel (CRel ρ H1.length) l l') : LRel (CRel ρ' H1'.length) l l' := r.mono fun _ _ r => r.mono h.at_ h.len

/-- a block that is not written, looked at -/
theorem ready_add (hr : Ready X w H1 ρ) {l : List Value} {b o : Nat} {cs : Array Value} {t : TypeId} {fr : Nat × Nat} (hb : w.heap[b]? = some (.cells cs t fr)) (hl : ∀ (j : Nat) v, l[j]? = some v → ∃ v', cs[o + j]? = some v' ∧ CRel ρ H1.length v v') :
    Ready X w (H1 ++ [some { cells := l, own := false, es := 0 }]) (Ab.upd ρ H1.length ⟨b, o, 0, 0⟩) ∧ Hext H1 ρ (H1 ++ [some { cells := l, own := false, es := 0 }]) (Ab.upd ρ H1.length ⟨b, o, 0, 0⟩) := by
  obtain ⟨hs, hro⟩ := hr
  have hat : ∀ (i : Nat) x, (H1 ++ [some { cells := l, own := false, es := 0 }])[i]? = some (some x) → (i < H1.length ∧ H1[i]? = some (some x)) ∨ (i = H1.length ∧ x = { cells := l, own := false, es := 0 }) := by
    intro i x hx
    rw [snoc_at] at hx
    by_cases e : i = H1.length
    · rw [if_pos e] at hx; simp only [Option.some.injEq] at hx; exact .inr ⟨e, hx.symm⟩
    · rw [if_neg e] at hx; exact .inl ⟨(List.getElem?_eq_some_iff.1 hx).1, hx⟩
  have hro' : ∀ (i : Nat) x, (H1 ++ [some { cells := l, own := false, es := 0 }])[i]? = some (some x) → x.own = false := by
    intro i x hx
    rcases hat i x hx with ⟨_, h⟩ | ⟨_, rfl⟩
    · exact hro i x h
    · rfl
  refine ⟨⟨{ blk := fun i x hx => ?_, own := fun i x hx ho => (by rw [hro' i x hx] at ho; cases ho), far := fun i j bi bj hi hj ho _ => (by rw [hro' i bi hi] at ho; cases ho), os := hs.os, tape := hs.tape, output := hs.output, size := hs.size, keep := hs.keep, agree := fun i hi => by simp [C0] at hi, len := by simp [C0], glob := hs.glob }, hro'⟩, ⟨by simp, fun i hi => by rw [snoc_at, if_neg (by omega)], fun i hi => Ab.upd_lt i hi⟩⟩
  rcases hat i x hx with ⟨hi, h⟩ | ⟨rfl, rfl⟩
  · rw [Ab.upd_lt i hi]
    obtain ⟨cs', t', fr', k1, k2, k3⟩ := hs.blk i x h
    refine ⟨cs', t', fr', k1, k2, fun j v hj => ?_⟩
    obtain ⟨v', q1, q2⟩ := k3 j v hj
    exact ⟨v', q1, q2.mono Ab.upd_lt (by simp)⟩
  · rw [Ab.upd_same]
    refine ⟨cs, t, fr, hb, (fun h => by cases h), fun j v hj => ?_⟩
    obtain ⟨v', q1, q2⟩ := hl j v hj
    exact ⟨v', q1, q2.mono Ab.upd_lt (by simp)⟩

theorem ready_nil {X : Cx} (hg : X.glob = noGl) : Ready X w [] (fun _ => ⟨0, 0, 0, 0⟩) := by
  refine ⟨{ blk := fun i b hb => (by simp at hb), own := fun i b hb => (by simp at hb), far := fun i j bi bj hb => (by simp at hb), os := rfl, tape := rfl, output := rfl, size := Nat.le_refl _, keep := fun _ _ _ => rfl, agree := fun _ _ => rfl, len := Nat.le_refl _, glob := fun g l h => ?_ }, fun i b hb => by simp at hb⟩
  have : (gl1 X) g = some l := h
  unfold gl1 at this
  rw [hg] at this
  simp [noGl] at this

theorem cellsOf_sz {P : Program} {s : Sh} {t : TypeId} (h : shChk P s (.inl t) = true) : P.cellsOf t = s.size := by
  obtain ⟨i, h1, h2⟩ := Ab.szOf_some (shChk_sz h)
  unfold Program.cellsOf
  rw [h1]; exact h2
theorem shChk_non {P : Program} {s : Sh} {t : TypeId} (h : shChk P s (.inl t) = true) (hg : s.good = true) : ∀ k, s ≠ .non k := by
  rintro k rfl; simp [Sh.good] at hg
theorem cells?_get {a : Addr} {n : Nat} {c : List Value} (h : w.cells? 0 a n = some c) : c.length = n ∧ ∀ j, j < n → w.cell? (a.add j) = c[j]? := by
  unfold World.cells? at h
  rw [if_pos (Nat.zero_le _)] at h
  have h1 := mapM_some_length h
  refine ⟨by simpa using h1, fun j hj => ?_⟩
  exact mapM_some_get h j j (by simp [hj])

variable {H : Type} {enc : TypeId × Value → H} {held : Bool} {sp : Nat → Bool}

theorem LRel.whole {R : Value → Value → Prop} {l l' : List Value} (h : LRel R l l') : LRel R l l' := h

/-- a row of things of a shape, opened -/
theorem open_row {s : Sh} {seg : Nat → List Value} (one : ∀ (i : Nat) (H1 : Ab.Heap) (ρ : Nat → Ab.Loc), Ready X w H1 ρ → ∃ x c1 H1' ρ', Ready X w H1' ρ' ∧ Hext H1 ρ H1' ρ' ∧ Cells (gl1 X) H1' s x c1 ∧ LRel (CRel ρ' H1'.length) c1 (seg i) ∧ s.okT x) :
    ∀ (k : Nat) (H1 : Ab.Heap) (ρ : Nat → Ab.Loc), Ready X w H1 ρ → ∃ xs c1 H1' ρ', Ready X w H1' ρ' ∧ Hext H1 ρ H1' ρ' ∧ List.length xs = k ∧ AllC (Cells (gl1 X) H1' s) xs c1 ∧ LRel (CRel ρ' H1'.length) c1 ((List.range k).flatMap seg) ∧ ∀ x ∈ xs, s.okT x := by
  intro k
  induction k with
  | zero => intro H1 ρ hr; exact ⟨[], [], H1, ρ, hr, .refl, rfl, rfl, .nil, by simp⟩
  | succ k ih =>
    intro H1 ρ hr
    obtain ⟨xs, c1, H2, ρ2, r1, r2, r3, r4, r5, r6⟩ := ih H1 ρ hr
    obtain ⟨x, c2, H3, ρ3, q1, q2, q3, q4, q5⟩ := one k H2 ρ2 r1
    refine ⟨xs ++ [x], c1 ++ c2, H3, ρ3, q1, r2.trans q2, by simp [r3], (r4.mono fun _ _ h => h.mono q2.ro).append ⟨c2, [], by simp, q3, rfl⟩, ?_, ?_⟩
    · rw [List.range_succ, List.flatMap_append]
      exact (q2.crel r5).append (by simpa using q4)
    · intro y hy
      rcases List.mem_append.1 hy with h | h
      · exact r6 y h
      · simp at h; subst h; exact q5

theorem flat_range {α : Type} {seg : Nat → List α} {n : Nat} (hs : ∀ i, (seg i).length = n) : ∀ (k i j : Nat), i < k → j < n → ((List.range k).flatMap seg)[i * n + j]? = (seg i)[j]? := by
  intro k
  induction k with
  | zero => intro i j hi; omega
  | succ k ih =>
    intro i j hi hj
    have hl : ((List.range k).flatMap seg).length = k * n := by
      clear ih hi
      induction k with
      | zero => simp
      | succ k ih => rw [List.range_succ, List.flatMap_append, List.length_append, ih, Nat.succ_mul]; simp [hs]
    rw [List.range_succ, List.flatMap_append]
    by_cases e : i < k
    · have : i * n + j < k * n := by
        have := Nat.mul_le_mul_right n (show i + 1 ≤ k from e)
        rw [Nat.succ_mul] at this; omega
      rw [List.getElem?_append_left (by omega)]
      exact ih i j e hj
    · have e : i = k := by omega
      subst e
      rw [List.getElem?_append_right (by omega), hl, Nat.add_sub_cancel_left]
      simp
theorem flat_len {α : Type} {seg : Nat → List α} {n : Nat} (hs : ∀ i, (seg i).length = n) (k : Nat) : ((List.range k).flatMap seg).length = k * n := by
  induction k with
  | zero => simp
  | succ k ih => rw [List.range_succ, List.flatMap_append, List.length_append, ih, Nat.succ_mul]; simp [hs]

def fitsW (P : Program) (t : TypeId) (d : DataW H) : Prop := ∀ n ∈ d.weights P t, n ≤ reachBytes
theorem fits_all {P : Program} {e : TypeId} : ∀ {l : List (DataW H)}, (∀ n ∈ DataW.weightsAll P e l, n ≤ reachBytes) → ∀ d ∈ l, fitsW P e d
  | [], _ => by simp
  | d :: l, h => by
    intro d' hd
    unfold DataW.weightsAll at h
    rcases List.mem_cons.1 hd with rfl | hd
    · exact fun n hn => h n (List.mem_append_left _ hn)
    · exact fits_all (fun n hn => h n (List.mem_append_right _ hn)) d' hd
theorem fits_each {P : Program} : ∀ {ts : List TypeId} {l : List (DataW H)}, (∀ n ∈ DataW.weightsEach P ts l, n ≤ reachBytes) → ∀ (i : Nat) t d, ts[i]? = some t → l[i]? = some d → fitsW P t d
  | [], _, _ => by simp
  | _ :: _, [], _ => by simp
  | t :: ts, d :: l, h => by
    intro i t' d' ht hd
    unfold DataW.weightsEach at h
    cases i with
    | zero => simp at ht hd; subst ht; subst hd; exact fun n hn => h n (List.mem_append_left _ hn)
    | succ i => exact fits_each (fun n hn => h n (List.mem_append_right _ hn)) i t' d' (by simpa using ht) (by simpa using hd)

theorem open_sh : ∀ (s : Sh), s.good = true → (∀ (t : TypeId) (fuel : Nat) (cs : List Value) (dp : DataW H × List MemPlace) (H1 : Ab.Heap) (ρ : Nat → Ab.Loc), shChk X.P s (.inl t) = true → DataW.trod enc X.P w 0 sp held fuel t cs = some dp → fitsW X.P t dp.1 → Ready X w H1 ρ →
      ∃ x c1 H1' ρ', Ready X w H1' ρ' ∧ Hext H1 ρ H1' ρ' ∧ Cells (gl1 X) H1' s x c1 ∧ LRel (CRel ρ' H1'.length) c1 cs ∧ s.okT x) ∧
    (∀ (l : List Field) (off : Nat) (fuel : Nat) (cs : List Value) (H1 : Ab.Heap) (ρ : Nat → Ab.Loc), shChk X.P s (.inr (l, off)) = true → (∀ f ∈ l, ∃ y, DataW.trod enc X.P w 0 sp held fuel f.type ((cs.drop f.offset).take (X.P.cellsOf f.type)) = some y ∧ fitsW X.P f.type y.1) → off + s.size ≤ cs.length → Ready X w H1 ρ →
      ∃ x c1 H1' ρ', Ready X w H1' ρ' ∧ Hext H1 ρ H1' ρ' ∧ Cells (gl1 X) H1' s x c1 ∧ LRel (CRel ρ' H1'.length) c1 ((cs.drop off).take s.size) ∧ s.okT x)
  | .int k, _ => by
    refine ⟨fun t fuel cs dp H1 ρ hs hd hw hr => ?_, fun l off fuel cs H1 ρ hs => by simp [shChk] at hs⟩
    obtain ⟨n, rfl, _, hwf⟩ := DataW.trod_int (shChk_int hs) hd
    simp only [Lit.wf, Bool.and_eq_true, decide_eq_true_eq] at hwf
    have key : toI k (ofI k n) = n := by
      cases k <;> simp only [toI, ofI] <;> simp only [IntKind.min, IntKind.max, IntKind.signed, IntKind.bits] at hwf <;> first
        | rfl
        | (rw [ofI_eq]; simp at hwf ⊢; omega)
    refine ⟨ofI k n, [.int k n], H1, ρ, hr, .refl, by show _ = [Value.int k (toI k (ofI k n))]; rw [key], .refl_of (fun v hv => by simp at hv; subst hv; exact rfl), ?_⟩
    cases k <;> simp only [IntKind.min, IntKind.max, IntKind.signed, IntKind.bits] at hwf <;> first
      | trivial
      | (simp only [Sh.okT, ofI]; simp at hwf; exact hwf)
  | .bool, _ => by
    refine ⟨fun t fuel cs dp H1 ρ hs hd hw hr => ?_, fun l off fuel cs H1 ρ hs => by simp [shChk] at hs⟩
    obtain ⟨b, rfl, _⟩ := DataW.trod_bool (shChk_bool hs) hd
    exact ⟨b, [.bool b], H1, ρ, hr, .refl, rfl, .refl_of (fun v hv => by simp at hv; subst hv; exact rfl), trivial⟩
  | .str, _ => by
    refine ⟨fun t fuel cs dp H1 ρ hs hd hw hr => ?_, fun l off fuel cs H1 ρ hs => by simp [shChk] at hs⟩
    obtain ⟨b, rfl, hdp, hl⟩ := DataW.trod_string (shChk_str hs) hd
    have hwl := hw b.data.toList.length (by rw [hdp]; simp [DataW.weights])
    refine ⟨b.data.toList.map fun b => b.toBitVec, [.string b], H1, ρ, hr, .refl, by show _ = [Value.string (strOf _)]; rw [strOf_data], .refl_of (fun v hv => by simp at hv; subst hv; exact rfl), ?_⟩
    show List.length (List.map (fun b : UInt8 => b.toBitVec) b.data.toList) ≤ _
    have h2 : reachBytes = 140737488351232 := rfl
    rw [List.length_map]; omega
  | .non _, hg => by simp [Sh.good] at hg
  | .unit, _ => by
    refine ⟨fun t fuel cs dp H1 ρ hs hd hw hr => ?_, fun l off fuel cs H1 ρ hs _ _ hr => ?_⟩
    · obtain ⟨xs, n, _, _, hl, _⟩ := DataW.trod_struct (shChk_unit hs) hd
      rw [cellsOf_sz hs] at hl
      have : cs = [] := List.length_eq_zero_iff.1 hl
      subst this
      exact ⟨(), [], H1, ρ, hr, .refl, rfl, .nil, trivial⟩
    · exact ⟨(), [], H1, ρ, hr, .refl, rfl, by simp only [Sh.size, List.take_zero]; exact .nil, trivial⟩
  | .pair a b, hg => by
    simp only [Sh.good, Bool.and_eq_true] at hg
    obtain ⟨ia, _⟩ := open_sh a hg.1
    obtain ⟨_, ib⟩ := open_sh b hg.2
    have two : ∀ (l : List Field) (off : Nat) (fuel : Nat) (cs : List Value) (H1 : Ab.Heap) (ρ : Nat → Ab.Loc), shChk X.P (.pair a b) (.inr (l, off)) = true → (∀ f ∈ l, ∃ y, DataW.trod enc X.P w 0 sp held fuel f.type ((cs.drop f.offset).take (X.P.cellsOf f.type)) = some y ∧ fitsW X.P f.type y.1) → off + (Sh.pair a b).size ≤ cs.length → Ready X w H1 ρ →
        ∃ x c1 H1' ρ', Ready X w H1' ρ' ∧ Hext H1 ρ H1' ρ' ∧ Cells (gl1 X) H1' (.pair a b) x c1 ∧ LRel (CRel ρ' H1'.length) c1 ((cs.drop off).take (Sh.pair a b).size) ∧ (Sh.pair a b).okT x := by
      intro l off fuel cs H1 ρ hs hf hl hr
      cases l with
      | nil => simp [shChk] at hs
      | cons f r =>
        simp only [shChk, Bool.and_eq_true] at hs
        have hoff := Nat.eq_of_beq_eq_true hs.1
        obtain ⟨y, hy, hyw⟩ := hf f (by simp)
        obtain ⟨x, c1, H2, ρ2, r1, r2, r3, r4, r5⟩ := ia f.type fuel _ y H1 ρ hs.2.1 hy hyw hr
        simp only [Sh.size] at hl
        obtain ⟨x', c2, H3, ρ3, q1, q2, q3, q4, q5⟩ := ib r (off + a.size) fuel cs H2 ρ2 hs.2.2 (fun g hg => hf g (by simp [hg])) (by omega) r1
        refine ⟨(x, x'), c1 ++ c2, H3, ρ3, q1, r2.trans q2, ⟨c1, c2, rfl, r3.mono q2.ro, q3⟩, ?_, r5, q5⟩
        have e1 : (cs.drop off).take (a.size + b.size) = (cs.drop off).take a.size ++ (cs.drop (off + a.size)).take b.size := by
          rw [← List.drop_drop, List.take_add]
        simp only [Sh.size]
        rw [e1]
        have r4' := q2.crel r4
        rw [hoff, cellsOf_sz hs.2.1] at r4'
        exact r4'.append q4
    refine ⟨fun t fuel cs dp H1 ρ hs hd hw hr => ?_, two⟩
    obtain ⟨fs, hu, hs2⟩ := shChk_pair hs
    obtain ⟨xs, n, rfl, hdp, hl, hlen, hget⟩ := DataW.trod_struct hu hd
    rw [cellsOf_sz hs] at hl
    have hwe : ∀ (i : Nat) t d, (fs.toList.map (·.type))[i]? = some t → (xs.map (·.1))[i]? = some d → fitsW X.P t d := by
      refine fits_each (fun n hn => hw n ?_)
      rw [hdp]
      unfold DataW.weights
      rw [hu]; exact hn
    obtain ⟨x, c1, H2, ρ2, r1, r2, r3, r4, r5⟩ := two fs.toList 0 n cs H1 ρ hs2 (fun f hf => by
      obtain ⟨i, hi, rfl⟩ := List.getElem_of_mem hf
      have hi' : i < fs.size := by simpa using hi
      have := hget i fs[i] (by simp [hi'])
      have hx : i < xs.length := by omega
      rw [List.getElem?_eq_getElem hx] at this
      exact ⟨xs[i], by simpa using this, hwe i _ _ (by simp [hi']) (by simp [hx])⟩) (by omega) hr
    refine ⟨x, c1, H2, ρ2, r1, r2, r3, ?_, r5⟩
    rw [List.drop_zero, List.take_of_length_le (by omega)] at r4
    exact r4
  | .arr n s, hg => by
    simp only [Sh.good] at hg
    obtain ⟨ia, _⟩ := open_sh s hg
    refine ⟨fun t fuel cs dp H1 ρ hs hd hw hr => ?_, fun l off fuel cs H1 ρ hs => by simp [shChk] at hs⟩
    obtain ⟨el, hu, hel⟩ := shChk_arr hs
    obtain ⟨ys, m, rfl, hdp, hl, hlen, hget⟩ := DataW.trod_array hu hd
    rw [cellsOf_sz hs] at hl
    rw [cellsOf_sz hel] at hget
    have hl : cs.length = n * s.size := hl
    have hwa : ∀ d ∈ ys.map (·.1), fitsW X.P el d := by
      refine fits_all (fun n hn => hw n ?_)
      rw [hdp]
      unfold DataW.weights
      rw [hu]; exact hn
    -- the elements beyond the last are none of ours
    have one : ∀ k, k ≤ n → ∀ (H1 : Ab.Heap) (ρ : Nat → Ab.Loc), Ready X w H1 ρ → ∃ xs c1 H1' ρ', Ready X w H1' ρ' ∧ Hext H1 ρ H1' ρ' ∧ List.length xs = k ∧ AllC (Cells (gl1 X) H1' s) xs c1 ∧ LRel (CRel ρ' H1'.length) c1 (cs.take (k * s.size)) ∧ ∀ x ∈ xs, s.okT x := by
      intro k
      induction k with
      | zero => intro _ H1 ρ hr; exact ⟨[], [], H1, ρ, hr, .refl, rfl, rfl, by simp only [Nat.zero_mul, List.take_zero]; exact .nil, by simp⟩
      | succ k ih =>
        intro hk H1 ρ hr
        obtain ⟨xs, c1, H2, ρ2, r1, r2, r3, r4, r5, r6⟩ := ih (by omega) H1 ρ hr
        have hg' := hget k (by omega)
        rw [List.getElem?_eq_getElem (by omega)] at hg'
        obtain ⟨x, c2, H3, ρ3, q1, q2, q3, q4, q5⟩ := ia el m _ _ H2 ρ2 hel hg' (hwa _ (List.mem_map.2 ⟨_, List.getElem_mem _, rfl⟩)) r1
        refine ⟨xs ++ [x], c1 ++ c2, H3, ρ3, q1, r2.trans q2, by simp [r3], (r4.mono fun _ _ h => h.mono q2.ro).append ⟨c2, [], by simp, q3, rfl⟩, ?_, ?_⟩
        · rw [Nat.succ_mul, List.take_add]
          exact (q2.crel r5).append q4
        · intro y hy
          rcases List.mem_append.1 hy with h | h
          · exact r6 y h
          · simp at h; subst h; exact q5
    obtain ⟨xs, c1, H2, ρ2, r1, r2, r3, r4, r5, r6⟩ := one n (Nat.le_refl _) H1 ρ hr
    rw [List.take_of_length_le (by omega)] at r5
    exact ⟨xs, c1, H2, ρ2, r1, r2, ⟨r3, r4⟩, r5, r3, r6⟩
  | .sl s, hg => by
    simp only [Sh.good, Bool.and_eq_true, Nat.blt_eq] at hg
    obtain ⟨ia, _⟩ := open_sh s hg.2
    refine ⟨fun t fuel cs dp H1 ρ hs hd hw hr => ?_, fun l off fuel cs H1 ρ hs => by simp [shChk] at hs⟩
    obtain ⟨el, hu, hel, hby⟩ := shChk_slb hs
    rcases DataW.trod_slice hu hd with ⟨rfl, _⟩ | ⟨a, len, cap, elems, rest, n, rfl, rfl, hdp, _, hlc, hcap, hlen, hget, _, _⟩
    · exact ⟨[], [.slice none 0 0], H1, ρ, hr, .refl, .inl ⟨rfl, rfl⟩, .refl_of (fun v hv => by simp at hv; subst hv; exact ⟨rfl, rfl, rfl⟩), by simp, by simp, by simp⟩
    · rw [cellsOf_sz hel] at hget
      have hmax : maxLen = 2 ^ 63 - 1 := rfl
      have hbo : X.P.bytesOf el = s.bytes := by
        obtain ⟨i, h1, h2⟩ := Ab.bytesOf_some hby
        unfold Program.bytesOf; rw [h1]; exact h2
      have hwa : (elems.length + rest.length) * s.bytes ≤ reachBytes ∧ ∀ d ∈ elems.map (·.1), fitsW X.P el d := by
        have hw' : ∀ n ∈ ((elems.map (·.1)).length + (rest.map (·.1)).length) * X.P.bytesOf el :: (DataW.weightsAll X.P el (elems.map (·.1)) ++ DataW.weightsAll X.P el (rest.map (·.1))), n ≤ reachBytes := by
          intro n hn
          refine hw n ?_
          rw [hdp]
          unfold DataW.weights
          rw [hu]
          exact hn
        refine ⟨?_, fits_all fun n hn => hw' n (List.mem_cons_of_mem _ (List.mem_append_left _ hn))⟩
        have := hw' _ (List.mem_cons_self)
        rw [hbo, List.length_map, List.length_map] at this
        exact this
      have hlw : len * s.bytes ≤ 140737488351232 := by
        have h1 := hwa.1
        have h2 : reachBytes = 140737488351232 := rfl
        rw [Nat.add_mul, hlen] at h1; omega
      by_cases h0 : len = 0
      · subst h0
        refine ⟨[], [.slice (some ⟨0, 1, some 0⟩) 0 capU], H1, ρ, hr, .refl, .inr ⟨_, capU, rfl, .inl rfl, .inl rfl⟩, .cons ⟨by simp, a, cap, rfl, ?_⟩ .nil, by simp, by simp, by simp⟩
        simp only [Ab.capRel, if_true]
        exact ⟨.inr ⟨trivial, by simp⟩, Nat.zero_le _, by omega, by simp⟩
      · -- where the first element lies
        have hsz := hg.1
        have h1 := hget 0 (by omega)
        rw [List.getElem?_eq_getElem (by omega)] at h1
        obtain ⟨c0, hc0, _⟩ := Option.bind_eq_some_iff.1 h1
        have e0 : a.add (0 * s.size) = a := by simp [Addr.add]
        rw [e0] at hc0
        obtain ⟨hl0, hc0⟩ := cells?_get hc0
        have hcell := hc0 0 hsz
        have hspot : a.spot = none ∧ ∃ wc t fr, w.heap[a.block]? = some (.cells wc t fr) := by
          have e1 : a.add 0 = a := by simp [Addr.add]
          rw [e1] at hcell
          unfold World.cell? at hcell
          split at hcell
          · rename_i wc t fr hb
            refine ⟨?_, wc, t, fr, hb⟩
            cases hs : a.spot with
            | none => rfl
            | some _ =>
              rw [hs, List.getElem?_eq_getElem (by omega)] at hcell
              simp at hcell
          · rw [List.getElem?_eq_getElem (by omega)] at hcell
            cases hcell
        obtain ⟨hsp, wc, t', fr, hb⟩ := hspot
        have hadd : ∀ m, w.cell? (a.add m) = wc[a.off + m]? := by
          intro m
          unfold World.cell? Addr.add
          by_cases hm : m = 0
          · subst hm; simp [hb, hsp]
          · simp [hm, hb]
        have hadd2 : ∀ m k, w.cell? ((a.add m).add k) = wc[a.off + (m + k)]? := by
          intro m k
          have : (a.add m).add k = a.add (m + k) := by
            unfold Addr.add
            by_cases hm : m = 0 <;> by_cases hk : k = 0 <;> simp [hm, hk, Nat.add_assoc]
          rw [this, hadd]
        have one : ∀ k, k ≤ len → ∀ (H1 : Ab.Heap) (ρ : Nat → Ab.Loc), Ready X w H1 ρ → ∃ xs c1 H1' ρ', Ready X w H1' ρ' ∧ Hext H1 ρ H1' ρ' ∧ List.length xs = k ∧ AllC (Cells (gl1 X) H1' s) xs c1 ∧ (∀ (j : Nat) v, c1[j]? = some v → ∃ v', wc[a.off + j]? = some v' ∧ CRel ρ' H1'.length v v') ∧ ∀ x ∈ xs, s.okT x := by
          intro k
          induction k with
          | zero => intro _ H1 ρ hr; exact ⟨[], [], H1, ρ, hr, .refl, rfl, rfl, by simp, by simp⟩
          | succ k ih =>
            intro hk H1 ρ hr
            obtain ⟨xs, c1, H2, ρ2, r1, r2, r3, r4, r5, r6⟩ := ih (by omega) H1 ρ hr
            have hg' := hget k (by omega)
            rw [List.getElem?_eq_getElem (by omega)] at hg'
            obtain ⟨ck, hck, hd'⟩ := Option.bind_eq_some_iff.1 hg'
            obtain ⟨hlk, hck⟩ := cells?_get hck
            obtain ⟨x, c2, H3, ρ3, q1, q2, q3, q4, q5⟩ := ia el n _ _ H2 ρ2 hel hd' (hwa.2 _ (List.mem_map.2 ⟨_, List.getElem_mem _, rfl⟩)) r1
            have hlc1 := r4.length fun _ _ h => Cells.length h
            refine ⟨xs ++ [x], c1 ++ c2, H3, ρ3, q1, r2.trans q2, by simp [r3], (r4.mono fun _ _ h => h.mono q2.ro).append ⟨c2, [], by simp, q3, rfl⟩, ?_, ?_⟩
            · intro j v hj
              by_cases hjl : j < c1.length
              · rw [List.getElem?_append_left hjl] at hj
                obtain ⟨v', k1, k2⟩ := r5 j v hj
                exact ⟨v', k1, k2.mono q2.at_ q2.len⟩
              · rw [List.getElem?_append_right (by omega)] at hj
                obtain ⟨v', k1, k2⟩ := q4.2 _ v hj
                refine ⟨v', ?_, k2⟩
                have hjs : j - c1.length < s.size := by
                  have := (List.getElem?_eq_some_iff.1 hj).1
                  have := q3.length; omega
                have := hck (j - c1.length) hjs
                rw [hadd2, k1] at this
                rw [← this, hlc1, r3]
                congr 1
                rw [hlc1, r3] at hjl
                omega
            · intro y hy
              rcases List.mem_append.1 hy with h | h
              · exact r6 y h
              · simp at h; subst h; exact q5
        obtain ⟨xs, c1, H2, ρ2, r1, r2, r3, r4, r5, r6⟩ := one len (Nat.le_refl _) H1 ρ hr
        obtain ⟨z1, z2⟩ := ready_add r1 hb r5
        refine ⟨xs, [.slice (some ⟨H2.length, 0, none⟩) len cap], _, _, z1, r2.trans z2, .inr ⟨⟨H2.length, 0, none⟩, cap, by rw [r3], .inr ⟨by rw [r3]; exact hlc, by simp only [capU]; omega⟩, .inr ⟨c1, ?_, r4.mono fun _ _ h => h.mono z2.ro⟩⟩, .cons ⟨by simp, a, cap, rfl, ?_⟩ .nil, by rw [r3]; exact hlw, by rw [r3]; omega, r6⟩
        · refine ⟨c1, ?_, by simp, by simp⟩
          unfold cellsRO
          simp only
          rw [snoc_at, if_pos rfl]
          rfl
        · unfold Ab.capRel
          rw [if_neg (by simp only [capU]; omega)]
          refine ⟨?_, rfl, by simp only [capU]; omega⟩
          unfold locA
          simp only [Ab.upd_same]
          cases a with
          | mk blk off spot => simp only at hsp; subst hsp; rfl
end
end Go.Ty
