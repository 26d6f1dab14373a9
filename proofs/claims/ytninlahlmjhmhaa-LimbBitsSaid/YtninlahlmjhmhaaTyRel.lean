import Derived.Test.YtninlahlmjhmhaaTyRun
import Derived.Test.YtninlahlmjhmhaaAbRel
namespace Go.Ty
open Go.Ab (vcells plainC capU)

/-! ## Rows of things, each of so many cells -/
def AllC {α : Type} (R : α → List Value → Prop) : List α → List Value → Prop
  | [], cs => cs = []
  | x :: xs, cs => ∃ c d, cs = c ++ d ∧ R x c ∧ AllC R xs d

section
variable {α : Type} {R S : α → List Value → Prop} {n : Nat}

theorem AllC.mono (hRS : ∀ x c, R x c → S x c) : ∀ {xs : List α} {cs : List Value}, AllC R xs cs → AllC S xs cs
  | [], _, h => h
  | _ :: _, _, ⟨c, d, e, h1, h2⟩ => ⟨c, d, e, hRS _ _ h1, mono hRS h2⟩
theorem AllC.length (hn : ∀ x c, R x c → c.length = n) : ∀ {xs : List α} {cs : List Value}, AllC R xs cs → cs.length = xs.length * n
  | [], _, h => by subst h; simp
  | x :: xs, _, ⟨c, d, e, h1, h2⟩ => by
    subst e
    rw [List.length_append, hn _ _ h1, length hn h2, List.length_cons, Nat.succ_mul, Nat.add_comm]
theorem AllC.append : ∀ {xs ys : List α} {a b : List Value}, AllC R xs a → AllC R ys b → AllC R (xs ++ ys) (a ++ b)
  | [], _, _, _, h, k => by subst h; simpa using k
  | _ :: _, _, _, _, ⟨c, d, e, h1, h2⟩, k => ⟨c, d ++ _, by rw [e, List.append_assoc], h1, append h2 k⟩
theorem AllC.drop (hn : ∀ x c, R x c → c.length = n) : ∀ {xs : List α} {cs : List Value} (k : Nat), AllC R xs cs → AllC R (xs.drop k) (cs.drop (k * n))
  | xs, cs, 0, h => by simpa using h
  | [], _, k + 1, h => by subst h; simp [AllC]
  | x :: xs, _, k + 1, ⟨c, d, e, h1, h2⟩ => by
    subst e
    have hc := hn _ _ h1
    have := drop hn k h2
    rw [List.drop_succ_cons, show (k + 1) * n = c.length + k * n by rw [Nat.succ_mul, hc, Nat.add_comm], List.drop_append, List.drop_eq_nil_of_le (Nat.le_add_right _ _), Nat.add_sub_cancel_left, List.nil_append]
    exact this
theorem AllC.take (hn : ∀ x c, R x c → c.length = n) : ∀ {xs : List α} {cs : List Value} (k : Nat), AllC R xs cs → AllC R (xs.take k) (cs.take (k * n))
  | xs, cs, 0, h => by simp [AllC]
  | [], _, k + 1, h => by subst h; simp [AllC]
  | x :: xs, _, k + 1, ⟨c, d, e, h1, h2⟩ => by
    subst e
    have hc := hn _ _ h1
    refine ⟨c, d.take (k * n), ?_, h1, take hn k h2⟩
    rw [show (k + 1) * n = c.length + k * n by rw [Nat.succ_mul, hc, Nat.add_comm], List.take_append, List.take_of_length_le (by omega)]
    simp
theorem AllC.nth (hn : ∀ x c, R x c → c.length = n) {xs : List α} {cs : List Value} {k : Nat} {x : α} (h : AllC R xs cs) (hx : xs[k]? = some x) : R x ((cs.drop (k * n)).take n) ∧ k * n + n ≤ cs.length := by
  have hk : k < xs.length := (List.getElem?_eq_some_iff.1 hx).1
  have h1 := h.drop hn k
  have hd : xs.drop k = x :: xs.drop (k + 1) := by
    rw [List.drop_eq_getElem_cons hk]
    rw [List.getElem?_eq_getElem hk] at hx
    injection hx with hx; rw [hx]
  rw [hd] at h1
  obtain ⟨c, d, e, g1, _⟩ := h1
  have hc := hn _ _ g1
  have hl := h.length hn
  refine ⟨?_, ?_⟩
  · rw [e, List.take_append_of_le_length (by omega), List.take_of_length_le (by omega)]; exact g1
  · have : k + 1 ≤ xs.length := hk
    have := Nat.mul_le_mul_right n this
    rw [hl]; rw [Nat.succ_mul] at this; omega
theorem AllC.set (hn : ∀ x c, R x c → c.length = n) : ∀ {xs : List α} {cs : List Value} {k : Nat} {y : α} {c' : List Value}, AllC R xs cs → R y c' → k < xs.length → AllC R (xs.set k y) (cs.take (k * n) ++ c' ++ cs.drop (k * n + n))
  | x :: xs, _, 0, y, c', ⟨c, d, e, h1, h2⟩, hy, _ => by
    subst e
    have hc := hn _ _ h1
    refine ⟨c', d, ?_, hy, h2⟩
    simp [hc]
  | x :: xs, _, k + 1, y, c', ⟨c, d, e, h1, h2⟩, hy, hk => by
    subst e
    have hc := hn _ _ h1
    have ih := set (k := k) hn h2 hy (by simpa using hk)
    refine ⟨c, _, ?_, h1, ih⟩
    have e1 : (k + 1) * n = c.length + k * n := by rw [Nat.succ_mul, hc, Nat.add_comm]
    rw [e1, List.take_append, List.take_of_length_le (show c.length ≤ c.length + k * n by omega), Nat.add_assoc, List.drop_append, List.drop_eq_nil_of_le (show c.length ≤ c.length + (k * n + n) by omega)]
    simp [List.append_assoc]
  | [], _, _, _, _, _, _, hk => by simp at hk
theorem AllC.replicate {x : α} {c : List Value} (h : R x c) : ∀ m, AllC R (List.replicate m x) (Go.Ab.zerosN c m)
  | 0 => rfl
  | m + 1 => ⟨c, Go.Ab.zerosN c m, rfl, h, replicate h m⟩
theorem AllC.split : ∀ {xs ys : List α} {cs : List Value}, AllC R (xs ++ ys) cs → ∃ a b, cs = a ++ b ∧ AllC R xs a ∧ AllC R ys b
  | [], _, cs, h => ⟨[], cs, rfl, rfl, h⟩
  | _ :: _, _, _, ⟨c, d, e, h1, h2⟩ => by
    obtain ⟨a, b, e2, g1, g2⟩ := split h2
    exact ⟨c ++ a, b, by rw [e, e2, List.append_assoc], ⟨c, a, rfl, h1, g1⟩, g2⟩
theorem AllC.over (hn : ∀ x c, R x c → c.length = n) {xs ys : List α} {cs ds : List Value} {off : Nat} (h : AllC R xs cs) (k : AllC R ys ds) : AllC R (over xs off ys) (cs.take (off * n) ++ ds ++ cs.drop (off * n + ds.length)) := by
  unfold Go.Ty.over
  have hd := k.length hn
  have := ((h.take hn off).append k).append (h.drop hn (off + ys.length))
  rw [Nat.add_mul, ← hd] at this
  exact this
theorem AllC.all {P : Value → Prop} (hR : ∀ x c, R x c → ∀ v ∈ c, P v) : ∀ {xs : List α} {cs : List Value}, AllC R xs cs → ∀ v ∈ cs, P v
  | [], _, h => by subst h; simp
  | _ :: _, _, ⟨c, d, e, h1, h2⟩ => by
    subst e
    intro v hv
    rcases List.mem_append.1 hv with h | h
    · exact hR _ _ h1 v h
    · exact all hR h2 v h
end

/-! ## What stands for what -/
def strOf (x : List (BitVec 8)) : ByteArray := ⟨(x.map UInt8.ofBitVec).toArray⟩
def nonV : NilK → Value
  | .ptr => .pointer none
  | .func => .nilFunc
  | .map => .map none
  | .iface => .nilIface

def cellsOf : (s : Sh) → s.T → List Value
  | .int k, x => [.int k (toI k x)]
  | .bool, x => [.bool x]
  | .str, x => [.string (strOf x)]
  | .non k, _ => [nonV k]
  | .unit, _ => []
  | .pair a b, x => cellsOf a x.1 ++ cellsOf b x.2
  | .arr _ s, xs => (List.map (cellsOf s) xs).flatten
  | .sl _, _ => [.slice none 0 0]

def gl1 (X : Cx) : Nat → Option (List Value) := fun g => (X.glob g).map fun ⟨s, x⟩ => cellsOf s x
/-- the machine below -/
def x1 (X : Cx) : Ab.Cx := { P := X.P, orc := fun _ _ => none, pf := fun _ => false, glob := gl1 X }

def cellsRO (G : Nat → Option (List Value)) (H1 : Ab.Heap) (a : Addr) : Option (List Value) :=
  match a.spot with
  | none => match H1[a.block]? with
    | some (some b) => if b.own = true then none else some b.cells
    | _ => none
  | some _ => G a.block
/-- at an address there stand these cells, for ever -/
def Row (G : Nat → Option (List Value)) (H1 : Ab.Heap) (a : Addr) (cs : List Value) : Prop :=
  ∃ B, cellsRO G H1 a = some B ∧ a.off + cs.length ≤ B.length ∧ (B.drop a.off).take cs.length = cs

def RoLe (H H' : Ab.Heap) : Prop := ∀ (i : Nat) b, H[i]? = some (some b) → b.own = false → H'[i]? = some (some b)

def okCap (l c : Nat) : Prop := c = capU ∨ (l ≤ c ∧ c < capU)

def Cells (G : Nat → Option (List Value)) (H1 : Ab.Heap) : (s : Sh) → s.T → List Value → Prop
  | .int k, x, cs => cs = [.int k (toI k x)]
  | .bool, x, cs => cs = [.bool x]
  | .str, x, cs => cs = [.string (strOf x)]
  | .non k, _, cs => cs = [nonV k]
  | .unit, _, cs => cs = []
  | .pair a b, x, cs => ∃ c d, cs = c ++ d ∧ Cells G H1 a x.1 c ∧ Cells G H1 b x.2 d
  | .arr n s, xs, cs => List.length xs = n ∧ AllC (Cells G H1 s) xs cs
  | .sl s, xs, cs => (cs = [.slice none 0 0] ∧ xs = ([] : List s.T)) ∨
      ∃ a c, cs = [.slice (some a) (List.length xs) c] ∧ okCap (List.length xs) c ∧ (xs = ([] : List s.T) ∨ ∃ ds, Row G H1 a ds ∧ AllC (Cells G H1 s) xs ds)

/-- the machine below: its heap; where each block lies; how long each row is -/
structure Lk where
  H1 : Ab.Heap
  mu : Nat → Option Nat
  ln : Nat → Nat

/-- a path that stays within -/
def inP : Sh → Path → Prop
  | _, [] => True
  | .pair a _, .l :: p => inP a p
  | .pair _ b, .r :: p => inP b p
  | .arr n s, .i k :: p => k < n ∧ inP s p
  | _, _ :: _ => False
def inL (ln : Nat) : Lay → Path → Prop
  | .one s, p => inP s p
  | .row s, .i k :: p => k < ln ∧ inP s p
  | .row _, _ => False
def refIn (ln : Nat) (r : Lay) (p : Path) (e : Sh) (off len : Nat) (cap : Option Nat) : Prop :=
  (∃ n c, subL r p = some (.arr n e) ∧ inL ln r p ∧ cap = some c ∧ len ≤ c ∧ off + c ≤ n) ∨
  (p = [] ∧ r = .row e ∧ off + len ≤ ln ∧ ∀ c, cap = some c → len ≤ c ∧ off + c ≤ ln)

def capIs (ln off len : Nat) : Option Nat → Nat → Prop
  | none, c => c = capU ∨ (c < capU ∧ len ≤ c ∧ off + c ≤ ln)
  | some k, c => c = k ∧ k < capU
/-- a single cell that is no plain data -/
def C1 (G : Nat → Option (List Value)) (M : Lk) : Cel → Value → Prop
  | .ptr b r p, v => ∃ i, M.mu b = some i ∧ inL (M.ln b) r p ∧ v = .pointer (some ⟨i, offL r p, none⟩)
  | .fptr s x, v => ∃ a ds, v = .pointer (some a) ∧ Row G M.H1 a ds ∧ Cells G M.H1 s x ds
  | .ref b r p e off len cap, v => ∃ i c o, M.mu b = some i ∧ refIn (M.ln b) r p e off len cap ∧ v = .slice (some ⟨i, o, none⟩) len c ∧ o ≤ offL r p + off * e.size ∧ (o = offL r p + off * e.size ∨ c = 0) ∧ capIs (M.ln b) off len cap c
  | .nilS, v => v = .slice none 0 0
  | .fn f, v => v = .func (.func f) #[] #[]

def CellsA (G : Nat → Option (List Value)) (M : Lk) : AV → Sh → List Value → Prop
  | .val t x => fun s cs => t = s ∧ Cells G M.H1 t x cs
  | .two a b => fun s cs => ∃ s1 s2, s = .pair s1 s2 ∧ ∃ c d, cs = c ++ d ∧ CellsA G M a s1 c ∧ CellsA G M b s2 d
  | .cell q => fun s cs => s.isAgg = false ∧ ∃ v, cs = [v] ∧ C1 G M q v

def mkV (agg : Bool) (cs : List Value) : Value := bif agg then .agg ⟨cs⟩ else cs.headD (.tuple #[])
def VR (G : Nat → Option (List Value)) (M : Lk) (v : AV) (u : Value) : Prop := ∃ s cs, CellsA G M v s cs ∧ u = mkV s.isAgg cs
def SVR (G : Nat → Option (List Value)) (M : Lk) : SV → Value → Prop
  | .av v, u => VR G M v u
  | .tup l, u => ∃ us, u = .tuple us ∧ l.length = us.toList.length ∧ ∀ (j : Nat) v, l[j]? = some v → ∃ u', us.toList[j]? = some u' ∧ VR G M v u'

def ContR (G : Nat → Option (List Value)) (M : Lk) : Cont → Ab.Blk → Prop
  | .one s v, B => CellsA G M v s B.cells
  | .row s xs, B => AllC (Cells G M.H1 s) xs B.cells ∧ B.es = s.size ∧ 0 < s.size

structure HR (G : Nat → Option (List Value)) (M : Lk) (H : Heap) : Prop where
  live : ∀ k x, H k = .live x → ∃ i B, M.mu k = some i ∧ M.H1[i]? = some (some B) ∧ B.own = x.own ∧ ContR G M x.c B ∧ ∀ s xs, x.c = .row s xs → xs.length = M.ln k
  inj : ∀ k k' x x' i, H k = .live x → H k' = .live x' → x.own = true → M.mu k = some i → M.mu k' = some i → k = k'
  fresh : ∀ k, H k = .fresh → M.mu k = none
  lt : ∀ k i, M.mu k = some i → i < M.H1.length

/-- a block below that this heap does not own -/
def Foreign (M : Lk) (H : Heap) (i : Nat) : Prop := ∀ k x, H k = .live x → x.own = true → M.mu k ≠ some i

structure Ext (M : Lk) (H : Heap) (M' : Lk) (H' : Heap) : Prop where
  len : M.H1.length ≤ M'.H1.length
  mu : ∀ k i, M.mu k = some i → M'.mu k = some i ∧ M'.ln k = M.ln k
  keep : ∀ (i : Nat) b, M.H1[i]? = some (some b) → Foreign M H i → M'.H1[i]? = some (some b) ∧ Foreign M' H' i
  ro : RoLe M.H1 M'.H1

theorem Ext.refl {M : Lk} {H : Heap} : Ext M H M H := ⟨Nat.le_refl _, fun _ _ h => ⟨h, rfl⟩, fun _ _ h k => ⟨h, k⟩, fun _ _ h _ => h⟩
theorem Ext.trans {M M' M'' : Lk} {H H' H'' : Heap} (h : Ext M H M' H') (k : Ext M' H' M'' H'') : Ext M H M'' H'' :=
  ⟨Nat.le_trans h.len k.len, fun a i e => ⟨(k.mu a i (h.mu a i e).1).1, by rw [(k.mu a i (h.mu a i e).1).2, (h.mu a i e).2]⟩, fun i b e f => by
    obtain ⟨e1, f1⟩ := h.keep i b e f
    exact k.keep i b e1 f1, fun i b e o => k.ro i b (h.ro i b e o) o⟩

/-- the same, of a part of what is told: what stands below 'bot' alone keeps its place (that is what a caller told of) -/
def bot : Nat := 1000
structure ExtW (M : Lk) (H : Heap) (M' : Lk) (H' : Heap) : Prop where
  len : M.H1.length ≤ M'.H1.length
  mu : ∀ k i, k < bot → M.mu k = some i → M'.mu k = some i ∧ M'.ln k = M.ln k
  keep : ∀ (i : Nat) b, M.H1[i]? = some (some b) → Foreign M H i → M'.H1[i]? = some (some b) ∧ Foreign M' H' i
  ro : RoLe M.H1 M'.H1
theorem Ext.w {M : Lk} {H : Heap} {M' : Lk} {H' : Heap} (h : Ext M H M' H') : ExtW M H M' H' := ⟨h.len, fun k i _ e => h.mu k i e, h.keep, h.ro⟩
theorem ExtW.refl {M : Lk} {H : Heap} : ExtW M H M H := Ext.refl.w
theorem ExtW.trans {M M' M'' : Lk} {H H' H'' : Heap} (h : ExtW M H M' H') (k : ExtW M' H' M'' H'') : ExtW M H M'' H'' :=
  ⟨Nat.le_trans h.len k.len, fun a i hb e => ⟨(k.mu a i hb (h.mu a i hb e).1).1, by rw [(k.mu a i hb (h.mu a i hb e).1).2, (h.mu a i hb e).2]⟩, fun i b e f => by
    obtain ⟨e1, f1⟩ := h.keep i b e f
    exact k.keep i b e1 f1, fun i b e o => k.ro i b (h.ro i b e o) o⟩

/-! monotone -/
section
variable {G : Nat → Option (List Value)} {H1 H1' : Ab.Heap} {M M' : Lk}
theorem Row.mono {a : Addr} {cs : List Value} (h : Row G H1 a cs) (hr : RoLe H1 H1') : Row G H1' a cs := by
  obtain ⟨B, h1, h2, h3⟩ := h
  refine ⟨B, ?_, h2, h3⟩
  unfold cellsRO at h1 ⊢
  cases hs : a.spot with
  | some _ => simpa [hs] using h1
  | none =>
    simp only [hs] at h1 ⊢
    cases hb : H1[a.block]? with
    | none => simp [hb] at h1
    | some o =>
      cases o with
      | none => simp [hb] at h1
      | some b =>
        simp only [hb] at h1
        by_cases ho : b.own = true
        · simp [ho] at h1
        · rw [hr _ b hb (by simpa using ho)]
          simpa [ho] using h1
theorem Cells.mono (hr : RoLe H1 H1') : ∀ {s : Sh} {x : s.T} {cs : List Value}, Cells G H1 s x cs → Cells G H1' s x cs
  | .int _, _, _, h => h
  | .bool, _, _, h => h
  | .str, _, _, h => h
  | .non _, _, _, h => h
  | .unit, _, _, h => h
  | .pair _ _, _, _, ⟨c, d, e, h1, h2⟩ => ⟨c, d, e, mono hr h1, mono hr h2⟩
  | .arr _ s, _, _, ⟨h1, h2⟩ => ⟨h1, h2.mono fun _ _ h => mono (s := s) hr h⟩
  | .sl s, _, _, h => by
    rcases h with h | ⟨a, c, e, h1, h2⟩
    · exact .inl h
    · refine .inr ⟨a, c, e, h1, h2.imp id ?_⟩
      rintro ⟨ds, g1, g2⟩
      exact ⟨ds, g1.mono hr, g2.mono fun _ _ h => mono (s := s) hr h⟩
theorem C1.mono (hr : RoLe M.H1 M'.H1) (hm : ∀ k i, M.mu k = some i → M'.mu k = some i ∧ M'.ln k = M.ln k) {v : Cel} {u : Value} (h : C1 G M v u) : C1 G M' v u := by
  cases v with
  | ptr b r p => obtain ⟨i, h1, h0, h2⟩ := h; exact ⟨i, (hm _ _ h1).1, by rw [(hm _ _ h1).2]; exact h0, h2⟩
  | fptr s x => obtain ⟨a, ds, h1, h2, h3⟩ := h; exact ⟨a, ds, h1, h2.mono hr, h3.mono hr⟩
  | ref b r p e o l c => obtain ⟨i, c, q, h1, h0, h2⟩ := h; exact ⟨i, c, q, (hm _ _ h1).1, by rw [(hm _ _ h1).2]; exact h0, by rw [(hm _ _ h1).2]; exact h2⟩
  | _ => exact h
theorem CellsA.mono (hr : RoLe M.H1 M'.H1) (hm : ∀ k i, M.mu k = some i → M'.mu k = some i ∧ M'.ln k = M.ln k) : ∀ {v : AV} {s : Sh} {cs : List Value}, CellsA G M v s cs → CellsA G M' v s cs
  | .val _ _, _, _, h => ⟨h.1, h.2.mono hr⟩
  | .two _ _, _, _, ⟨s1, s2, e0, c, d, e, h1, h2⟩ => ⟨s1, s2, e0, c, d, e, mono hr hm h1, mono hr hm h2⟩
  | .cell _, _, _, ⟨h1, v, e, h2⟩ => ⟨h1, v, e, h2.mono hr hm⟩
theorem VR.mono (hr : RoLe M.H1 M'.H1) (hm : ∀ k i, M.mu k = some i → M'.mu k = some i ∧ M'.ln k = M.ln k) {v : AV} {u : Value} (h : VR G M v u) : VR G M' v u := by
  obtain ⟨s, cs, h1, h2⟩ := h; exact ⟨s, cs, h1.mono hr hm, h2⟩
theorem SVR.mono (hr : RoLe M.H1 M'.H1) (hm : ∀ k i, M.mu k = some i → M'.mu k = some i ∧ M'.ln k = M.ln k) {v : SV} {u : Value} (h : SVR G M v u) : SVR G M' v u := by
  cases v with
  | av v => exact VR.mono hr hm h
  | tup l =>
    obtain ⟨us, e, h1, h2⟩ := h
    refine ⟨us, e, h1, fun j v hv => ?_⟩
    obtain ⟨u', g1, g2⟩ := h2 j v hv
    exact ⟨u', g1, g2.mono hr hm⟩
theorem SVR.ext {H H' : Heap} (hx : Ext M H M' H') {v : SV} {u : Value} (h : SVR G M v u) : SVR G M' v u := h.mono hx.ro hx.mu
theorem ContR.mono (hr : RoLe M.H1 M'.H1) (hm : ∀ k i, M.mu k = some i → M'.mu k = some i ∧ M'.ln k = M.ln k) {c : Cont} {B : Ab.Blk} (h : ContR G M c B) : ContR G M' c B := by
  cases c with
  | one s v => exact CellsA.mono hr hm h
  | row s xs => exact ⟨h.1.mono fun _ _ h => h.mono hr, h.2⟩

/-! lengths; cells are cells -/
theorem Cells.length : ∀ {s : Sh} {x : s.T} {cs : List Value}, Cells G H1 s x cs → cs.length = s.size
  | .int _, _, _, h | .bool, _, _, h | .str, _, _, h | .non _, _, _, h | .unit, _, _, h => by subst h; rfl
  | .pair _ _, _, _, ⟨c, d, e, h1, h2⟩ => by subst e; rw [List.length_append, length h1, length h2]; rfl
  | .arr n s, _, _, ⟨h1, h2⟩ => by rw [h2.length (fun _ _ h => length h), h1]; rfl
  | .sl _, _, _, h => by
    rcases h with ⟨h, _⟩ | ⟨a, c, h, _⟩ <;> · subst h; rfl
theorem size_one {s : Sh} (h : s.isAgg = false) : s.size = 1 := by cases s <;> first | rfl | simp [Sh.isAgg] at h
theorem CellsA.length : ∀ {v : AV} {s : Sh} {cs : List Value}, CellsA G M v s cs → cs.length = s.size
  | .val _ _, _, _, h => by rw [← h.1]; exact h.2.length
  | .two _ _, _, _, ⟨s1, s2, e0, c, d, e, h1, h2⟩ => by subst e0; subst e; rw [List.length_append, length h1, length h2]; rfl
  | .cell _, s, _, ⟨h1, v, e, h2⟩ => by subst e; rw [size_one h1]; rfl
def cellB : Value → Bool
  | .agg _ | .tuple _ => false
  | _ => true
theorem Cells.cells : ∀ {s : Sh} {x : s.T} {cs : List Value}, Cells G H1 s x cs → ∀ v ∈ cs, cellB v = true
  | .int _, _, _, h | .bool, _, _, h | .str, _, _, h | .unit, _, _, h => by subst h; simp [cellB]
  | .non k, _, _, h => by subst h; cases k <;> simp [cellB, nonV]
  | .pair _ _, _, _, ⟨c, d, e, h1, h2⟩ => by
    subst e; intro v hv
    rcases List.mem_append.1 hv with h | h
    · exact cells h1 v h
    · exact cells h2 v h
  | .arr n s, _, _, ⟨_, h2⟩ => h2.all fun _ _ h => cells h
  | .sl _, _, _, h => by
    rcases h with ⟨h, _⟩ | ⟨a, c, h, _⟩ <;> · subst h; simp [cellB]
theorem C1.cell {v : Cel} {u : Value} (h : C1 G M v u) : cellB u = true := by
  cases v with
  | ptr b r p => obtain ⟨i, _, _, rfl⟩ := h; rfl
  | fptr s x => obtain ⟨a, ds, rfl, _⟩ := h; rfl
  | ref b r p e o l c => obtain ⟨i, c, q, _, _, rfl, _⟩ := h; rfl
  | nilS => have h : u = .slice none 0 0 := h; subst h; rfl
  | fn f => have h : u = .func (.func f) #[] #[] := h; subst h; rfl
theorem CellsA.cells : ∀ {v : AV} {s : Sh} {cs : List Value}, CellsA G M v s cs → ∀ u ∈ cs, cellB u = true
  | .val _ _, _, _, h => h.2.cells
  | .two _ _, _, _, ⟨s1, s2, e0, c, d, e, h1, h2⟩ => by
    subst e; intro v hv
    rcases List.mem_append.1 hv with h | h
    · exact cells h1 v h
    · exact cells h2 v h
  | .cell _, s, _, ⟨h1, v, e, h2⟩ => by subst e; simpa using h2.cell

theorem vcells_mk {agg : Bool} {cs : List Value} (h : agg = true ∨ ∃ v, cs = [v] ∧ cellB v = true) : vcells (mkV agg cs) = cs := by
  cases agg with
  | true => rfl
  | false =>
    rcases h with h | ⟨v, rfl, h⟩
    · cases h
    · cases v <;> first | rfl | simp [cellB] at h
theorem CellsA.mk {v : AV} {s : Sh} {cs : List Value} (h : CellsA G M v s cs) : s.isAgg = true ∨ ∃ v, cs = [v] ∧ cellB v = true := by
  cases hs : s.isAgg with
  | true => exact .inl rfl
  | false =>
    have hl := h.length
    rw [size_one hs] at hl
    match cs, hl, h.cells with
    | [u], _, hc => exact .inr ⟨u, rfl, hc u (by simp)⟩
theorem CellsA.vcells {v : AV} {s : Sh} {cs : List Value} (h : CellsA G M v s cs) : vcells (mkV s.isAgg cs) = cs := vcells_mk h.mk
theorem VR.of {v : AV} {s : Sh} {cs : List Value} (h : CellsA G M v s cs) : VR G M v (mkV s.isAgg cs) := ⟨s, cs, h, rfl⟩
theorem VR.val {s : Sh} {x : s.T} {u : Value} (h : VR G M (.val s x) u) : ∃ cs, Cells G M.H1 s x cs ∧ u = mkV s.isAgg cs := by
  obtain ⟨t, cs, ⟨h1, h2⟩, h3⟩ := h
  subst h1
  exact ⟨cs, h2, h3⟩
theorem VR.cell {q : Cel} {u : Value} (h : VR G M (.cell q) u) : C1 G M q u := by
  obtain ⟨t, cs, ⟨h1, v, e, h2⟩, h3⟩ := h
  subst e
  rw [h1] at h3
  have h3 : u = v := h3
  rw [h3]; exact h2
theorem VR.mkcell {q : Cel} {u : Value} (h : C1 G M q u) : VR G M (.cell q) u := ⟨.bool, [u], ⟨rfl, u, rfl, h⟩, rfl⟩
theorem VR.mkval {s : Sh} {x : s.T} {cs : List Value} (h : Cells G M.H1 s x cs) : VR G M (.val s x) (mkV s.isAgg cs) := ⟨s, cs, ⟨rfl, h⟩, rfl⟩
theorem VR.nottup {v : AV} {u : Value} (h : VR G M v u) : Go.Ab.isTup u = false := by
  obtain ⟨s, cs, h1, rfl⟩ := h
  rcases h1.mk with e | ⟨v, rfl, e⟩
  · rw [e]; rfl
  · cases hs : s.isAgg with
    | true => rfl
    | false => cases v <;> first | rfl | simp [cellB] at e
theorem CellsA.agg_of {v : AV} {s t : Sh} {cs : List Value} (h : CellsA G M v s cs) (k : v.conf t = true) : s.isAgg = t.isAgg := by
  cases v with
  | val u x => simp only [AV.conf] at k; have := Sh.eq_of_beq k; rw [← h.1, this]
  | two a b => obtain ⟨s1, s2, e, _⟩ := h; subst e; cases t <;> first | rfl | simp [AV.conf] at k
  | cell q => simp only [AV.conf, Bool.not_eq_true'] at k; rw [h.1, k]
/-- a value of a shape that it is told of -/
theorem CellsA.conf : ∀ {v : AV} {s t : Sh} {cs : List Value}, CellsA G M v s cs → v.conf t = true → CellsA G M v t cs
  | .val _ _, s, t, cs, h, k => by
    simp only [AV.conf] at k
    exact ⟨Sh.eq_of_beq k, h.2⟩
  | .two a b, _, t, _, ⟨s1, s2, e0, c, d, e, h1, h2⟩, k => by
    cases t with
    | pair t1 t2 =>
      simp only [AV.conf, Bool.and_eq_true] at k
      exact ⟨t1, t2, rfl, c, d, e, conf h1 k.1, conf h2 k.2⟩
    | _ => simp [AV.conf] at k
  | .cell _, _, t, _, h, k => by
    simp only [AV.conf, Bool.not_eq_true'] at k
    exact ⟨k, h.2⟩
theorem VR.conf {v : AV} {t : Sh} {u : Value} (h : VR G M v u) (k : v.conf t = true) : ∃ cs, CellsA G M v t cs ∧ u = mkV t.isAgg cs := by
  obtain ⟨s, cs, h1, h2⟩ := h
  exact ⟨cs, h1.conf k, by rw [h2, h1.agg_of k]⟩
end
end Go.Ty
