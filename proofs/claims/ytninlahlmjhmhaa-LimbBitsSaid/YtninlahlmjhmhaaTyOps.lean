import Derived.Test.YtninlahlmjhmhaaTyNum
namespace Go.Ty
open Go.Ab (vcells plainC capU szOf zeroOf aggT apart)

/-! ## A run of an operation, its demands met -/
def Ex (a : HAct) (H : Heap) (v : Option SV) (H' : Heap) : Prop := ∃ r, exec a H = some r ∧ r.dem ∧ r.val = v ∧ r.heap = H'
section
variable {H H' : Heap} {v : Option SV}
@[simp] theorem Ex_fail : Ex .fail H v H' ↔ False := by simp [Ex, exec]
@[simp] theorem Ex_ret {u : Option SV} : Ex (.ret u) H v H' ↔ v = u ∧ H' = H := by
  constructor
  · rintro ⟨r, h1, h2, h3, h4⟩
    simp only [exec, Option.some.injEq] at h1; subst h1
    exact ⟨h3.symm, h4.symm⟩
  · rintro ⟨rfl, rfl⟩; exact ⟨_, rfl, trivial, rfl, rfl⟩
@[simp] theorem Ex_pure {u : AV} : Ex (.pure u) H v H' ↔ v = some (.av u) ∧ H' = H := Ex_ret
@[simp] theorem Ex_dem {b : Bool} {k : HAct} : Ex (.dem b k) H v H' ↔ b = true ∧ Ex k H v H' := by
  constructor
  · rintro ⟨r, h1, h2, h3, h4⟩
    simp only [exec, Option.map_eq_some_iff] at h1
    obtain ⟨r', g, rfl⟩ := h1
    exact ⟨h2.1, r', g, h2.2, h3, h4⟩
  · rintro ⟨hb, r, g, h2, h3, h4⟩
    exact ⟨{ r with dem := b = true ∧ r.dem }, by simp only [exec, g, Option.map_some], ⟨hb, h2⟩, h3, h4⟩
@[simp] theorem Ex_pre {p : Prop} {k : HAct} : Ex (.pre p k) H v H' ↔ p ∧ Ex k H v H' := by
  constructor
  · rintro ⟨r, h1, h2, h3, h4⟩
    simp only [exec, Option.map_eq_some_iff] at h1
    obtain ⟨r', g, rfl⟩ := h1
    exact ⟨h2.1, r', g, h2.2, h3, h4⟩
  · rintro ⟨hb, r, g, h2, h3, h4⟩
    exact ⟨{ r with dem := p ∧ r.dem }, by simp only [exec, g, Option.map_some], ⟨hb, h2⟩, h3, h4⟩
@[simp] theorem Ex_ofO {α : Type} {o : Option α} {k : α → HAct} : Ex (.ofO o k) H v H' ↔ ∃ a, o = some a ∧ Ex (k a) H v H' := by
  cases o <;> simp [HAct.ofO]
@[simp] theorem Ex_bif {b : Bool} {k l : HAct} : Ex (bif b then k else l) H v H' ↔ (b = true ∧ Ex k H v H') ∨ (b = false ∧ Ex l H v H') := by
  cases b <;> simp
@[simp] theorem Ex_look {b : Nat} {k : Blk → HAct} : Ex (.look b k) H v H' ↔ ∃ x, H b = .live x ∧ Ex (k x) H v H' := by
  constructor
  · rintro ⟨r, h1, h2, h3, h4⟩
    simp only [exec] at h1
    split at h1
    · rename_i x hx
      simp only [Option.map_eq_some_iff] at h1
      obtain ⟨r', g, rfl⟩ := h1
      exact ⟨x, hx, r', g, h2, h3, h4⟩
    · cases h1
  · rintro ⟨x, hx, r, g, h2, h3, h4⟩
    exact ⟨{ r with touched := b :: r.touched }, by simp only [exec, hx, g, Option.map_some], h2, h3, h4⟩
@[simp] theorem Ex_put {b : Nat} {x : Blk} {k : HAct} : Ex (.put b x k) H v H' ↔ ∃ y, H b = .live y ∧ Ex k (H.put b (.live x)) v H' := by
  constructor
  · rintro ⟨r, h1, h2, h3, h4⟩
    simp only [exec] at h1
    split at h1
    · rename_i y hx
      simp only [Option.map_eq_some_iff] at h1
      obtain ⟨r', g, rfl⟩ := h1
      exact ⟨y, hx, r', g, h2, h3, h4⟩
    · cases h1
  · rintro ⟨y, hx, r, g, h2, h3, h4⟩
    exact ⟨{ r with touched := b :: r.touched, written := b :: r.written }, by simp only [exec, hx, g, Option.map_some], h2, h3, h4⟩
@[simp] theorem Ex_kill {b : Nat} {k : HAct} : Ex (.kill b k) H v H' ↔ ∃ y, H b = .live y ∧ Ex k (H.put b .dead) v H' := by
  constructor
  · rintro ⟨r, h1, h2, h3, h4⟩
    simp only [exec] at h1
    split at h1
    · rename_i y hx
      simp only [Option.map_eq_some_iff] at h1
      obtain ⟨r', g, rfl⟩ := h1
      exact ⟨y, hx, r', g, h2, h3, h4⟩
    · cases h1
  · rintro ⟨y, hx, r, g, h2, h3, h4⟩
    exact ⟨{ r with touched := b :: r.touched, written := b :: r.written }, by simp only [exec, hx, g, Option.map_some], h2, h3, h4⟩
@[simp] theorem Ex_new {b : Nat} {x : Blk} {k : HAct} : Ex (.new b x k) H v H' ↔ H b = .fresh ∧ Ex k (H.put b (.live x)) v H' := by
  constructor
  · rintro ⟨r, h1, h2, h3, h4⟩
    simp only [exec] at h1
    split at h1
    · rename_i hx
      simp only [Option.map_eq_some_iff] at h1
      obtain ⟨r', g, rfl⟩ := h1
      exact ⟨hx, r', g, h2, h3, h4⟩
    · cases h1
  · rintro ⟨hx, r, g, h2, h3, h4⟩
    exact ⟨{ r with touched := b :: r.touched, written := b :: r.written }, by simp only [exec, hx, g, Option.map_some], h2, h3, h4⟩
end

/-- the types and the variables are as told -/
structure XOK (X : Cx) : Prop where
  sh : ∀ t s, X.sh t = some s → shChk X.P s (.inl t) = true
  gl : ∀ g s x, X.glob g = some ⟨s, x⟩ → ∀ H1, Cells (gl1 X) H1 s x (cellsOf s x)

def ER (X : Cx) (M : Lk) (e : Env) (e1 : Ab.Env) : Prop := ∀ k v, e k = some v → ∃ v1, e1 k = some v1 ∧ SVR (gl1 X) M v v1

section
variable {X : Cx} {M : Lk} {H H' : Heap} {e : Env} {e1 : Ab.Env}

theorem ER.mono {M' : Lk} (h : ER X M e e1) (hr : RoLe M.H1 M'.H1) (hm : ∀ k i, M.mu k = some i → M'.mu k = some i ∧ M'.ln k = M.ln k) : ER X M' e e1 := fun k v hk => by
  obtain ⟨v1, h1, h2⟩ := h k v hk
  exact ⟨v1, h1, h2.mono hr hm⟩

theorem strOf_data (s : ByteArray) : strOf (s.data.toList.map fun b => b.toBitVec) = s := by
  unfold strOf
  rw [List.map_map]
  have : (UInt8.ofBitVec ∘ fun b : UInt8 => b.toBitVec) = id := by funext b; rfl
  rw [this, List.map_id]

theorem const_sound {c : Value} {v : AV} (h : constA c = some v) : Ab.evo e1 (.const c) = some c ∧ VR (gl1 X) M v c := by
  have key : Ab.plainV c = true → (vcells c).all Ab.wfcB = true → Ab.evo e1 (.const c) = some c := by
    intro h1 h2; simp only [Ab.evo, h1, h2, Bool.and_self, cond_true]
  unfold constA at h
  split at h
  · rename_i k n
    cases hd : decide (toI k (ofI k n) = n) with
    | false => rw [hd] at h; cases h
    | true =>
      rw [hd] at h
      simp only [cond_true, Option.some.injEq] at h; subst h
      have hd := of_decide_eq_true hd
      refine ⟨key rfl ?_, .int k, _, ⟨rfl, rfl⟩, ?_⟩
      · rw [← hd]; simp only [vcells, List.all_cons, List.all_nil, Bool.and_true]; exact toI_wf
      · rw [hd]; rfl
  · injection h with h; subst h; exact ⟨key rfl rfl, .bool, _, ⟨rfl, rfl⟩, rfl⟩
  · injection h with h; subst h
    refine ⟨key rfl rfl, .str, _, ⟨rfl, rfl⟩, ?_⟩
    rw [strOf_data]; rfl
  · injection h with h; subst h; exact ⟨key rfl rfl, .non .ptr, _, ⟨rfl, rfl⟩, rfl⟩
  · injection h with h; subst h; exact ⟨key rfl rfl, VR.mkcell rfl⟩
  · injection h with h; subst h; exact ⟨key rfl rfl, .non .func, _, ⟨rfl, rfl⟩, rfl⟩
  · injection h with h; subst h; exact ⟨key rfl rfl, .non .map, _, ⟨rfl, rfl⟩, rfl⟩
  · injection h with h; subst h; exact ⟨key rfl rfl, .non .iface, _, ⟨rfl, rfl⟩, rfl⟩
  · cases h

theorem ev_sound (hX : XOK X) (he : ER X M e e1) {x : Operand} {v : SV} (h : ev X e x = some v) : ∃ v1, Ab.evo e1 x = some v1 ∧ SVR (gl1 X) M v v1 := by
  cases x with
  | tmp t => exact he t v h
  | const c =>
    simp only [ev, Option.map_eq_some_iff] at h
    obtain ⟨a, ha, rfl⟩ := h
    obtain ⟨h1, h2⟩ := const_sound (e1 := e1) (X := X) (M := M) ha
    exact ⟨c, h1, h2⟩
  | global g =>
    simp only [ev, Option.map_eq_some_iff] at h
    obtain ⟨⟨s, x⟩, hg, rfl⟩ := h
    refine ⟨_, rfl, VR.mkcell ⟨_, cellsOf s x, rfl, ?_, hX.gl g s x hg _⟩⟩
    refine ⟨cellsOf s x, ?_, by simp, by simp⟩
    simp [cellsRO, gl1, hg]
  | func f =>
    simp only [ev, Option.some.injEq] at h
    subst h
    exact ⟨_, rfl, VR.mkcell rfl⟩
theorem evA_sound (hX : XOK X) (he : ER X M e e1) {x : Operand} {v : AV} (h : evA X e x = some v) : ∃ v1, Ab.evo e1 x = some v1 ∧ VR (gl1 X) M v v1 := by
  unfold evA at h
  split at h
  · rename_i u hu
    injection h with h; subst h
    exact ev_sound hX he hu
  · cases h
theorem evL_sound (hX : XOK X) (he : ER X M e e1) : ∀ {xs : List Operand} {l : List SV}, evL X e xs = some l → ∃ l1, Ab.evArgs e1 xs = some l1 ∧ l.length = l1.length ∧ ∀ (j : Nat) v, l[j]? = some v → ∃ v1, l1[j]? = some v1 ∧ SVR (gl1 X) M v v1
  | [], l, h => by simp only [evL, Option.some.injEq] at h; subst h; exact ⟨[], rfl, rfl, by simp⟩
  | x :: r, l, h => by
    simp only [evL, Option.bind_eq_some_iff, Option.map_eq_some_iff] at h
    obtain ⟨v, hv, l', hl, rfl⟩ := h
    obtain ⟨v1, g1, g2⟩ := ev_sound hX he hv
    obtain ⟨l1, k1, k2, k3⟩ := evL_sound hX he hl
    refine ⟨v1 :: l1, by simp [Ab.evArgs, g1, k1], by simp [k2], fun j u hu => ?_⟩
    cases j with
    | zero => simp at hu; subst hu; exact ⟨v1, by simp, g2⟩
    | succ j => simpa using k3 j u (by simpa using hu)

/-! ### Values of which something is known -/
theorem VR.int {k : IntKind} {x : IT k} {u : Value} (h : VR (gl1 X) M (.val (.int k) x) u) : u = .int k (toI k x) := by
  obtain ⟨cs, h1, h2⟩ := h.val
  have h1 : cs = [.int k (toI k x)] := h1
  subst h1; exact h2
theorem VR.ofint {k : IntKind} {x : IT k} : VR (gl1 X) M (.val (.int k) x) (.int k (toI k x)) := VR.mkval (s := .int k) rfl
theorem VR.bool {b : Bool} {u : Value} (h : VR (gl1 X) M (.val .bool b) u) : u = .bool b := by
  obtain ⟨cs, h1, h2⟩ := h.val
  have h1 : cs = [.bool b] := h1
  subst h1; exact h2
theorem VR.ofbool {b : Bool} : VR (gl1 X) M (.val .bool b) (.bool b) := VR.mkval (s := .bool) rfl
theorem VR.str {x : List (BitVec 8)} {u : Value} (h : VR (gl1 X) M (.val .str x) u) : u = .string (strOf x) := by
  obtain ⟨cs, h1, h2⟩ := h.val
  have h1 : cs = [.string (strOf x)] := h1
  subst h1; exact h2
theorem VR.ofstr {x : List (BitVec 8)} : VR (gl1 X) M (.val .str x) (.string (strOf x)) := VR.mkval (s := .str) rfl
theorem castI {j k : IntKind} {x : IT j} {y : IT k} (h : castTo (.int j) (.int k) x = some y) : j = k ∧ toI j x = toI k y := by
  obtain ⟨e, he⟩ := castTo_some h
  injection e with e
  subst e
  exact ⟨rfl, by rw [he]⟩

/-! ### Equality -/
theorem allB_eq {α : Type} (f : α → Option Bool) (g : α → Bool) : ∀ (l : List α), (∀ a ∈ l, f a = some (g a)) → Ab.allB (l.map f) = some (l.all g)
  | [], _ => rfl
  | a :: l, h => by
    simp only [List.map_cons, Ab.allB, h a (by simp), allB_eq f g l (fun b hb => h b (by simp [hb])), Option.bind_some, Option.map_some, List.all_cons]
theorem apart_mk {t : TypeId} {s : Sh} {cs : List Value} {off : Nat} (h : shChk X.P s (.inl t) = true) (hl : off + s.size ≤ cs.length) : apart X.P t cs off = some (mkV s.isAgg ((cs.drop off).take s.size)) := by
  obtain ⟨d, h1, h2⟩ := shChk_und h
  unfold apart
  rw [h1, shChk_sz h]
  simp only [h2]
  cases ha : s.isAgg with
  | true => simp only [if_true]; rw [show Nat.ble (off + s.size) cs.length = true from by simpa using hl]; rfl
  | false =>
    have h1 := size_one ha
    simp only [Bool.false_eq_true, if_false]
    rw [h1, List.getElem?_eq_getElem (by omega)]
    rw [List.drop_eq_getElem_cons (by omega)]
    rfl
theorem teq_dec {s : Sh} {x y : s.T} : teq s x y = true ↔ x = y := teq_iff
theorem teq_cong {s : Sh} {x y : s.T} {b : Bool} (h : b = true ↔ x = y) : teq s x y = b := by
  cases hb : b with
  | true => exact teq_iff.2 (h.1 hb)
  | false =>
    cases ht : teq s x y with
    | false => rfl
    | true => have := h.2 (teq_iff.1 ht); rw [hb] at this; cases this

/-- the fields, as pairs -/
theorem allB_app {l m : List (Option Bool)} {a b : Bool} (h : Ab.allB l = some a) (k : Ab.allB m = some b) : Ab.allB (l ++ m) = some (a && b) := by
  induction l generalizing a with
  | nil => simp only [Ab.allB, Option.some.injEq] at h; subst h; simpa using k
  | cons o l ih =>
    simp only [Ab.allB, Option.bind_eq_some_iff, Option.map_eq_some_iff] at h
    obtain ⟨c, hc, d, hd, rfl⟩ := h
    simp only [List.cons_append, Ab.allB, hc, Option.bind_some, ih hd, Option.map_some, Bool.and_assoc]

theorem aeqIn_field {d : Nat} {f : Field} {s : Sh} {x y : s.T} {cx cy px py qx qy : List Value} (hs : shChk X.P s (.inl f.type) = true) (hlx : Cells (gl1 X) M.H1 s x cx) (hly : Cells (gl1 X) M.H1 s y cy) (hpx : px.length = f.offset) (hpy : py.length = f.offset)
    (hn : (f.name != "_") = true) (ih : Ab.aeqIn X.P d f.type (mkV s.isAgg cx) (mkV s.isAgg cy) = some (teq s x y)) :
    (if f.name ≠ "_" then (apart X.P f.type (px ++ (cx ++ qx)) f.offset).bind fun a => (apart X.P f.type (py ++ (cy ++ qy)) f.offset).bind fun b => Ab.aeqIn X.P d f.type a b else some true) = some (teq s x y) := by
  have hn : f.name ≠ "_" := by simpa using hn
  rw [if_pos hn]
  have e1 : ∀ (p c q : List Value), p.length = f.offset → c.length = s.size → apart X.P f.type (p ++ (c ++ q)) f.offset = some (mkV s.isAgg c) := by
    intro p c q hp hc
    rw [apart_mk hs (by simp only [List.length_append]; omega)]
    rw [← hp, List.drop_left, ← hc, List.take_left]
  rw [e1 px cx qx hpx hlx.length, e1 py cy qy hpy hly.length]
  exact ih

theorem rd_inj {s : Sh} {xs ys : List s.T} {n : Nat} (hx : xs.length = n) (hy : ys.length = n) : (∀ i, i < n → rd s xs i = rd s ys i) ↔ xs = ys := by
  constructor
  · intro h
    apply List.ext_getElem? ; intro i
    by_cases hi : i < n
    · rw [rd_of (by omega), rd_of (by omega), h i hi]
    · rw [List.getElem?_eq_none (by omega), List.getElem?_eq_none (by omega)]
  · rintro rfl _ _; rfl
theorem aeqIn_both : ∀ (s : Sh), (∀ (t : TypeId) (d : Nat) (x y : s.T) (cx cy : List Value), s.depth < d → shChk X.P s (.inl t) = true → eqChk X.P s (.inl t) = true → s.cmp = true → Cells (gl1 X) M.H1 s x cx → Cells (gl1 X) M.H1 s y cy →
      Ab.aeqIn X.P d t (mkV s.isAgg cx) (mkV s.isAgg cy) = some (teq s x y)) ∧
    (∀ (l : List Field) (off d : Nat) (x y : s.T) (cx cy px py : List Value), s.depth ≤ d → shChk X.P s (.inr (l, off)) = true → eqChk X.P s (.inr l) = true → s.cmp = true → Cells (gl1 X) M.H1 s x cx → Cells (gl1 X) M.H1 s y cy → px.length = off → py.length = off →
      Ab.allB (l.map fun f => if f.name ≠ "_" then (apart X.P f.type (px ++ cx) f.offset).bind fun a => (apart X.P f.type (py ++ cy) f.offset).bind fun b => Ab.aeqIn X.P d f.type a b else some true) = some (teq s x y))
  | .int k => by
    refine ⟨fun t d x y cx cy hd hs he hc hx hy => ?_, fun l off d x y cx cy px py hd hs => by simp [shChk] at hs⟩
    obtain ⟨d, rfl⟩ : ∃ m, d = m + 1 := ⟨d - 1, by omega⟩
    have hx : cx = [.int k (toI k x)] := hx
    have hy : cy = [.int k (toI k y)] := hy
    subst hx; subst hy
    unfold Ab.aeqIn
    simp only [shChk_int hs, mkV, Sh.isAgg, cond_false, List.headD_cons, if_true, Option.some.injEq]
    refine (teq_cong ?_).symm
    simp only [beq_iff_eq]
    exact ⟨toI_inj, fun h => by rw [h]⟩
  | .bool => by
    refine ⟨fun t d x y cx cy hd hs he hc hx hy => ?_, fun l off d x y cx cy px py hd hs => by simp [shChk] at hs⟩
    obtain ⟨d, rfl⟩ : ∃ m, d = m + 1 := ⟨d - 1, by omega⟩
    have hx : cx = [.bool x] := hx
    have hy : cy = [.bool y] := hy
    subst hx; subst hy
    unfold Ab.aeqIn
    simp only [shChk_bool hs, mkV, Sh.isAgg, cond_false, List.headD_cons, Option.some.injEq]
    refine (teq_cong ?_).symm
    simp only [beq_iff_eq]
  | .unit => by
    refine ⟨fun t d x y cx cy hd hs he => by simp [eqChk] at he, fun l off d x y cx cy px py hd hs he _ _ _ _ _ => ?_⟩
    match l, hs with
    | [], _ =>
      simp only [List.map_nil, Ab.allB, Option.some.injEq]
      exact (teq_cong ⟨fun _ => rfl, fun _ => rfl⟩).symm
    | _ :: _, hs => simp [shChk] at hs
  | .pair a b => by
    obtain ⟨ia, _⟩ := aeqIn_both a
    obtain ⟨_, ib⟩ := aeqIn_both b
    have two : ∀ (l : List Field) (off d : Nat) (x y : (Sh.pair a b).T) (cx cy px py : List Value), (Sh.pair a b).depth ≤ d → shChk X.P (.pair a b) (.inr (l, off)) = true → eqChk X.P (.pair a b) (.inr l) = true → (Sh.pair a b).cmp = true → Cells (gl1 X) M.H1 (.pair a b) x cx → Cells (gl1 X) M.H1 (.pair a b) y cy → px.length = off → py.length = off →
        Ab.allB (l.map fun f => if f.name ≠ "_" then (apart X.P f.type (px ++ cx) f.offset).bind fun a => (apart X.P f.type (py ++ cy) f.offset).bind fun b => Ab.aeqIn X.P d f.type a b else some true) = some (teq (.pair a b) x y) := by
      intro l off d x y cx cy px py hd hs he hc ⟨c1, d1, e1, hx1, hx2⟩ ⟨c2, d2, e2, hy1, hy2⟩ hpx hpy
      subst e1; subst e2
      match l, hs, he with
      | [], hs, _ => simp [shChk] at hs
      | f :: r, hs, he =>
        simp only [shChk, Bool.and_eq_true] at hs
        simp only [eqChk, Bool.and_eq_true] at he
        simp only [Sh.cmp, Bool.and_eq_true] at hc
        simp only [Sh.depth] at hd
        have hda : a.depth < d := by omega
        have hdb : b.depth ≤ d := by omega
        have hoff := Nat.eq_of_beq_eq_true hs.1
        have h1 := aeqIn_field (d := d) (px := px) (py := py) (qx := d1) (qy := d2) hs.2.1 hx1 hy1 (by omega) (by omega) he.1 (ia f.type d x.1 y.1 c1 c2 hda hs.2.1 he.2.1 hc.1 hx1 hy1)
        have h2 := ib r (off + a.size) d x.2 y.2 d1 d2 (px ++ c1) (py ++ c2) hdb hs.2.2 he.2.2 hc.2 hx2 hy2 (by rw [List.length_append, hx1.length]; omega) (by rw [List.length_append, hy1.length]; omega)
        simp only [List.map_cons, Ab.allB, h1, Option.bind_some]
        simp only [List.append_assoc] at h2
        rw [h2]
        simp only [Option.map_some, Option.some.injEq]
        refine (teq_cong ?_).symm
        simp only [Bool.and_eq_true, teq_iff]
        exact ⟨fun h => Prod.ext h.1 h.2, fun h => by rw [h]; exact ⟨rfl, rfl⟩⟩
    refine ⟨fun t d x y cx cy hd hs he hc hx hy => ?_, two⟩
    obtain ⟨d, rfl⟩ : ∃ m, d = m + 1 := ⟨d - 1, by omega⟩
    obtain ⟨fs, hu, hs2⟩ := shChk_pair hs
    simp only [eqChk, Bool.and_eq_true, Bool.not_eq_true'] at he
    obtain ⟨he0, he1⟩ := he
    have he2 : eqChk X.P (.pair a b) (.inr fs.toList) = true := by
      rw [hu] at he1
      split at he1
      · rename_i f r hfr
        injection hfr with hfr; injection hfr with hfr
        subst hfr
        exact he1
      · cases he1
    unfold Ab.aeqIn
    simp only [hu, mkV, Sh.isAgg, cond_true, he0, cond_false]
    exact two fs.toList 0 d x y cx cy [] [] (by omega) hs2 he2 hc hx hy rfl rfl
  | .arr n s => by
    obtain ⟨ia, _⟩ := aeqIn_both s
    refine ⟨fun t d x y cx cy hd hs he hc hx hy => ?_, fun l off d x y cx cy px py hd hs => by simp [shChk] at hs⟩
    obtain ⟨d, rfl⟩ : ∃ m, d = m + 1 := ⟨d - 1, by omega⟩
    obtain ⟨hx1, hx2⟩ := hx
    obtain ⟨hy1, hy2⟩ := hy
    obtain ⟨el, hu, hs2⟩ := shChk_arr hs
    simp only [eqChk] at he
    rw [hu] at he
    simp only [Sh.depth] at hd
    unfold Ab.aeqIn
    simp only [hu, mkV, Sh.isAgg, cond_true, shChk_sz hs2, Option.bind_some]
    rw [allB_eq _ (fun i => teq s (rd s x i) (rd s y i)) (List.range' 0 n)]
    · simp only [Option.some.injEq]
      refine (teq_cong ?_).symm
      rw [List.all_eq_true]
      have hr := rd_inj (s := s) (xs := x) (ys := y) hx1 hy1
      rw [← hr]
      constructor
      · intro h i hi
        exact teq_iff.1 (h i (by simp; omega))
      · intro h i hi
        exact teq_iff.2 (h i (by simp at hi; omega))
    · intro i hi
      have hi : i < n := by simp at hi; omega
      obtain ⟨g1, g2⟩ := hx2.nth (fun _ _ h => h.length) (rd_of (k := i) (by rw [hx1]; exact hi))
      obtain ⟨k1, k2⟩ := hy2.nth (fun _ _ h => h.length) (rd_of (k := i) (by rw [hy1]; exact hi))
      rw [apart_mk hs2 g2, apart_mk hs2 k2]
      exact ia el d (rd s x i) (rd s y i) _ _ (by omega) hs2 he hc g1 k1
  | .str => ⟨fun _ _ _ _ _ _ _ _ _ hc => by simp [Sh.cmp] at hc, fun _ _ _ _ _ _ _ _ _ _ hs => by simp [shChk] at hs⟩
  | .non _ => ⟨fun _ _ _ _ _ _ _ _ _ hc => by simp [Sh.cmp] at hc, fun _ _ _ _ _ _ _ _ _ _ hs => by simp [shChk] at hs⟩
  | .sl _ => ⟨fun _ _ _ _ _ _ _ _ _ hc => by simp [Sh.cmp] at hc, fun _ _ _ _ _ _ _ _ _ _ hs => by simp [shChk] at hs⟩
end
end Go.Ty
