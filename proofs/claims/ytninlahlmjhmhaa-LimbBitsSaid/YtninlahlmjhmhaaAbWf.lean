import Derived.Test.YtninlahlmjhmhaaAbTests
namespace Go.Ab

/-! ## Unsigned numbers stay within their kind -/
def WfL (l : List Value) : Prop := ∀ c ∈ l, wfcB c = true
def WfV (v : Value) : Prop := WfL (vcells v)
def WfT : Value → Prop
  | .tuple vs => ∀ x ∈ vs.toList, WfV x
  | v => WfV v
def WfE (e : Env) : Prop := ∀ k v, e k = some v → WfT v
def WfH (H : Heap) : Prop := ∀ (i : Nat) b, H[i]? = some (some b) → WfL b.cells
def WfA (l : List Value) : Prop := ∀ x ∈ l, WfT x

theorem WfT.of_V {v : Value} (h : WfV v) : WfT v := by
  cases v with
  | tuple vs => have := h (.tuple vs) (by simp [vcells]); simp [wfcB] at this
  | _ => exact h
theorem WfV.of_T {v : Value} (h : WfT v) (ht : isTup v = false) : WfV v := by
  cases v with
  | tuple vs => simp [isTup] at ht
  | _ => exact h
theorem WfV.of_cell {v : Value} (h : wfcB v = true) : WfV v := by
  cases v with
  | agg _ => simp [wfcB] at h
  | _ => intro c hc; simp only [vcells, List.mem_singleton] at hc; subst hc; exact h
theorem WfT.of_cell {v : Value} (h : wfcB v = true) : WfT v := .of_V (.of_cell h)
theorem WfL.app {a b : List Value} (ha : WfL a) (hb : WfL b) : WfL (a ++ b) := fun c hc => (List.mem_append.1 hc).elim (ha c) (hb c)
theorem WfL.take {a : List Value} (ha : WfL a) (n : Nat) : WfL (a.take n) := fun c hc => ha c (List.mem_of_mem_take hc)
theorem WfL.drop {a : List Value} (ha : WfL a) (n : Nat) : WfL (a.drop n) := fun c hc => ha c (List.mem_of_mem_drop hc)
theorem WfL.set {a : List Value} (ha : WfL a) {v : Value} (hv : wfcB v = true) (n : Nat) : WfL (a.set n v) := fun c hc => (List.mem_or_eq_of_mem_set hc).elim (ha c) (fun e => e ▸ hv)
theorem WfL.splice {a vs : List Value} (ha : WfL a) (hv : WfL vs) (n : Nat) : WfL (splice a n vs) := by
  unfold Ab.splice
  split
  · exact ha.set (hv _ (by simp)) n
  · exact ((ha.take _).app hv).app (ha.drop _)
theorem WfL.at {a : List Value} (ha : WfL a) {i : Nat} {v : Value} (h : a[i]? = some v) : wfcB v = true := ha v (List.mem_of_getElem? h)

theorem wfcB_wrap (k : IntKind) (n : Int) : wfcB (.int k (k.wrap n)) = true := by
  cases k <;> simp [wfcB, IntKind.signed, IntKind.wrap, IntKind.bits, IntKind.max] <;> omega
theorem wfcB_int {k : IntKind} {n : Int} : wfcB (.int k n) = true ↔ (k.signed = false → 0 ≤ n ∧ n ≤ k.max) := by
  simp only [wfcB]
  cases k.signed <;> simp
theorem wf_cellof {k : IntKind} {n : Int} (h : WfT (.int k n)) : wfcB (.int k n) = true := h _ (by simp [vcells])

section
variable {P : Program}
theorem apart_wf {t : TypeId} {cs : List Value} {off : Nat} {v : Value} (h : apart P t cs off = some v) (hc : WfL cs) : WfV v := by
  unfold apart at h
  split at h
  · split at h
    · rename_i d n _ _ _
      cases hb : Nat.ble (off + n) cs.length <;> simp only [hb, cond_true, cond_false] at h
      · cases h
      · injection h with h; subst h
        exact (hc.drop _).take _
    · exact .of_cell (hc.at h)
  · cases h

theorem tmod_wf {k : IntKind} {a b : Int} (ha : wfcB (.int k a) = true) (hb : wfcB (.int k b) = true) : wfcB (.int k (a.tmod b)) = true := by
  refine wfcB_int.2 fun hs => ?_
  have h1 := wfcB_int.1 ha hs
  have h3 := Int.tmod_nonneg b h1.1
  have h4 : a.tmod b ≤ a := by
    have h2 := wfcB_int.1 hb hs
    rw [Int.tmod_eq_emod_of_nonneg h1.1]
    have h5 := Int.mul_ediv_add_emod a b
    have h6 := Int.ediv_nonneg h1.1 h2.1
    have h7 := Int.mul_nonneg h2.1 h6
    omega
  exact ⟨h3, Int.le_trans h4 h1.2⟩
theorem ibin_wf {op : BinOp} {k : IntKind} {a b : Int} {v : Value} (h : ibin op k a b = some v) (ha : wfcB (.int k a) = true) (hb : wfcB (.int k b) = true) : WfT v := by
  unfold ibin at h
  split at h
  case h_4 =>
    split at h
    · cases h
    · injection h with h; subst h; exact .of_cell (wfcB_wrap _ _)
  case h_5 =>
    split at h
    · cases h
    · injection h with h; subst h; exact .of_cell (tmod_wf ha hb)
  all_goals first
    | (injection h with h; subst h; exact .of_cell (wfcB_wrap _ _))
    | (injection h with h; subst h; exact .of_cell rfl)
    | cases h
theorem ishift_wf {op : BinOp} {k : IntKind} {a b : Int} {v : Value} (h : ishift op k a b = some v) (ha : wfcB (.int k a) = true) : WfT v := by
  unfold ishift at h
  split at h
  · cases h
  · split at h
    · injection h with h; subst h; exact .of_cell (wfcB_wrap _ _)
    · injection h with h; subst h
      refine .of_cell (wfcB_int.2 fun hs => ?_)
      have h1 := wfcB_int.1 ha hs
      have h2 : (0 : Int) < 2 ^ (min b.toNat k.bits) := Int.pow_pos (by omega)
      rw [Int.fdiv_eq_ediv_of_nonneg _ (Int.le_of_lt h2)]
      exact ⟨Int.ediv_nonneg h1.1 (Int.le_of_lt h2), Int.le_trans (Int.ediv_le_self _ h1.1) h1.2⟩
    · cases h
theorem abin_wf {op : BinOp} {t : TypeId} {x y v : Value} (h : abin P op t x y = some v) (hx : WfT x) (hy : WfT y) : WfT v := by
  unfold abin at h
  split at h
  · exact ishift_wf h (wf_cellof hx)
  · exact ishift_wf h (wf_cellof hx)
  · split at h
    · rename_i hk; subst hk; exact ibin_wf h (wf_cellof hx) (wf_cellof hy)
    · cases h
  · obtain ⟨b, _, rfl⟩ := Option.map_eq_some_iff.1 h; exact .of_cell rfl
  · obtain ⟨b, _, rfl⟩ := Option.map_eq_some_iff.1 h; exact .of_cell rfl
  · cases h
theorem aun_wf {op : UnOp} {x v : Value} (h : aun op x = some v) : WfT v := by
  unfold aun at h
  split at h
  · injection h with h; subst h; exact .of_cell (wfcB_wrap _ _)
  · injection h with h; subst h; exact .of_cell (wfcB_wrap _ _)
  · injection h with h; subst h; exact .of_cell rfl
  · cases h
theorem aconv_wf {t : TypeId} {x v : Value} (h : aconv P t x = some v) : WfT v := by
  unfold aconv at h
  split at h
  · injection h with h; subst h; exact .of_cell (wfcB_wrap _ _)
  · cases h

theorem evo_wf {e : Env} (he : WfE e) {x : Operand} {v : Value} (h : evo e x = some v) : WfT v := by
  cases x with
  | tmp t => exact he t v h
  | const c =>
    simp only [evo] at h
    cases hp : plainV c
    · simp [hp] at h
    · cases hb : (vcells c).all wfcB
      · simp only [hp, hb, Bool.true_and, cond_false] at h; cases h
      · simp only [hp, hb, Bool.true_and, cond_true, Option.some.injEq] at h
        subst h
        exact .of_V (List.all_eq_true.1 hb)
  | global g => simp only [evo] at h; cases h; exact .of_cell rfl
  | func f => simp only [evo] at h; cases h; exact .of_cell rfl
theorem evArgs_wf {e : Env} (he : WfE e) : ∀ (xs : List Operand) (l : List Value), evArgs e xs = some l → WfA l := by
  intro xs
  induction xs with
  | nil => intro l h; simp only [evArgs, Option.some.injEq] at h; subst h; intro x hx; simp at hx
  | cons x xs ih =>
    intro l h
    simp only [evArgs, Option.bind_eq_some_iff, Option.map_eq_some_iff] at h
    obtain ⟨v, hv, l', hl, rfl⟩ := h
    intro y hy
    rcases List.mem_cons.1 hy with rfl | hy
    · exact evo_wf he hv
    · exact ih l' hl y hy
theorem evParts_wf {e : Env} (he : WfE e) : ∀ (xs : List (Nat × Operand)) (l : List (Nat × Value)), evParts e xs = some l → ∀ p ∈ l, WfT p.2 := by
  intro xs
  induction xs with
  | nil => intro l h; simp only [evParts, Option.some.injEq] at h; subst h; intro x hx; simp at hx
  | cons x xs ih =>
    intro l h
    obtain ⟨i, x⟩ := x
    simp only [evParts, Option.bind_eq_some_iff, Option.map_eq_some_iff] at h
    obtain ⟨v, hv, l', hl, rfl⟩ := h
    intro y hy
    rcases List.mem_cons.1 hy with rfl | hy
    · exact evo_wf he hv
    · exact ih l' hl y hy
theorem afill_wf {place : Nat → Option (Nat × Nat)} : ∀ (ps : List (Nat × Value)) (cs cs' : List Value), afill place cs ps = some cs' → WfL cs → (∀ p ∈ ps, WfT p.2) → WfL cs' := by
  intro ps
  induction ps with
  | nil => intro cs cs' h hc _; simp only [afill, Option.some.injEq] at h; subst h; exact hc
  | cons p ps ih =>
    intro cs cs' h hc hp
    obtain ⟨i, v⟩ := p
    simp only [afill, Option.bind_eq_some_iff, Prod.exists] at h
    obtain ⟨off, size, _, h⟩ := h
    split at h
    · rename_i hh
      exact ih _ _ h (hc.splice (WfV.of_T (hp (i, v) (by simp)) hh.1) _) (fun q hq => hp q (by simp [hq]))
    · cases h
theorem zeroOf_wf {t : TypeId} {z : Value} (h : zeroOf P t = some z) : WfL (vcells z) := by
  simp only [zeroOf] at h
  obtain ⟨u, hu, h⟩ := Option.bind_eq_some_iff.1 h
  cases hb : (vcells u).all wfcB <;> simp only [hb, cond_true, cond_false] at h
  · cases h
  · injection h with h; subst h; exact List.all_eq_true.1 hb
theorem zerosN_wf {z : List Value} (hz : WfL z) : ∀ n, WfL (zerosN z n) := by
  intro n
  induction n with
  | zero => intro c hc; simp [zerosN] at hc
  | succ n ih => exact hz.app ih
theorem abuild_wf {t : TypeId} {ps : List (Nat × Value)} {v : Value} (h : abuild P t ps = some v) (hp : ∀ p ∈ ps, WfT p.2) : WfT v := by
  unfold abuild at h
  split at h
  · rename_i fs z _ hz
    cases hb : (!(vcells z).all plainC) <;> simp only [hb, cond_true, cond_false] at h
    · simp only [Option.bind_eq_some_iff, Option.map_eq_some_iff] at h
      obtain ⟨pl, _, cs, hcs, rfl⟩ := h
      exact WfT.of_V (v := .agg ⟨cs⟩) (afill_wf _ _ _ hcs (zeroOf_wf hz) hp)
    · cases h
  · rename_i e z _ hz
    cases hb : (!(vcells z).all plainC) <;> simp only [hb, cond_true, cond_false] at h
    · simp only [Option.bind_eq_some_iff, Option.map_eq_some_iff] at h
      obtain ⟨pl, _, cs, hcs, rfl⟩ := h
      exact WfT.of_V (v := .agg ⟨cs⟩) (afill_wf _ _ _ hcs (zeroOf_wf hz) hp)
    · cases h
  · cases h
theorem cond_elim {α : Type} {b : Bool} {x y : Option α} {v : α} {Q : Prop} (h : cond b x y = some v) (hx : x = some v → Q) (hy : y = some v → Q) : Q := by
  cases b
  · exact hy h
  · exact hx h
theorem aslice_wf {t : TypeId} {x : Value} {lo hi mx : Option (Option Value)} {v : Value} (h : aslice P t x lo hi mx = some v) : WfT v := by
  have key : ∀ {o : Option (Nat × Nat × Nat)} {g : Nat × Nat × Nat → Value} {v : Value}, (o.bind fun p => some (g p)) = some v → (∀ p, wfcB (g p) = true) → WfT v := by
    intro o g v h hg
    obtain ⟨p, _, h⟩ := Option.bind_eq_some_iff.1 h
    injection h with h; subst h; exact .of_cell (hg p)
  unfold aslice at h
  split at h
  · obtain ⟨sz, _, h⟩ := Option.bind_eq_some_iff.1 h
    refine cond_elim h (fun h => ?_) (fun h => ?_)
    · split at h
      · exact key h (fun _ => rfl)
      · exact cond_elim h (fun h => key h (fun _ => rfl)) (fun h => by cases h)
    · exact cond_elim h (fun h => key h (fun _ => rfl)) (fun h => by cases h)
  · obtain ⟨sz, _, h⟩ := Option.bind_eq_some_iff.1 h
    exact cond_elim h (fun h => key h (fun _ => rfl)) (fun h => by cases h)
  · cases h
theorem aindexAddr_wf {t : TypeId} {x i v : Value} (h : aindexAddr P t x i = some v) : WfT v := by
  unfold aindexAddr at h
  split at h
  · obtain ⟨sz, _, h⟩ := Option.bind_eq_some_iff.1 h
    split at h
    · injection h with h; subst h; exact .of_cell rfl
    · cases h
  · obtain ⟨sz, _, h⟩ := Option.bind_eq_some_iff.1 h
    split at h
    · injection h with h; subst h; exact .of_cell rfl
    · cases h
  · cases h
theorem afieldAddr_wf {t : TypeId} {x : Value} {f : Nat} {v : Value} (h : afieldAddr P t x f = some v) : WfT v := by
  unfold afieldAddr at h
  split at h
  · obtain ⟨fd, _, h⟩ := Option.bind_eq_some_iff.1 h
    obtain ⟨sz, _, h⟩ := Option.bind_eq_some_iff.1 h
    split at h
    · cases h
    · injection h with h; subst h; exact .of_cell rfl
  · cases h
theorem afield_wf {t : TypeId} {x : Value} {f : Nat} {v : Value} (h : afield P t x f = some v) (hx : WfT x) : WfT v := by
  unfold afield at h
  split at h
  · obtain ⟨fd, _, h⟩ := Option.bind_eq_some_iff.1 h
    exact .of_V (apart_wf h hx)
  · cases h
theorem byte_wf (b : UInt8) : wfcB (.int .u8 (b.toNat : Int)) = true := by
  have := b.toNat_lt
  simp [wfcB, IntKind.signed, IntKind.max, IntKind.bits]; omega
theorem aindex_wf {t : TypeId} {x i v : Value} (h : aindex P t x i = some v) (hx : WfT x) : WfT v := by
  unfold aindex at h
  split at h
  · obtain ⟨sz, _, h⟩ := Option.bind_eq_some_iff.1 h
    split at h
    · exact .of_V (apart_wf h hx)
    · cases h
  · split at h
    · injection h with h; subst h; exact .of_cell (byte_wf _)
    · cases h
  · cases h
theorem alen_wf {t : TypeId} {x v : Value} (h : alen P t x = some v) : WfT v := by
  unfold alen at h
  split at h <;> first | (injection h with h; subst h; exact .of_cell rfl) | cases h
theorem mfold_wf (f : Int → Int → Int) (hf : ∀ x y, f x y = x ∨ f x y = y) : ∀ (r : List Value) (k : IntKind) (x : Int) (v : Value), r.foldl (mstep f) (some (.int k x)) = some v → wfcB (.int k x) = true → WfA r → WfT v := by
  intro r
  induction r with
  | nil => intro k x v h hx _; simp only [List.foldl_nil, Option.some.injEq] at h; subst h; exact .of_cell hx
  | cons y r ih =>
    intro k x v h hx hr
    have hno : ∀ r : List Value, r.foldl (mstep f) none = none := by intro r; induction r <;> simp [mstep, *]
    simp only [List.foldl_cons] at h
    cases y with
    | int k' b =>
      by_cases hk : k = k'
      · simp only [mstep, if_pos hk] at h
        subst hk
        refine ih _ _ _ h ?_ (fun z hz => hr z (by simp [hz]))
        rcases hf x b with e | e <;> rw [e]
        · exact hx
        · exact wf_cellof (hr _ (by simp))
      · simp only [mstep, if_neg hk, hno] at h; cases h
    | _ => simp only [mstep, hno] at h; cases h
theorem amin_wf {l : List Value} {v : Value} (h : amin l = some v) (hl : WfA l) : WfT v := by
  unfold amin at h
  split at h
  · exact mfold_wf _ (fun x y => by by_cases h : y < x <;> simp [h]) _ _ _ _ h (wf_cellof (hl _ (by simp))) (fun z hz => hl z (by simp [hz]))
  · cases h
theorem amax_wf {l : List Value} {v : Value} (h : amax l = some v) (hl : WfA l) : WfT v := by
  unfold amax at h
  split at h
  · exact mfold_wf _ (fun x y => by by_cases h : y > x <;> simp [h]) _ _ _ _ h (wf_cellof (hl _ (by simp))) (fun z hz => hl z (by simp [hz]))
  · cases h
end
end Go.Ab
