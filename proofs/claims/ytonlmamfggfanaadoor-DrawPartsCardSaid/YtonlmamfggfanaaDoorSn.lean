import Derived.Test.YtonlmamfggfanaaDoorTyC
namespace Go.Ty
open Go.Ab (TRel VRel LRel CRel ERel Sim)

/-! ## Calls that look at own memory and leave it: their results are flat -/
def snapA : AV → (AV → HAct) → HAct
  | .cell (.ref b r p e off len _), k => .look b fun x => bif x.c.lay.beq r then
      .ofO (rowC x.c p e) fun xs => k (.val (.sl e) ((xs.drop off).take len)) else .fail
  | .cell (.ptr b r p), k => .look b fun x => bif x.c.lay.beq r then
      .ofO (getC x.c p) fun v => match v with
        | .val s y => k (.cell (.fptr s y))
        | _ => .fail
      else .fail
  | .two a b, k => snapA a fun a => snapA b fun b => k (.two a b)
  | v, k => k v
def snapL : List SV → (List SV → HAct) → HAct
  | [], k => k []
  | .av v :: r, k => snapA v fun v => snapL r fun l => k (.av v :: l)
  | .tup _ :: _, _ => .fail
def conS (as : List Ar) (F : HA as → RT) : ConT := fun args _ => snapL args fun args => match parseA as args with
  | some xs => (F xs).act
  | none => .fail

def frzAll (A : Ab.Heap) : Ab.Heap := A.map fun o => o.map fun b => { b with own := false }
theorem frzAll_len (A : Ab.Heap) : (frzAll A).length = A.length := List.length_map _
theorem frzAll_at {A : Ab.Heap} {i : Nat} {b : Ab.Blk} (h : A[i]? = some (some b)) : (frzAll A)[i]? = some (some { b with own := false }) := by
  unfold frzAll; rw [List.getElem?_map, h]; rfl
theorem frzAll_of {A : Ab.Heap} {i : Nat} {b : Ab.Blk} (h : (frzAll A)[i]? = some (some b)) : ∃ b0, A[i]? = some (some b0) ∧ b = { b0 with own := false } := by
  unfold frzAll at h
  rw [List.getElem?_map] at h
  cases ho : A[i]? with
  | none => rw [ho] at h; cases h
  | some o =>
    cases o with
    | none => rw [ho] at h; cases h
    | some b0 =>
      rw [ho] at h
      injection h with h
      injection h with h
      exact ⟨b0, rfl, h.symm⟩
theorem frzAll_le (A : Ab.Heap) : FrzLe A (frzAll A) := by
  refine ⟨frzAll_len A, fun i => ?_⟩
  cases ho : A[i]? with
  | none => left; unfold frzAll; rw [List.getElem?_map, ho]; rfl
  | some o =>
    cases o with
    | none => left; unfold frzAll; rw [List.getElem?_map, ho]; rfl
    | some b => right; exact ⟨b, rfl, frzAll_at ho⟩
theorem snap_at {G : Nat → Option (List Value)} {M : Lk} {H : Heap} (hH : HR G M H) {b : Nat} {x : Blk} (hb : H b = .live x) :
    ∃ i B, M.mu b = some i ∧ (frzAll M.H1)[i]? = some (some B) ∧ B.own = false ∧ ContR G ⟨frzAll M.H1, M.mu, M.ln⟩ x.c B ∧ ∀ s xs, x.c = .row s xs → xs.length = M.ln b := by
  obtain ⟨i, B, h1, h2, h3, h4, h5⟩ := hH.live b x hb
  refine ⟨i, { B with own := false }, h1, frzAll_at h2, rfl, ?_, h5⟩
  have := h4.mono (M' := ⟨frzAll M.H1, M.mu, M.ln⟩) (frzAll_le M.H1).ro (fun _ _ h => ⟨h, rfl⟩)
  cases hc : x.c <;> rw [hc] at this <;> exact this

section
variable {X : Cx} {v : Option SV} {H' : Heap}
theorem snapA_sound : ∀ {a : AV} {k : AV → HAct} {M : Lk} {H : Heap} {u : Value}, Ex (snapA a k) H v H' → VR (gl1 X) M a u → HR (gl1 X) M H →
    ∃ a', Ex (k a') H v H' ∧ VR (gl1 X) ⟨frzAll M.H1, M.mu, M.ln⟩ a' u ∧ noRef a' = true := by
  intro a
  induction a with
  | val s x => intro k M H u h hv _; exact ⟨_, h, hv.mono (M' := ⟨frzAll M.H1, M.mu, M.ln⟩) (frzAll_le M.H1).ro (fun _ _ h => ⟨h, rfl⟩), rfl⟩
  | two a b iha ihb =>
    intro k M H u h hv hH
    simp only [snapA] at h
    obtain ⟨s0, cs, ⟨s1, s2, rfl, c, d, rfl, h1, h2⟩, rfl⟩ := hv
    obtain ⟨a', g1, g3, g6⟩ := iha h (.of h1) hH
    obtain ⟨b', k1, k3, k6⟩ := ihb g1 (.of h2) hH
    have e1 := (CellsA.vcells h1)
    have e2 := (CellsA.vcells h2)
    refine ⟨_, k1, ?_, by simp only [noRef, g6, k6, Bool.and_self]⟩
    obtain ⟨t1, c1, q1, q2⟩ := g3
    obtain ⟨t2, c2, q3, q4⟩ := k3
    have w1 : c = c1 := by rw [← e1, q2]; exact q1.vcells
    have w2 : d = c2 := by rw [← e2, q4]; exact q3.vcells
    exact ⟨.pair t1 t2, c1 ++ c2, ⟨t1, t2, rfl, c1, c2, rfl, q1, q3⟩, by rw [← w1, ← w2]; rfl⟩
  | cell q =>
    intro k M H u h hv hH
    cases q with
    | ref b r p el off len cap =>
      simp only [snapA, Ex_look, Ex_bif, Ex_ofO, Ex_fail, and_false, or_false] at h
      obtain ⟨x, hb, hlay, xs, hxs, h⟩ := h
      have hlay := Lay.eq_of_beq hlay
      obtain ⟨i, c, o, q1, q2, rfl, q3, q4, q5⟩ := hv.cell
      obtain ⟨j, B, f4, f5, f6, f7, f8⟩ := snap_at hH hb
      rw [q1] at f4; cases f4
      refine ⟨_, h, ?_, rfl⟩
      obtain ⟨r1, r2, r3, r4, _⟩ := rowC_cells (G := gl1 X) f7 hlay f8 q2 hxs
      have hl : ((xs.drop off).take len).length = len := by rw [List.length_take, List.length_drop]; omega
      refine VR.mkval (s := .sl el) (cs := [.slice (some ⟨i, o, none⟩) len c]) (.inr ⟨⟨i, o, none⟩, c, by rw [hl], ?_, ?_⟩)
      · rw [hl]
        cases cap with
        | none => exact q5.imp id (fun h => ⟨h.2.1, h.1⟩)
        | some k =>
          obtain ⟨q5, q6⟩ := q5
          subst q5
          refine .inr ⟨?_, q6⟩
          rcases q2 with ⟨n, c', k1, k2, k3, k4, k5⟩ | ⟨k1, k2, k3, k4⟩
          · cases k3; exact k4
          · exact (k4 c rfl).1
      · by_cases h0 : len = 0
        · left
          rw [← List.length_eq_zero_iff, hl, h0]
        · right
          have ho : o = offL r p + off * el.size := by
            rcases q4 with q4 | q4
            · exact q4
            · exfalso
              cases cap with
              | none =>
                rcases q5 with q5 | q5
                · rw [q5] at q4; simp [Ab.capU] at q4
                · omega
              | some k =>
                obtain ⟨q5, q6⟩ := q5
                rcases q2 with ⟨n, c', k1, k2, k3, k4, k5⟩ | ⟨k1, k2, k3, k4⟩
                · cases k3; omega
                · have := k4 k rfl; omega
          have hmul : (off + len) * el.size ≤ xs.length * el.size := Nat.mul_le_mul_right _ r3
          rw [Nat.add_mul] at hmul
          refine ⟨_, row_of (M := ⟨frzAll M.H1, M.mu, M.ln⟩) f5 f6 (o := o) (n := len * el.size) (by rw [ho]; omega), ?_⟩
          have := (r2.drop (fun _ _ h => h.length) off).take (fun _ _ h => h.length) len
          rw [ho, ← List.drop_drop]
          have e2 : ((B.cells.drop (offL r p)).take (xs.length * el.size)).drop (off * el.size) = ((B.cells.drop (offL r p)).drop (off * el.size)).take (xs.length * el.size - off * el.size) := List.drop_take
          rw [e2, List.take_take, Nat.min_eq_left (by omega)] at this
          exact this
    | ptr b r p =>
      simp only [snapA, Ex_look, Ex_bif, Ex_ofO, Ex_fail, and_false, or_false] at h
      obtain ⟨x, hb, hlay, w, hw, h⟩ := h
      have hlay := Lay.eq_of_beq hlay
      obtain ⟨i, q1, q2, rfl⟩ := hv.cell
      cases w with
      | val s y =>
        obtain ⟨j, B, f4, f5, f6, f7, f8⟩ := snap_at hH hb
        rw [q1] at f4; cases f4
        refine ⟨_, h, ?_, rfl⟩
        obtain ⟨t, r1, r2, r3⟩ := getC_cells (G := gl1 X) f7 hlay q2 f8 hw
        obtain ⟨rfl, r3⟩ := r3
        exact .mkfptr (row_of (M := ⟨frzAll M.H1, M.mu, M.ln⟩) f5 f6 r2) r3
      | two _ _ => simp at h
      | cell _ => simp at h
    | fptr s x => exact ⟨_, h, hv.mono (M' := ⟨frzAll M.H1, M.mu, M.ln⟩) (frzAll_le M.H1).ro (fun _ _ h => ⟨h, rfl⟩), rfl⟩
    | nilS => exact ⟨_, h, hv.mono (M' := ⟨frzAll M.H1, M.mu, M.ln⟩) (frzAll_le M.H1).ro (fun _ _ h => ⟨h, rfl⟩), rfl⟩
    | fn f => exact ⟨_, h, hv.mono (M' := ⟨frzAll M.H1, M.mu, M.ln⟩) (frzAll_le M.H1).ro (fun _ _ h => ⟨h, rfl⟩), rfl⟩
theorem snapL_sound : ∀ {l : List SV} {k : List SV → HAct} {M : Lk} {H : Heap} {l1 : List Value}, Ex (snapL l k) H v H' → ArgsR X M l l1 → HR (gl1 X) M H →
    ∃ l2, Ex (k l2) H v H' ∧ ArgsR X ⟨frzAll M.H1, M.mu, M.ln⟩ l2 l1 ∧ ∀ v ∈ l2, noRefS v = true
  | [], k, M, H, l1, h, ha, hH => ⟨[], h, ⟨ha.1, fun j w hw => by simp at hw⟩, by simp⟩
  | .av b :: l, k, M, H, l1, h, ha, hH => by
    simp only [snapL] at h
    cases l1 with
    | nil => exact absurd ha.1 (by simp)
    | cons u l1 =>
      obtain ⟨u', h1, h2⟩ := ha.2 0 _ rfl
      simp at h1; subst h1
      obtain ⟨b', g1, g3, g6⟩ := snapA_sound h h2 hH
      have ha' : ArgsR X M l l1 := ⟨by simpa using ha.1, fun j w hw => by
        obtain ⟨u', q1, q2⟩ := ha.2 (j + 1) w (by simpa using hw)
        exact ⟨u', by simpa using q1, q2⟩⟩
      obtain ⟨l2, k1, k3, k6⟩ := snapL_sound g1 ha' hH
      refine ⟨.av b' :: l2, k1, ⟨by simp [k3.1], fun j w hw => ?_⟩, fun w hw => ?_⟩
      · cases j with
        | zero => simp at hw; subst hw; exact ⟨u, by simp, g3⟩
        | succ j => simpa using k3.2 j w (by simpa using hw)
      · rcases List.mem_cons.1 hw with rfl | hw
        · exact g6
        · exact k6 w hw
  | .tup _ :: l, k, M, H, l1, h, ha, hH => by simp [snapL] at h
end

theorem trel_plain {ρ ρ' : Nat → Ab.Loc} {n n' : Nat} {v v' : Value} (hp : Ab.plainC v = true) (h : TRel ρ' n' v v') : TRel ρ n v v' := by
  cases v with
  | pointer o => cases o with
    | none => exact h
    | some a => simp [Ab.plainC] at hp
  | slice o l c => cases o with
    | none => exact h
    | some a => simp [Ab.plainC] at hp
  | agg _ => simp [Ab.plainC] at hp
  | tuple _ => simp [Ab.plainC] at hp
  | _ => exact h
theorem trel_flat {ρ ρ' : Nat → Ab.Loc} {n n' : Nat} {s : Sh} {x : s.T} {v' : Value} (hf : s.flat = true) (h : TRel ρ' n' (flatV s x) v') : TRel ρ n (flatV s x) v' := by
  have hp := plain_cells (x := x) hf
  unfold flatV mkV at *
  cases ha : s.isAgg with
  | true =>
    rw [ha] at h
    obtain ⟨cs', e, hl⟩ := h
    refine ⟨cs', e, hl.1, fun j v hj => ?_⟩
    obtain ⟨v2, a, r⟩ := hl.2 j v hj
    have hv := hp v (List.mem_of_getElem? hj)
    have := CRel.plain_eq hv r
    subst this
    exact ⟨_, a, CRel.plain hv⟩
  | false =>
    rw [ha] at h
    generalize cellsOf s x = cs at *
    cases cs with
    | nil =>
      obtain ⟨vs, e, hl⟩ := h
      exact ⟨vs, e, hl.1, fun j v hj => by simp at hj⟩
    | cons v cs => exact trel_plain (hp v List.mem_cons_self) h
def RT.flat : RT → Bool
  | .ret (.av (.val s _)) => s.flat
  | .ret _ => false
  | .alt _ t e => t.flat && e.flat
  | .pre _ k => k.flat
  | .dem _ k => k.flat
theorem RT.flat_val {t : RT} (h : t.flat = true) : ∃ s x, t.val = .av (.val s x) ∧ s.flat = true := by
  induction t with
  | ret v =>
    cases v with
    | av a => cases a with
      | val s x => exact ⟨s, x, rfl, h⟩
      | two _ _ => cases h
      | cell _ => cases h
    | tup _ => cases h
  | alt c t e ih1 ih2 =>
    have k : (t.flat && e.flat) = true := h
    rw [Bool.and_eq_true] at k
    cases c with
    | true => exact ih1 k.1
    | false => exact ih2 k.2
  | pre p k ih => exact ih h
  | dem b k ih => exact ih h
theorem conS_ok {P : Program} {gl : Nat → Option ((s : Sh) × s.T)} {f : FuncId} {as : List Ar} {F : HA as → RT} (h : ∀ xs : HA as, wfHA as xs → (F xs).cond → PC (bx P gl) f (argsA as xs) (F xs).val) (hr : ∀ xs, (F xs).flat = true) : COK P gl f (conS as F) := by
  intro C ρ M H w args l1 l' nid v H' hex ha hl hs hH
  obtain ⟨l2, k1, k3, k6⟩ := snapL_sound hex ha hH
  cases hg : parseA as l2 with
  | none => rw [hg] at k1; simp at k1
  | some xs =>
    rw [hg] at k1
    have k1 := Ex_pre.1 (RT.act_val k1)
    obtain ⟨hp, k1⟩ := k1
    simp only [Ex_ret] at k1
    obtain ⟨rfl, rfl⟩ := k1
    have ha0 : ArgsR (bx P gl) (lk0 (frzAll M.H1)) l2 l1 := ⟨k3.1, fun j u hu => by
      obtain ⟨u1, q1, q2⟩ := k3.2 j u hu
      exact ⟨u1, q1, noRef_svr (M := ⟨frzAll M.H1, M.mu, M.ln⟩) (M' := lk0 (frzAll M.H1)) (fun _ _ h _ => h) (k6 u (List.mem_of_getElem? hu)) q2⟩⟩
    have ha' := argsA_parse hg ha0
    have hpc := h xs (argsA_wf ha') hp
    obtain ⟨s, x, er, hf⟩ := RT.flat_val (hr xs)
    have hs' : Sim (x1 (bx P gl)) ⟨w, fun _ => False, 0, ρ⟩ ρ (frzAll M.H1) w := {
      blk := fun i b hb => by
        obtain ⟨b0, g1, rfl⟩ := frzAll_of hb
        obtain ⟨cs, t, fr, q1, q2, q3⟩ := hs.blk i b0 g1
        exact ⟨cs, t, fr, q1, (fun h => by cases h), fun j v hj => by rw [frzAll_len]; exact q3 j v hj⟩
      own := fun i b hb ho => by obtain ⟨b0, g1, rfl⟩ := frzAll_of hb; cases ho
      far := fun i j bi bj hb _ ho => by obtain ⟨b0, g1, rfl⟩ := frzAll_of hb; cases ho
      os := rfl, tape := rfl, output := rfl, size := Nat.le_refl _, keep := fun _ _ _ => rfl, agree := fun _ _ => rfl, len := Nat.zero_le _
      glob := fun g l hgl => by
        obtain ⟨a1, a2, cs, t, fr, a3, a4⟩ := hs.glob g l hgl
        have hlt : g < C.w.heap.size := (Array.getElem?_eq_some_iff.1 a3).1
        exact ⟨fun h => h, a2, cs, t, fr, (hs.keep g hlt a1).trans a3, a4⟩ }
    have key := hpc.2 ⟨w, fun _ => False, 0, ρ⟩ ρ (frzAll M.H1) w l1 l' ha' (by rw [frzAll_len]; exact hl) hs'
    have fin : ∀ v' w', (∃ v1 ρ' H1', SVR (gl1 (bx P gl)) (lk0 H1') (F xs).val v1 ∧ TRel ρ' H1'.length v1 v' ∧ (∀ i, i < (frzAll M.H1).length → ρ' i = ρ i) ∧ Sim (x1 (bx P gl)) ⟨w, fun _ => False, 0, ρ⟩ ρ' H1' w' ∧ (frzAll M.H1).length ≤ H1'.length ∧ ∀ (i : Nat) b, (frzAll M.H1)[i]? = some (some b) → H1'[i]? = some (some b)) →
        ∃ u v1 ρ' M', some (F xs).val = some u ∧ SVR (gl1 (bx P gl)) M' u v1 ∧ TRel ρ' M'.H1.length v1 v' ∧ (∀ i, i < M.H1.length → ρ' i = ρ i) ∧ Sim (x1 (bx P gl)) C ρ' M'.H1 w' ∧ HR (gl1 (bx P gl)) M' H' ∧ Ext M H' M' H' := by
      rintro v' w' ⟨v1, ρ', H1', q1, q2, q3, q4, q5, q6⟩
      rw [er] at q1 ⊢
      have q1 : VR (gl1 (bx P gl)) (lk0 H1') (.val s x) v1 := q1
      obtain ⟨cs, z1, z2⟩ := q1.val
      have ev := VR.flat hf q1
      subst ev
      have hk : ∀ b, b < w.heap.size → w'.heap[b]? = w.heap[b]? := fun b hb => q4.keep b hb (fun h => h)
      refine ⟨_, _, ρ, M, rfl, VR.mkflat hf z1.wf, trel_flat hf q2, fun _ _ => rfl, ?_, hH, .refl⟩
      exact {
        blk := fun i b hb => by
          obtain ⟨cs, t, fr, q1, q2, q3⟩ := hs.blk i b hb
          exact ⟨cs, t, fr, by rw [hk _ (Array.getElem?_eq_some_iff.1 q1).1]; exact q1, q2, q3⟩
        own := hs.own, far := hs.far
        os := q4.os.trans hs.os, tape := q4.tape.trans hs.tape, output := q4.output.trans hs.output
        size := Nat.le_trans hs.size q4.size
        keep := fun b hb hn => (hk b (Nat.lt_of_lt_of_le hb hs.size)).trans (hs.keep b hb hn)
        agree := hs.agree, len := hs.len, glob := hs.glob }
    rcases key with ⟨fn, c1, c2, c3, c4⟩ | ⟨v', w', c1, c2⟩
    · exact .inl ⟨fn, c1, c2, c3, c4.mono fun en w' ⟨v', e1, e2⟩ => ⟨v', e1, fin v' w' e2⟩⟩
    · exact .inr ⟨v', w', c1, fin v' w' c2⟩
end Go.Ty
