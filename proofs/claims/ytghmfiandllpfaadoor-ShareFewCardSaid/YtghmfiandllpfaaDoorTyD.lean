import Derived.Test.YtghmfiandllpfaaDoorTyC
namespace Go.Ty
open Go.Ab (TRel VRel LRel CRel ERel Sim)
def snapA : AV → (AV → HAct) → HAct
  | .cell (.ref b r p e off len _), k => .look b fun x => bif x.c.lay.beq r then
      .ofO (rowC x.c p e) fun xs => k (.val (.sl e) ((xs.drop off).take len)) else .fail
  | .cell (.ptr b r p), k => .look b fun x => bif x.c.lay.beq r then
      .ofO (getC x.c p) fun v => match v with
        | .val s y => k (.cell (.fptr s y))
        | _ => .fail
      else .fail
  | .two a b, k => snapA a fun a => snapA b fun b => k (.two a b)
  | v, k => k v
def snapL : List SV → (List SV → HAct) → HAct
  | [], k => k []
  | .av v :: r, k => snapA v fun v => snapL r fun l => k (.av v :: l)
  | .tup _ :: _, _ => .fail
def conS (as : List Ar) (F : HA as → RT) : ConT := fun args _ => snapL args fun args => match parseA as args with
  | some xs => (F xs).act
  | none => .fail
def frzAll (A : Ab.Heap) : Ab.Heap := A.map fun o => o.map fun b => { b with own := false }
theorem frzAll_len (A : Ab.Heap) : (frzAll A).length = A.length := List.length_map _
theorem frzAll_at {A : Ab.Heap} {i : Nat} {b : Ab.Blk} (h : A[i]? = some (some b)) : (frzAll A)[i]? = some (some { b with own := false }) := by
  unfold frzAll; rw [List.getElem?_map, h]; rfl
theorem frzAll_of {A : Ab.Heap} {i : Nat} {b : Ab.Blk} (h : (frzAll A)[i]? = some (some b)) : ∃ b0, A[i]? = some (some b0) ∧ b = { b0 with own := false } := by
  unfold frzAll at h
  rw [List.getElem?_map] at h
  cases ho : A[i]? with
  | none => rw [ho] at h; cases h
  | some o =>
    cases o with
    | none => rw [ho] at h; cases h
    | some b0 =>
      rw [ho] at h
      injection h with h
      injection h with h
      exact ⟨b0, rfl, h.symm⟩
theorem frzAll_le (A : Ab.Heap) : FrzLe A (frzAll A) := by
  refine ⟨frzAll_len A, fun i => ?_⟩
  cases ho : A[i]? with
  | none => left; unfold frzAll; rw [List.getElem?_map, ho]; rfl
  | some o =>
    cases o with
    | none => left; unfold frzAll; rw [List.getElem?_map, ho]; rfl
    | some b => right; exact ⟨b, rfl, frzAll_at ho⟩
theorem snap_at {G : Nat → Option (List Value)} {M : Lk} {H : Heap} (hH : HR G M H) {b : Nat} {x : Blk} (hb : H b = .live x) :
    ∃ i B, M.mu b = some i ∧ (frzAll M.H1)[i]? = some (some B) ∧ B.own = false ∧ ContR G ⟨frzAll M.H1, M.mu, M.ln⟩ x.c B ∧ ∀ s xs, x.c = .row s xs → xs.length = M.ln b := by
  obtain ⟨i, B, h1, h2, h3, h4, h5⟩ := hH.live b x hb
  refine ⟨i, { B with own := false }, h1, frzAll_at h2, rfl, ?_, h5⟩
  have := h4.mono (M' := ⟨frzAll M.H1, M.mu, M.ln⟩) (frzAll_le M.H1).ro (fun _ _ h => ⟨h, rfl⟩)
  cases hc : x.c <;> rw [hc] at this <;> exact this
section
variable {X : Cx} {v : Option SV} {H' : Heap}
theorem snapA_sound : ∀ {a : AV} {k : AV → HAct} {M : Lk} {H : Heap} {u : Value}, Ex (snapA a k) H v H' → VR (gl1 X) M a u → HR (gl1 X) M H →
    ∃ a', Ex (k a') H v H' ∧ VR (gl1 X) ⟨frzAll M.H1, M.mu, M.ln⟩ a' u ∧ noRef a' = true := by
  intro a
  induction a with
  | val s x => intro k M H u h hv _; exact ⟨_, h, hv.mono (M' := ⟨frzAll M.H1, M.mu, M.ln⟩) (frzAll_le M.H1).ro (fun _ _ h => ⟨h, rfl⟩), rfl⟩
  | two a b iha ihb =>
    intro k M H u h hv hH
    simp only [snapA] at h
    obtain ⟨s0, cs, ⟨s1, s2, rfl, c, d, rfl, h1, h2⟩, rfl⟩ := hv
    obtain ⟨a', g1, g3, g6⟩ := iha h (.of h1) hH
    obtain ⟨b', k1, k3, k6⟩ := ihb g1 (.of h2) hH
    have e1 := (CellsA.vcells h1)
    have e2 := (CellsA.vcells h2)
    refine ⟨_, k1, ?_, by simp only [noRef, g6, k6, Bool.and_self]⟩
    obtain ⟨t1, c1, q1, q2⟩ := g3
    obtain ⟨t2, c2, q3, q4⟩ := k3
    have w1 : c = c1 := by rw [← e1, q2]; exact q1.vcells
    have w2 : d = c2 := by rw [← e2, q4]; exact q3.vcells
    exact ⟨.pair t1 t2, c1 ++ c2, ⟨t1, t2, rfl, c1, c2, rfl, q1, q3⟩, by rw [← w1, ← w2]; rfl⟩
  | cell q =>
    intro k M H u h hv hH
    cases q with
    | ref b r p el off len cap =>
      simp only [snapA, Ex_look, Ex_bif, Ex_ofO, Ex_fail, and_false, or_false] at h
      obtain ⟨x, hb, hlay, xs, hxs, h⟩ := h
      have hlay := Lay.eq_of_beq hlay
      obtain ⟨i, c, o, q1, q2, rfl, q3, q4, q5⟩ := hv.cell
      obtain ⟨j, B, f4, f5, f6, f7, f8⟩ := snap_at hH hb
      rw [q1] at f4; cases f4
      refine ⟨_, h, ?_, rfl⟩
      obtain ⟨r1, r2, r3, r4, _⟩ := rowC_cells (G := gl1 X) f7 hlay f8 q2 hxs
      have hl : ((xs.drop off).take len).length = len := by rw [List.length_take, List.length_drop]; omega
      refine VR.mkval (s := .sl el) (cs := [.slice (some ⟨i, o, none⟩) len c]) (.inr ⟨⟨i, o, none⟩, c, by rw [hl], ?_, ?_⟩)
      · rw [hl]
        cases cap with
        | none => exact q5.imp id (fun h => ⟨h.2.1, h.1⟩)
        | some k =>
          obtain ⟨q5, q6⟩ := q5
          subst q5
          refine .inr ⟨?_, q6⟩
          rcases q2 with ⟨n, c', k1, k2, k3, k4, k5⟩ | ⟨k1, k2, k3, k4⟩
          · cases k3; exact k4
          · exact (k4 c rfl).1
      · by_cases h0 : len = 0
        · left
          rw [← List.length_eq_zero_iff, hl, h0]
        · right
          have ho : o = offL r p + off * el.size := by
            rcases q4 with q4 | q4
            · exact q4
            · exfalso
              cases cap with
              | none =>
                rcases q5 with q5 | q5
                · rw [q5] at q4; simp [Ab.capU] at q4
                · omega
              | some k =>
                obtain ⟨q5, q6⟩ := q5
                rcases q2 with ⟨n, c', k1, k2, k3, k4, k5⟩ | ⟨k1, k2, k3, k4⟩
                · cases k3; omega
                · have := k4 k rfl; omega
          have hmul : (off + len) * el.size ≤ xs.length * el.size := Nat.mul_le_mul_right _ r3
          rw [Nat.add_mul] at hmul
          refine ⟨_, row_of (M := ⟨frzAll M.H1, M.mu, M.ln⟩) f5 f6 (o := o) (n := len * el.size) (by rw [ho]; omega), ?_⟩
          have := (r2.drop (fun _ _ h => h.length) off).take (fun _ _ h => h.length) len
          rw [ho, ← List.drop_drop]
          have e2 : ((B.cells.drop (offL r p)).take (xs.length * el.size)).drop (off * el.size) = ((B.cells.drop (offL r p)).drop (off * el.size)).take (xs.length * el.size - off * el.size) := List.drop_take
          rw [e2, List.take_take, Nat.min_eq_left (by omega)] at this
          exact this
    | ptr b r p =>
      simp only [snapA, Ex_look, Ex_bif, Ex_ofO, Ex_fail, and_false, or_false] at h
      obtain ⟨x, hb, hlay, w, hw, h⟩ := h
      have hlay := Lay.eq_of_beq hlay
      obtain ⟨i, q1, q2, rfl⟩ := hv.cell
      cases w with
      | val s y =>
        obtain ⟨j, B, f4, f5, f6, f7, f8⟩ := snap_at hH hb
        rw [q1] at f4; cases f4
        refine ⟨_, h, ?_, rfl⟩
        obtain ⟨t, r1, r2, r3⟩ := getC_cells (G := gl1 X) f7 hlay q2 f8 hw
        obtain ⟨rfl, r3⟩ := r3
        exact .mkfptr (row_of (M := ⟨frzAll M.H1, M.mu, M.ln⟩) f5 f6 r2) r3
      | two _ _ => simp at h
      | cell _ => simp at h
    | fptr s x => exact ⟨_, h, hv.mono (M' := ⟨frzAll M.H1, M.mu, M.ln⟩) (frzAll_le M.H1).ro (fun _ _ h => ⟨h, rfl⟩), rfl⟩
    | emp => exact ⟨_, h, hv.mono (M' := ⟨frzAll M.H1, M.mu, M.ln⟩) (frzAll_le M.H1).ro (fun _ _ h => ⟨h, rfl⟩), rfl⟩
    | z0 => exact ⟨_, h, hv.mono (M' := ⟨frzAll M.H1, M.mu, M.ln⟩) (frzAll_le M.H1).ro (fun _ _ h => ⟨h, rfl⟩), rfl⟩
    | nilS => exact ⟨_, h, hv.mono (M' := ⟨frzAll M.H1, M.mu, M.ln⟩) (frzAll_le M.H1).ro (fun _ _ h => ⟨h, rfl⟩), rfl⟩
    | fn f => exact ⟨_, h, hv.mono (M' := ⟨frzAll M.H1, M.mu, M.ln⟩) (frzAll_le M.H1).ro (fun _ _ h => ⟨h, rfl⟩), rfl⟩
    | clo f cs => exact ⟨_, h, hv.mono (M' := ⟨frzAll M.H1, M.mu, M.ln⟩) (frzAll_le M.H1).ro (fun _ _ h => ⟨h, rfl⟩), rfl⟩
theorem snapL_sound : ∀ {l : List SV} {k : List SV → HAct} {M : Lk} {H : Heap} {l1 : List Value}, Ex (snapL l k) H v H' → ArgsR X M l l1 → HR (gl1 X) M H →
    ∃ l2, Ex (k l2) H v H' ∧ ArgsR X ⟨frzAll M.H1, M.mu, M.ln⟩ l2 l1 ∧ ∀ v ∈ l2, noRefS v = true
  | [], k, M, H, l1, h, ha, hH => ⟨[], h, ⟨ha.1, fun j w hw => by simp at hw⟩, by simp⟩
  | .av b :: l, k, M, H, l1, h, ha, hH => by
    simp only [snapL] at h
    cases l1 with
    | nil => exact absurd ha.1 (by simp)
    | cons u l1 =>
      obtain ⟨u', h1, h2⟩ := ha.2 0 _ rfl
      simp at h1; subst h1
      obtain ⟨b', g1, g3, g6⟩ := snapA_sound h h2 hH
      have ha' : ArgsR X M l l1 := ⟨by simpa using ha.1, fun j w hw => by
        obtain ⟨u', q1, q2⟩ := ha.2 (j + 1) w (by simpa using hw)
        exact ⟨u', by simpa using q1, q2⟩⟩
      obtain ⟨l2, k1, k3, k6⟩ := snapL_sound g1 ha' hH
      refine ⟨.av b' :: l2, k1, ⟨by simp [k3.1], fun j w hw => ?_⟩, fun w hw => ?_⟩
      · cases j with
        | zero => simp at hw; subst hw; exact ⟨u, by simp, g3⟩
        | succ j => simpa using k3.2 j w (by simpa using hw)
      · rcases List.mem_cons.1 hw with rfl | hw
        · exact g6
        · exact k6 w hw
  | .tup _ :: l, k, M, H, l1, h, ha, hH => by simp [snapL] at h
end
theorem trel_plain {ρ ρ' : Nat → Ab.Loc} {n n' : Nat} {v v' : Value} (hp : Ab.plainC v = true) (h : TRel ρ' n' v v') : TRel ρ n v v' := by
  cases v with
  | pointer o => cases o with
    | none => exact h
    | some a => simp [Ab.plainC] at hp
  | slice o l c => cases o with
    | none => exact h
    | some a => simp [Ab.plainC] at hp
  | agg _ => simp [Ab.plainC] at hp
  | tuple _ => simp [Ab.plainC] at hp
  | func fn fs cs =>
    have := CRel.plain_eq hp h
    subst this
    exact CRel.plain hp
  | _ => exact h
theorem trel_flat {ρ ρ' : Nat → Ab.Loc} {n n' : Nat} {s : Sh} {x : s.T} {v' : Value} (hf : s.flat = true) (h : TRel ρ' n' (flatV s x) v') : TRel ρ n (flatV s x) v' := by
  have hp := plain_cells (x := x) hf
  unfold flatV mkV at *
  cases ha : s.isAgg with
  | true =>
    rw [ha] at h
    obtain ⟨cs', e, hl⟩ := h
    refine ⟨cs', e, hl.1, fun j v hj => ?_⟩
    obtain ⟨v2, a, r⟩ := hl.2 j v hj
    have hv := hp v (List.mem_of_getElem? hj)
    have := CRel.plain_eq hv r
    subst this
    exact ⟨_, a, CRel.plain hv⟩
  | false =>
    rw [ha] at h
    generalize cellsOf s x = cs at *
    cases cs with
    | nil =>
      obtain ⟨vs, e, hl⟩ := h
      exact ⟨vs, e, hl.1, fun j v hj => by simp at hj⟩
    | cons v cs => exact trel_plain (hp v List.mem_cons_self) h
def RT.flat : RT → Bool
  | .ret (.av (.val s _)) => s.flat
  | .ret _ => false
  | .alt _ t e => t.flat && e.flat
  | .pre _ k => k.flat
  | .dem _ k => k.flat
theorem RT.flat_val {t : RT} (h : t.flat = true) : ∃ s x, t.val = .av (.val s x) ∧ s.flat = true := by
  induction t with
  | ret v =>
    cases v with
    | av a => cases a with
      | val s x => exact ⟨s, x, rfl, h⟩
      | two _ _ => cases h
      | cell _ => cases h
    | tup _ => cases h
  | alt c t e ih1 ih2 =>
    have k : (t.flat && e.flat) = true := h
    rw [Bool.and_eq_true] at k
    cases c with
    | true => exact ih1 k.1
    | false => exact ih2 k.2
  | pre p k ih => exact ih h
  | dem b k ih => exact ih h
theorem conS_ok {P : Program} {gl : Nat → Option ((s : Sh) × s.T)} {f : FuncId} {as : List Ar} {F : HA as → RT} (h : ∀ xs : HA as, wfHA as xs → (F xs).cond → PC (bx P gl) f (argsA as xs) (F xs).val) (hr : ∀ xs, (F xs).flat = true) : COK P gl f (conS as F) := by
  intro C ρ M H w args l1 l' nid v H' hex ha hl hs hH
  obtain ⟨l2, k1, k3, k6⟩ := snapL_sound hex ha hH
  cases hg : parseA as l2 with
  | none => rw [hg] at k1; simp at k1
  | some xs =>
    rw [hg] at k1
    have k1 := Ex_pre.1 (RT.act_val k1)
    obtain ⟨hp, k1⟩ := k1
    simp only [Ex_ret] at k1
    obtain ⟨rfl, rfl⟩ := k1
    have ha0 : ArgsR (bx P gl) (lk0 (frzAll M.H1)) l2 l1 := ⟨k3.1, fun j u hu => by
      obtain ⟨u1, q1, q2⟩ := k3.2 j u hu
      exact ⟨u1, q1, noRef_svr (M := ⟨frzAll M.H1, M.mu, M.ln⟩) (M' := lk0 (frzAll M.H1)) (fun _ _ h _ => h) (k6 u (List.mem_of_getElem? hu)) q2⟩⟩
    have ha' := argsA_parse hg ha0
    have hpc := h xs (argsA_wf ha') hp
    obtain ⟨s, x, er, hf⟩ := RT.flat_val (hr xs)
    have hs' : Sim (x1 (bx P gl)) ⟨w, fun _ => False, 0, ρ⟩ ρ (frzAll M.H1) w := {
      blk := fun i b hb => by
        obtain ⟨b0, g1, rfl⟩ := frzAll_of hb
        obtain ⟨cs, t, fr, q1, q2, q3⟩ := hs.blk i b0 g1
        exact ⟨cs, t, fr, q1, (fun h => by cases h), fun j v hj => by rw [frzAll_len]; exact q3 j v hj⟩
      own := fun i b hb ho => by obtain ⟨b0, g1, rfl⟩ := frzAll_of hb; cases ho
      far := fun i j bi bj hb _ ho => by obtain ⟨b0, g1, rfl⟩ := frzAll_of hb; cases ho
      os := rfl, tape := rfl, output := rfl, size := Nat.le_refl _, keep := fun _ _ _ => rfl, agree := fun _ _ => rfl, len := Nat.zero_le _
      glob := fun g l hgl => by
        obtain ⟨a1, a2, cs, t, fr, a3, a4⟩ := hs.glob g l hgl
        have hlt : g < C.w.heap.size := (Array.getElem?_eq_some_iff.1 a3).1
        exact ⟨fun h => h, a2, cs, t, fr, (hs.keep g hlt a1).trans a3, a4⟩ }
    have key := hpc.2 ⟨w, fun _ => False, 0, ρ⟩ ρ (frzAll M.H1) w l1 l' ha' (by rw [frzAll_len]; exact hl) hs'
    have fin : ∀ v' w', (∃ v1 ρ' H1', SVR (gl1 (bx P gl)) (lk0 H1') (F xs).val v1 ∧ TRel ρ' H1'.length v1 v' ∧ (∀ i, i < (frzAll M.H1).length → ρ' i = ρ i) ∧ Sim (x1 (bx P gl)) ⟨w, fun _ => False, 0, ρ⟩ ρ' H1' w' ∧ (frzAll M.H1).length ≤ H1'.length ∧ ∀ (i : Nat) b, (frzAll M.H1)[i]? = some (some b) → H1'[i]? = some (some b)) →
        ∃ u v1 ρ' M', some (F xs).val = some u ∧ SVR (gl1 (bx P gl)) M' u v1 ∧ TRel ρ' M'.H1.length v1 v' ∧ (∀ i, i < M.H1.length → ρ' i = ρ i) ∧ Sim (x1 (bx P gl)) C ρ' M'.H1 w' ∧ HR (gl1 (bx P gl)) M' H' ∧ Ext M H' M' H' := by
      rintro v' w' ⟨v1, ρ', H1', q1, q2, q3, q4, q5, q6⟩
      rw [er] at q1 ⊢
      have q1 : VR (gl1 (bx P gl)) (lk0 H1') (.val s x) v1 := q1
      obtain ⟨cs, z1, z2⟩ := q1.val
      have ev := VR.flat hf q1
      subst ev
      have hk : ∀ b, b < w.heap.size → w'.heap[b]? = w.heap[b]? := fun b hb => q4.keep b hb (fun h => h)
      refine ⟨_, _, ρ, M, rfl, VR.mkflat hf z1.wf, trel_flat hf q2, fun _ _ => rfl, ?_, hH, .refl⟩
      exact {
        blk := fun i b hb => by
          obtain ⟨cs, t, fr, q1, q2, q3⟩ := hs.blk i b hb
          exact ⟨cs, t, fr, by rw [hk _ (Array.getElem?_eq_some_iff.1 q1).1]; exact q1, q2, q3⟩
        own := hs.own, far := hs.far
        os := q4.os.trans hs.os, tape := q4.tape.trans hs.tape, output := q4.output.trans hs.output
        size := Nat.le_trans hs.size q4.size
        keep := fun b hb hn => (hk b (Nat.lt_of_lt_of_le hb hs.size)).trans (hs.keep b hb hn)
        agree := hs.agree, len := hs.len, glob := hs.glob }
    rcases key with ⟨fn, c1, c2, c3, c4⟩ | ⟨v', w', c1, c2⟩
    · exact .inl ⟨fn, c1, c2, c3, c4.mono fun en w' ⟨v', e1, e2⟩ => ⟨v', e1, fin v' w' e2⟩⟩
    · exact .inr ⟨v', w', c1, fin v' w' c2⟩
end Go.Ty
namespace Go.Ty
open Go.Ab (TRel VRel LRel CRel ERel Sim)
theorem allC_flat {G : Nat → Option (List Value)} {A B : Ab.Heap} {e : Sh} (hf : e.flat = true) : ∀ {ys : List e.T} {cs : List Value}, AllC (Cells G A e) ys cs → AllC (Cells G B e) ys cs ∧ ∀ v ∈ cs, Ab.plainC v = true
  | [], cs, h => by
    have h : cs = [] := h
    subst h
    exact ⟨rfl, fun v hv => by cases hv⟩
  | y :: ys, cs, ⟨c, d, e1, h1, h2⟩ => by
    obtain ⟨g1, g2⟩ := allC_flat hf h2
    have ec := cellsOf_eq hf h1
    refine ⟨⟨c, d, e1, by rw [ec]; exact cells_of hf h1.wf, g1⟩, fun v hv => ?_⟩
    rw [e1] at hv
    rcases List.mem_append.1 hv with hv | hv
    · rw [ec] at hv; exact plain_cells hf v hv
    · exact g2 v hv
theorem sim_snap {X : Cx} {C : Ab.Ctx} {ρ : Nat → Ab.Loc} {H1 : Ab.Heap} {w : World} (hs : Sim (x1 X) C ρ H1 w) : Sim (x1 X) ⟨w, fun _ => False, 0, ρ⟩ ρ (frzAll H1) w := {
  blk := fun i b hb => by
    obtain ⟨b0, g1, rfl⟩ := frzAll_of hb
    obtain ⟨cs, t, fr, q1, q2, q3⟩ := hs.blk i b0 g1
    exact ⟨cs, t, fr, q1, (fun h => by cases h), fun j v hj => by rw [frzAll_len]; exact q3 j v hj⟩
  own := fun i b hb ho => by obtain ⟨b0, g1, rfl⟩ := frzAll_of hb; cases ho
  far := fun i j bi bj hb _ ho => by obtain ⟨b0, g1, rfl⟩ := frzAll_of hb; cases ho
  os := rfl, tape := rfl, output := rfl, size := Nat.le_refl _, keep := fun _ _ _ => rfl, agree := fun _ _ => rfl, len := Nat.zero_le _
  glob := fun g l hgl => by
    obtain ⟨a1, a2, cs, t, fr, a3, a4⟩ := hs.glob g l hgl
    have hlt : g < C.w.heap.size := (Array.getElem?_eq_some_iff.1 a3).1
    exact ⟨fun h => h, a2, cs, t, fr, (hs.keep g hlt a1).trans a3, a4⟩ }
theorem sim_adopt {X : Cx} {C : Ab.Ctx} {ρ ρ' : Nat → Ab.Loc} {H1 H1' : Ab.Heap} {w w' : World} (hs : Sim (x1 X) C ρ H1 w) (q4 : Sim (x1 X) ⟨w, fun _ => False, 0, ρ⟩ ρ' H1' w') {i : Nat} {B : Ab.Blk} (b1 : H1'[i]? = some (some B)) (b2 : B.own = true) (hp : ∀ v ∈ B.cells, Ab.plainC v = true) :
    Sim (x1 X) C (Ab.upd ρ H1.length (ρ' i)) (H1 ++ [some B]) w' := by
  have hk : ∀ b, b < w.heap.size → w'.heap[b]? = w.heap[b]? := fun b hb => q4.keep b hb (fun h => h)
  have hnew : w.heap.size ≤ (ρ' i).block := (q4.own i B b1 b2).elim (fun h => h.elim) id
  have at_ : ∀ (j : Nat) b, (H1 ++ [some B])[j]? = some (some b) → (j < H1.length ∧ H1[j]? = some (some b) ∧ Ab.upd ρ H1.length (ρ' i) j = ρ j) ∨ (j = H1.length ∧ b = B ∧ Ab.upd ρ H1.length (ρ' i) j = ρ' i) := by
    intro j b hj
    by_cases c : j < H1.length
    · rw [List.getElem?_append_left c] at hj
      exact .inl ⟨c, hj, Ab.upd_lt j c⟩
    · rw [List.getElem?_append_right (by omega)] at hj
      have e : j - H1.length = 0 := by
        have := (List.getElem?_eq_some_iff.1 hj).1
        simp at this; omega
      rw [e] at hj
      have hj : some (some B) = some (some b) := hj
      injection hj with hj
      injection hj with hj
      have ej : j = H1.length := by omega
      subst ej
      exact .inr ⟨rfl, hj.symm, Ab.upd_same⟩
  have old : ∀ (j : Nat) b, H1[j]? = some (some b) → (ρ j).block < w.heap.size := fun j b hj => by
    obtain ⟨cs, t, fr, k1, _⟩ := hs.blk j b hj
    exact (Array.getElem?_eq_some_iff.1 k1).1
  exact {
    blk := fun j b hj => by
      rcases at_ j b hj with ⟨c, g1, g2⟩ | ⟨c, rfl, g2⟩
      · obtain ⟨cs, t, fr, k1, k2, k3⟩ := hs.blk j b g1
        rw [g2]
        exact ⟨cs, t, fr, by rw [hk _ (old j b g1)]; exact k1, k2, fun k v hv => by
          obtain ⟨v', r1, r2⟩ := k3 k v hv
          exact ⟨v', r1, r2.mono Ab.upd_lt (by rw [List.length_append]; exact Nat.le_succ _)⟩⟩
      · obtain ⟨cs, t, fr, k1, k2, k3⟩ := q4.blk i b b1
        rw [g2]
        exact ⟨cs, t, fr, k1, k2, fun k v hv => by
          obtain ⟨v', r1, r2⟩ := k3 k v hv
          have hv := hp v (List.mem_of_getElem? hv)
          have e := CRel.plain_eq hv r2
          subst e
          exact ⟨_, r1, CRel.plain hv⟩⟩
    own := fun j b hj ho => by
      rcases at_ j b hj with ⟨c, g1, g2⟩ | ⟨c, rfl, g2⟩
      · rw [g2]; exact hs.own j b g1 ho
      · rw [g2]; exact .inr (Nat.le_trans hs.size hnew)
    far := fun j k bj bk hj hk2 ho hne => by
      rcases at_ j bj hj with ⟨c, g1, g2⟩ | ⟨c, rfl, g2⟩
      · rcases at_ k bk hk2 with ⟨c', g1', g2'⟩ | ⟨c', rfl, g2'⟩
        · rw [g2, g2']; exact hs.far j k bj bk g1 g1' ho hne
        · have := old j bj g1
          rw [g2, g2']; omega
      · rcases at_ k bk hk2 with ⟨c', g1', g2'⟩ | ⟨c', rfl, g2'⟩
        · have := old k bk g1'
          rw [g2, g2']; omega
        · exact absurd (c.trans c'.symm) hne
    os := q4.os.trans hs.os, tape := q4.tape.trans hs.tape, output := q4.output.trans hs.output
    size := Nat.le_trans hs.size q4.size
    keep := fun b hb hn => (hk b (Nat.lt_of_lt_of_le hb hs.size)).trans (hs.keep b hb hn)
    agree := fun j hj => (Ab.upd_lt j (Nat.lt_of_lt_of_le hj hs.len)).trans (hs.agree j hj)
    len := Nat.le_trans hs.len (by rw [List.length_append]; exact Nat.le_succ _)
    glob := hs.glob }
theorem PCW_snap {X : Cx} {f : FuncId} {args : List SV} {e : Sh} {ys : List e.T} (h : PCW X f args 0 [] (some ⟨e, ys⟩)) (hf : e.flat = true) {C : Ab.Ctx} {ρ : Nat → Ab.Loc} {H1 : Ab.Heap} {w : World} {l1 l' : List Value}
    (ha : ArgsR X (lk0 (frzAll H1)) args l1) (hl : LRel (TRel ρ H1.length) l1 l') (hs : Sim (x1 X) C ρ H1 w) :
    CallR X f l' w fun v' w' => ∃ us u ρ' H1' i, ListR X (lk0 H1') [] us ∧ OwnR X H1' i (some ⟨e, ys⟩) u ∧ TRel ρ' H1'.length (oneV (insA 0 us u)) v' ∧ (∀ j, j < H1.length → ρ' j = ρ j) ∧ Sim (x1 X) C ρ' H1' w' ∧ H1.length ≤ H1'.length ∧
      ∀ (j : Nat) b, H1[j]? = some (some b) → H1'[j]? = some (some b) ∧ ((some ⟨e, ys⟩ : OwnV).isSome = true → j ≠ i) := by
  have key := h.2 ⟨w, fun _ => False, 0, ρ⟩ ρ (frzAll H1) w l1 l' ha (by rw [frzAll_len]; exact hl) (sim_snap hs)
  have fin : ∀ v' w', (∃ us u ρ' H1' i, ListR X (lk0 H1') [] us ∧ OwnR X H1' i (some ⟨e, ys⟩) u ∧ TRel ρ' H1'.length (oneV (insA 0 us u)) v' ∧ (∀ j, j < (frzAll H1).length → ρ' j = ρ j) ∧ Sim (x1 X) ⟨w, fun _ => False, 0, ρ⟩ ρ' H1' w' ∧ (frzAll H1).length ≤ H1'.length ∧
      ∀ (j : Nat) b, (frzAll H1)[j]? = some (some b) → H1'[j]? = some (some b) ∧ ((some ⟨e, ys⟩ : OwnV).isSome = true → j ≠ i)) →
      ∃ us u ρ' H1' i, ListR X (lk0 H1') [] us ∧ OwnR X H1' i (some ⟨e, ys⟩) u ∧ TRel ρ' H1'.length (oneV (insA 0 us u)) v' ∧ (∀ j, j < H1.length → ρ' j = ρ j) ∧ Sim (x1 X) C ρ' H1' w' ∧ H1.length ≤ H1'.length ∧
      ∀ (j : Nat) b, H1[j]? = some (some b) → H1'[j]? = some (some b) ∧ ((some ⟨e, ys⟩ : OwnV).isSome = true → j ≠ i) := by
    rintro v' w' ⟨us, u, ρ', H1', i, q0, q1, q2, q3, q4, q5, q6⟩
    have eu : us = [] := List.eq_nil_of_length_eq_zero q0.1.symm
    subst eu
    have q2 : TRel ρ' H1'.length u v' := q2
    obtain ⟨B, c, b1, b2, b3, b4, b5, b6, b7⟩ := q1
    obtain ⟨g1, g2⟩ := allC_flat (B := H1 ++ [some B]) hf b3
    subst b6
    refine ⟨[], .slice (some ⟨H1.length, 0, none⟩) (List.length ys) c, Ab.upd ρ H1.length (ρ' i), H1 ++ [some B], H1.length, ⟨rfl, fun j x hj => by simp at hj⟩, ⟨B, c, by rw [List.getElem?_append_right (Nat.le_refl _), Nat.sub_self]; rfl, b2, g1, b4, b5, rfl, b7⟩, ?_, fun j hj => Ab.upd_lt j hj, sim_adopt hs q4 b1 b2 g2, by rw [List.length_append]; exact Nat.le_succ _, fun j b hj => ?_⟩
    · show TRel _ _ (.slice (some ⟨H1.length, 0, none⟩) (List.length ys) c) v'
      obtain ⟨hp, a', c', rfl, hcr⟩ := TRel.slc q2
      refine ⟨fun _ => by rw [List.length_append]; exact Nat.lt_succ_self _, a', c', rfl, ?_⟩
      unfold Ab.capRel at hcr ⊢
      simp only [Ab.locA, Ab.upd_same] at hcr ⊢
      exact hcr
    · have hlt := (List.getElem?_eq_some_iff.1 hj).1
      exact ⟨by rw [List.getElem?_append_left hlt]; exact hj, fun _ => by omega⟩
  rcases key with ⟨fn, c1, c2, c3, c4⟩ | ⟨v', w', c1, c2⟩
  · exact .inl ⟨fn, c1, c2, c3, c4.mono fun en w' ⟨v', e1, e2⟩ => ⟨v', e1, fin v' w' e2⟩⟩
  · exact .inr ⟨v', w', c1, fin v' w' c2⟩
def conV (as : List Ar) (F : HA as → WT) : ConT := fun args nid => snapL args fun args => match parseA as args with
  | some xs => (F xs).act 0 nid
  | none => .fail
theorem conV_ok {P : Program} {gl : Nat → Option ((s : Sh) × s.T)} {f : FuncId} {as : List Ar} {F : HA as → WT} (h : ∀ xs : HA as, wfHA as xs → (F xs).cond → ∃ (e : Sh) (ys : List e.T), (F xs).val = ([], some ⟨e, ys⟩) ∧ e.flat = true ∧ PCW (bx P gl) f (argsA as xs) 0 [] (some ⟨e, ys⟩)) : COK P gl f (conV as F) := by
  intro C ρ M H w args l1 l' nid v H' hex ha hl hs hH
  obtain ⟨l2, k1, k3, k6⟩ := snapL_sound hex ha hH
  cases hg : parseA as l2 with
  | none => rw [hg] at k1; simp at k1
  | some xs =>
    rw [hg] at k1
    have k1 := Ex_pre.1 (WT.act_val k1)
    obtain ⟨hp, k1⟩ := k1
    have ha0 : ArgsR (bx P gl) (lk0 (frzAll M.H1)) l2 l1 := ⟨k3.1, fun j u hu => by
      obtain ⟨u1, q1, q2⟩ := k3.2 j u hu
      exact ⟨u1, q1, noRef_svr (M := ⟨frzAll M.H1, M.mu, M.ln⟩) (M' := lk0 (frzAll M.H1)) (fun _ _ h _ => h) (k6 u (List.mem_of_getElem? hu)) q2⟩⟩
    have ha' := argsA_parse hg ha0
    obtain ⟨e, ys, ev, hfl, hpc⟩ := h xs (argsA_wf ha') hp
    rw [ev] at k1
    have key := PCW_snap hpc hfl ha' hl hs
    have fin : ∀ v' w', (∃ us u ρ' H1' i, ListR (bx P gl) (lk0 H1') [] us ∧ OwnR (bx P gl) H1' i (some ⟨e, ys⟩) u ∧ TRel ρ' H1'.length (oneV (insA 0 us u)) v' ∧ (∀ j, j < M.H1.length → ρ' j = ρ j) ∧ Sim (x1 (bx P gl)) C ρ' H1' w' ∧ M.H1.length ≤ H1'.length ∧
        ∀ (j : Nat) b, M.H1[j]? = some (some b) → H1'[j]? = some (some b) ∧ ((some ⟨e, ys⟩ : OwnV).isSome = true → j ≠ i)) →
        ∃ u v1 ρ' M', v = some u ∧ SVR (gl1 (bx P gl)) M' u v1 ∧ TRel ρ' M'.H1.length v1 v' ∧ (∀ i, i < M.H1.length → ρ' i = ρ i) ∧ Sim (x1 (bx P gl)) C ρ' M'.H1 w' ∧ HR (gl1 (bx P gl)) M' H' ∧ Ext M H M' H' := by
      rintro v' w' ⟨us, u, ρ', H1', i, q0, q1, q2, q3, q4, q5, q6⟩
      obtain ⟨z1, z2⟩ := HR_keep hH (fun j b hb => (q6 j b hb).1) q5
      have eu : us = [] := List.eq_nil_of_length_eq_zero q0.1.symm
      subst eu
      have k1 : Ex (.new nid ⟨.row e ys, true⟩ (.ret (some (one (insA 0 [] (.cell (.ref nid (.row e) [] e 0 (List.length ys) none))))))) H v H' := k1
      rw [Ex_new, Ex_ret] at k1
      obtain ⟨hf, rfl, rfl⟩ := k1
      obtain ⟨B, c, b1, b2, b3, b4, b5, b6, b7⟩ := q1
      have hno : ∀ k x, H k = .live x → M.mu k ≠ some i := by
        intro k x hk hmu
        obtain ⟨j, b, g1, g2, _⟩ := hH.live k x hk
        have g1 : M.mu k = some j := g1
        rw [hmu] at g1
        injection g1 with g1
        subst g1
        exact (q6 i b g2).2 rfl rfl
      have hA := adopt_step (M := ⟨H1', M.mu, M.ln⟩) z1 hf b1 b2 b3 b4 b5 hno
      have hup : ∀ k j, M.mu k = some j → updN M.mu nid (some i) k = some j ∧ updN M.ln nid (List.length ys) k = M.ln k := by
        intro k j hk
        have hnone : M.mu nid = none := hH.fresh nid hf
        have e : k ≠ nid := by rintro rfl; rw [hnone] at hk; cases hk
        exact ⟨by unfold updN; rw [if_neg e]; exact hk, by unfold updN; rw [if_neg e]⟩
      have hE : Ext M H ⟨H1', M.mu, M.ln⟩ H := z2
      refine ⟨_, _, ρ', ⟨H1', updN M.mu nid (some i), updN M.ln nid (List.length ys)⟩, rfl, SVR.one_ (ListR.ins (l := []) (np := 0) (v := .cell (.ref nid (.row e) [] e 0 (List.length ys) none)) (u := u) ⟨rfl, fun j x hj => by simp at hj⟩ ?_), q2, q3, q4, hA, ?_⟩
      · rw [b6]
        refine .mkref (c := c) (o := 0) (i := i) (by simp [updN]) (.inr ⟨rfl, rfl, by simp [updN], fun k hk => by cases hk⟩) rfl (by simp [offL]) (.inl (by simp [offL])) (by show capIs (updN M.ln nid (List.length ys) nid) 0 (List.length ys) none c; simpa [updN] using b7)
      · refine { len := hE.len, mu := fun k j hk => hup k j hk, keep := fun j b hb hfo => ?_, ro := hE.ro }
        obtain ⟨y1, y2⟩ := hE.keep j b hb hfo
        refine ⟨y1, fun k x hk ho hm => ?_⟩
        rw [put_at] at hk
        have hm : updN M.mu nid (some i) k = some j := hm
        by_cases ek : k = nid
        · subst ek
          unfold updN at hm
          rw [if_pos rfl] at hm
          injection hm with hm
          subst hm
          exact (q6 i b hb).2 rfl rfl
        · rw [if_neg ek] at hk
          unfold updN at hm
          rw [if_neg ek] at hm
          exact y2 k x hk ho hm
    rcases key with ⟨fn, c1, c2, c3, c4⟩ | ⟨v', w', c1, c2⟩
    · exact .inl ⟨fn, c1, c2, c3, c4.mono fun en w' ⟨v', e1, e2⟩ => ⟨v', e1, fin v' w' e2⟩⟩
    · exact .inr ⟨v', w', c1, fin v' w' c2⟩
end Go.Ty
namespace Go.Ty
open Go.Ab (TRel VRel LRel CRel ERel Sim)
section
variable (X : Cx) (N : Nat) (LS : Nat → Option PT)
def FWM (fn : Func) (s : Sh) (x : s.T) (args : List SV) (K : SV → Slot → Prop) : Prop :=
  match fn.body with
  | some c => W X N LS c ⟨envOf (.av (.cell (.ptr 0 (.one s) [])) :: args), fun k => bif Nat.beq k 0 then .live ⟨.one s (.val s x), true⟩ else .fresh, 1000⟩ fun e st => match e with
    | .exit _ => False
    | .normal => resK X st fn.results.toList fun l H => K (one l) (H 0)
    | .ret => resK X st fn.results.toList fun l H => K (one l) (H 0)
  | none => False
end
def PCM (X : Cx) (f : FuncId) (s : Sh) (x y : s.T) (args : List SV) (r : SV) : Prop := noRefS r = true ∧ ∀ (C : Ab.Ctx) (ρ : Nat → Ab.Loc) (H1 : Ab.Heap) (w : World) (i : Nat) (B : Ab.Blk) (l1 l' : List Value),
  H1[i]? = some (some B) → B.own = true → Cells (gl1 X) H1 s x B.cells → ArgsR X (lk0 H1) args l1 → LRel (TRel ρ H1.length) (.pointer (some ⟨i, 0, none⟩) :: l1) l' → Sim (x1 X) C ρ H1 w →
  CallR X f l' w fun v' w' => ∃ v1 ρ' H1' B', SVR (gl1 X) (lk0 H1') r v1 ∧ TRel ρ' H1'.length v1 v' ∧ (∀ j, j < H1.length → ρ' j = ρ j) ∧ Sim (x1 X) C ρ' H1' w' ∧ H1'[i]? = some (some B') ∧ B'.own = true ∧ Cells (gl1 X) H1' s y B'.cells
theorem FWM_pcm {X : Cx} (hX : XOK X) (hcon : ConsOK X) (hm : X.P.follows .mixedOrders = true) {f : FuncId} {fn : Func} {c : Code} {LS : Nat → Option PT} {s : Sh} {x y : s.T} {args : List SV} {r : SV} (hf : X.P.funcs[f]? = some fn) (hc : fn.body = some c)
    (hname : (fn.name == "runtime.NumGoroutine") = false) (hN : Nat.ble (args.length + 1) fn.ntmps = true) (hl : LoopsOK X fn.ntmps LS c) (h : FWM X fn.ntmps LS fn s x args fun r' sl => r' = r ∧ sl = .live ⟨.one s (.val s y), true⟩) (hr : noRefS r = true) : PCM X f s x y args r := by
  refine ⟨hr, fun C ρ H1 w i B l1 l' hB hBo hBc ha hl' hs => .inl ⟨fn, hf, hname, by rw [hc]; rfl, ?_⟩⟩
  have hN := Nat.le_of_ble_eq_true hN
  unfold FWM at h
  rw [hc] at h
  refine calls_of_wp hf hc ?_
  have hilt : i < H1.length := (List.getElem?_eq_some_iff.1 hB).1
  have hst : SR X C fn.ntmps ρ ⟨H1, fun k => if k = 0 then some i else none, fun _ => 0⟩ ⟨envOf (.av (.cell (.ptr 0 (.one s) [])) :: args), fun k => bif Nat.beq k 0 then .live ⟨.one s (.val s x), true⟩ else .fresh, 1000⟩ { tmps := (⟨l'⟩ : Array Value) ++ Array.replicate (fn.ntmps - (⟨l'⟩ : Array Value).size) undef, defers := [] } w := by
    refine ⟨Ab.envOf (.pointer (some ⟨i, 0, none⟩) :: l1), Ab.SRel.start (H := H1) hs hl' (by rw [List.length_cons, ← ha.1]; exact hN), fun k v hk => ?_, ⟨fun k z hk => ?_, fun k k' z z' j hk hk' _ _ _ => ?_, fun k hk => ?_, fun k j hk => ?_⟩⟩
    · cases k with
      | zero =>
        have hk : some (SV.av (.cell (.ptr 0 (.one s) []))) = some v := hk
        injection hk with hk
        subst hk
        exact ⟨_, rfl, VR.mkptr (M := ⟨H1, fun k => if k = 0 then some i else none, fun _ => 0⟩) (i := i) (r := .one s) (p := []) rfl (inP_nil s) (by simp only [offL, offS_nil])⟩
      | succ k =>
        obtain ⟨v1, g1, g2⟩ := ha.2 k v hk
        exact ⟨v1, g1, g2.mono (M := lk0 H1) (M' := ⟨H1, fun k => if k = 0 then some i else none, fun _ => 0⟩) (fun _ _ h _ => h) (fun _ _ h => by cases h)⟩
    · cases k with
      | zero =>
        have hk : Slot.live ⟨.one s (.val s x), true⟩ = .live z := hk
        injection hk with hk
        subst hk
        exact ⟨i, B, rfl, hB, hBo, ⟨rfl, hBc⟩, fun _ _ h => by cases h⟩
      | succ k => cases hk
    · cases k with
      | zero => cases k' with
        | zero => rfl
        | succ k' => cases hk'
      | succ k => cases hk
    · cases k with
      | zero => cases hk
      | succ k => rfl
    · cases k with
      | zero =>
        have hk : some i = some j := hk
        injection hk with hk
        subst hk; exact hilt
      | succ k => cases hk
  refine W_sound hX hcon hm c hl _ _ h C ρ _ _ w _ hst (fun e s' a' w' hk ht => ?_)
  obtain ⟨ρ', M', t1, t2, e1, t3, t4, t5⟩ := ht
  have hk : resK X s' fn.results.toList (fun l H => one l = r ∧ H 0 = .live ⟨.one s (.val s y), true⟩) ∧ ∀ i, e ≠ .exit i := by
    cases e with
    | normal => exact ⟨hk, by simp⟩
    | ret => exact ⟨hk, by simp⟩
    | exit i => cases hk
  obtain ⟨hk, hx⟩ := hk
  obtain ⟨l, Hm, H1m, vs, k1, k2, k3, k4, k5, k6, k7⟩ := resK_sound hX _ hk t4 t5
  have hsr : Ab.SRel (x1 X) C fn.ntmps ρ' ⟨e1, H1m⟩ a' w' := ⟨sim_frz k2 t3.sim, by have := t3.env; rw [show (Ab.St.mk e1 H1m).heap.length = M'.H1.length from k2.1]; exact this, t3.size, t3.defers⟩
  have hres := aresults_one k5
  obtain ⟨v', q1, q2⟩ := Ab.aresults_sound hsr hres
  have hone := SVR.one_ k6
  rw [k1.1] at hone
  obtain ⟨i', B', z1, z2, z3, z4, _⟩ := k3.live 0 _ k1.2
  have ei : M'.mu 0 = some i := (t2.mu 0 i (by decide) rfl).1
  have z1 : M'.mu 0 = some i' := z1
  rw [ei] at z1
  injection z1 with z1
  subst z1
  have z4 : CellsA (gl1 X) ⟨H1m, M'.mu, M'.ln⟩ (.val s y) s B'.cells := z4
  have fin : ∃ v'', Ending.returned v' = .returned v'' ∧ ∃ v1 ρ' H1' B', SVR (gl1 X) (lk0 H1') r v1 ∧ TRel ρ' H1'.length v1 v'' ∧ (∀ j, j < H1.length → ρ' j = ρ j) ∧ Sim (x1 X) C ρ' H1' w' ∧ H1'[i]? = some (some B') ∧ B'.own = true ∧ Cells (gl1 X) H1' s y B'.cells :=
    ⟨v', rfl, _, ρ', H1m, B', noRef_svr (M := ⟨H1m, M'.mu, M'.ln⟩) (M' := lk0 H1m) (fun _ _ h _ => h) hr hone, q2, t1, hsr.sim, z2, z3, z4.2⟩
  cases e with
  | normal => exact ⟨t3.defers, v', q1, fin⟩
  | ret => exact ⟨t3.defers, v', q1, fin⟩
  | exit i => exact absurd rfl (hx i)
def conM (s : Sh) (as : List Ar) (G : s.T → HA as → s.T) (F : s.T → HA as → RT) : ConT := fun args _ => match args with
  | .av (.cell (.ptr b (.one s') [])) :: rest => bif s'.beq s && rest.all noRefS then (match parseA as rest with
      | some xs => .look b fun k => match k with
          | ⟨.one _ (.val s3 x), true⟩ => .ofO (castTo s3 s x) fun x => .put b ⟨.one s (.val s (G x xs)), true⟩ ((F x xs).act)
          | _ => .fail
      | none => .fail) else .fail
  | _ => .fail
theorem castTo_cells2 {G : Nat → Option (List Value)} {A : Ab.Heap} {a b : Sh} {x : a.T} {y : b.T} {cs : List Value} (h : castTo a b x = some y) (hc : Cells G A a x cs) : Cells G A b y cs := by
  unfold castTo at h
  split at h
  · rename_i e
    have e2 := Sh.eq_of_beq e
    subst e2
    injection h with h
    subst h
    exact hc
  · cases h
def frzBut (A : Ab.Heap) (i : Nat) (B : Ab.Blk) : Ab.Heap := (frzAll A).set i (some B)
theorem frzBut_len (A : Ab.Heap) (i : Nat) (B : Ab.Blk) : (frzBut A i B).length = A.length := by unfold frzBut; rw [List.length_set, frzAll_len]
theorem frzBut_at {A : Ab.Heap} {i : Nat} {B : Ab.Blk} (hB : A[i]? = some (some B)) {j : Nat} {b : Ab.Blk} (h : (frzBut A i B)[j]? = some (some b)) : (j = i ∧ b = B) ∨ (j ≠ i ∧ ∃ b0, A[j]? = some (some b0) ∧ b = { b0 with own := false }) := by
  unfold frzBut at h
  rw [set_at (frzAll_at hB)] at h
  by_cases e : j = i
  · rw [if_pos e] at h
    injection h with h
    injection h with h
    exact .inl ⟨e, h.symm⟩
  · rw [if_neg e] at h
    exact .inr ⟨e, frzAll_of h⟩
theorem conM_ok {P : Program} {gl : Nat → Option ((s : Sh) × s.T)} {f : FuncId} {s : Sh} {as : List Ar} {G : s.T → HA as → s.T} {F : s.T → HA as → RT} (hsf : s.flat = true)
    (h : ∀ (x : s.T) (xs : HA as), s.wfT x → wfHA as xs → (F x xs).cond → PCM (bx P gl) f s x (G x xs) (argsA as xs) (F x xs).val) (hr : ∀ x xs, (F x xs).flat = true) : COK P gl f (conM s as G F) := by
  intro C ρ M H w args l1 l' nid v H' hex ha hl hs hH
  unfold conM at hex
  split at hex
  · rename_i b s' rest
    simp only [Ex_bif, Ex_fail, and_false, or_false, Bool.and_eq_true] at hex
    obtain ⟨⟨hbs, hno⟩, hex⟩ := hex
    cases hg : parseA as rest with
    | none => rw [hg] at hex; simp at hex
    | some xs =>
      rw [hg] at hex
      simp only [Ex_look] at hex
      obtain ⟨k, hk, hex⟩ := hex
      split at hex
      · rename_i s2 s3 x0
        simp only [Ex_ofO, Ex_put] at hex
        obtain ⟨x, hx, y0, _, hex⟩ := hex
        have hex := Ex_pre.1 (RT.act_val hex)
        obtain ⟨hp, hex⟩ := hex
        simp only [Ex_ret] at hex
        obtain ⟨rfl, rfl⟩ := hex
        obtain ⟨u, l2, rfl, hu, har⟩ := ha.inv
        obtain ⟨i, q1, q2, rfl⟩ := VR.cell hu
        obtain ⟨i', B, z1, z2, z3, z4, z5⟩ := hH.live b _ hk
        rw [q1] at z1
        injection z1 with z1
        subst z1
        obtain ⟨rfl, z4⟩ : s3 = s2 ∧ Cells (gl1 (bx P gl)) M.H1 s3 x0 B.cells := z4
        have hc := castTo_cells2 hx z4
        have hc0 : B.cells = cellsOf s x := cellsOf_eq hsf hc
        have hoff : offL (.one s') [] = 0 := by simp only [offL, offS_nil]
        rw [hoff] at hl
        have hro : RoLe M.H1 (frzBut M.H1 i B) := by
          intro j b' hb' ho
          have hne : j ≠ i := by
            rintro rfl
            rw [z2] at hb'
            injection hb' with hb'
            injection hb' with hb'
            subst hb'
            rw [z3] at ho; cases ho
          unfold frzBut
          rw [set_at (frzAll_at z2), if_neg hne, frzAll_at hb']
          cases b'; cases ho; rfl
        have har' : ArgsR (bx P gl) (lk0 (frzBut M.H1 i B)) rest l2 := ⟨har.1, fun j v hv => by
          obtain ⟨u', y1, y2⟩ := har.2 j v hv
          exact ⟨u', y1, noRef_svr (M := M) (M' := lk0 (frzBut M.H1 i B)) hro (List.all_eq_true.1 hno v (List.mem_of_getElem? hv)) y2⟩⟩
        have ha' := argsA_parse hg har'
        have hpc := h x xs hc.wf (argsA_wf ha') hp
        have hblk : C.S (ρ i).block ∨ C.w.heap.size ≤ (ρ i).block := hs.own i B z2 z3
        have hs' : Sim (x1 (bx P gl)) ⟨w, fun b => b = (ρ i).block, 0, ρ⟩ ρ (frzBut M.H1 i B) w := {
          blk := fun j b hb => by
            rw [frzBut_len]
            rcases frzBut_at z2 hb with ⟨rfl, rfl⟩ | ⟨hne, b0, g1, rfl⟩
            · exact hs.blk _ _ z2
            · obtain ⟨cs, t, fr, q1, q2, q3⟩ := hs.blk j b0 g1
              exact ⟨cs, t, fr, q1, (fun h => by cases h), q3⟩
          own := fun j b hb ho => by
            rcases frzBut_at z2 hb with ⟨rfl, rfl⟩ | ⟨hne, b0, g1, rfl⟩
            · exact .inl rfl
            · cases ho
          far := fun j k bj bk hj hk ho hne => by
            rcases frzBut_at z2 hj with ⟨rfl, rfl⟩ | ⟨_, b0, g1, rfl⟩
            · rcases frzBut_at z2 hk with ⟨rfl, rfl⟩ | ⟨_, b1, g2, rfl⟩
              · exact absurd rfl hne
              · exact hs.far _ k _ b1 z2 g2 ho hne
            · cases ho
          os := rfl, tape := rfl, output := rfl, size := Nat.le_refl _, keep := fun _ _ _ => rfl, agree := fun _ _ => rfl, len := Nat.zero_le _
          glob := fun g l hgl => by
            obtain ⟨a1, a2, cs, t, fr, a3, a4⟩ := hs.glob g l hgl
            have hlt : g < C.w.heap.size := (Array.getElem?_eq_some_iff.1 a3).1
            refine ⟨fun e => ?_, a2, cs, t, fr, (hs.keep g hlt a1).trans a3, a4⟩
            have e : g = (ρ i).block := e
            rw [← e] at hblk
            exact hblk.elim a1 (fun h => absurd hlt (Nat.not_lt.2 h)) }
        have key := hpc.2 ⟨w, fun b => b = (ρ i).block, 0, ρ⟩ ρ (frzBut M.H1 i B) w i B l2 l' (by unfold frzBut; rw [set_at (frzAll_at z2), if_pos rfl]) z3 (by rw [hc0]; exact cells_of hsf hc.wf) ha' (by rw [frzBut_len]; exact hl) hs'
        obtain ⟨t0, r0, er, hf⟩ := RT.flat_val (hr x xs)
        have fin : ∀ v' w', (∃ v1 ρ' H1' B', SVR (gl1 (bx P gl)) (lk0 H1') (F x xs).val v1 ∧ TRel ρ' H1'.length v1 v' ∧ (∀ j, j < (frzBut M.H1 i B).length → ρ' j = ρ j) ∧ Sim (x1 (bx P gl)) ⟨w, fun b => b = (ρ i).block, 0, ρ⟩ ρ' H1' w' ∧ H1'[i]? = some (some B') ∧ B'.own = true ∧ Cells (gl1 (bx P gl)) H1' s (G x xs) B'.cells) →
            ∃ u v1 ρ' M', some (F x xs).val = some u ∧ SVR (gl1 (bx P gl)) M' u v1 ∧ TRel ρ' M'.H1.length v1 v' ∧ (∀ i, i < M.H1.length → ρ' i = ρ i) ∧ Sim (x1 (bx P gl)) C ρ' M'.H1 w' ∧ HR (gl1 (bx P gl)) M' (H.put b (.live ⟨.one s (.val s (G x xs)), true⟩)) ∧ Ext M H M' (H.put b (.live ⟨.one s (.val s (G x xs)), true⟩)) := by
          rintro v' w' ⟨v1, ρ', H1', B', q1', q2', q3, q4, q5, q6, q7⟩
          rw [er] at q1' ⊢
          have q1' : VR (gl1 (bx P gl)) (lk0 H1') (.val t0 r0) v1 := q1'
          obtain ⟨cs, y1, y2⟩ := q1'.val
          have ev := VR.flat hf q1'
          subst ev
          have hilt : i < M.H1.length := (List.getElem?_eq_some_iff.1 z2).1
          have hρ : ρ' i = ρ i := q3 i (by rw [frzBut_len]; exact hilt)
          have hw : ∀ b, b < w.heap.size → b ≠ (ρ i).block → w'.heap[b]? = w.heap[b]? := fun b hb hne => q4.keep b hb hne
          have hcells : B'.cells = cellsOf s (G x xs) := cellsOf_eq hsf q7
          have hput := put_step hH hk rfl q1 z2 z3 q6 (c' := .one s (.val s (G x xs))) (B' := B') ⟨rfl, by rw [hcells]; exact cells_of hsf q7.wf⟩ (fun _ _ h => by cases h)
          refine ⟨_, _, ρ, ⟨M.H1.set i (some B'), M.mu, M.ln⟩, rfl, VR.mkflat hf y1.wf, trel_flat hf q2', fun _ _ => rfl, ?_, hput.1, hput.2⟩
          have at_ : ∀ (j : Nat) b, (M.H1.set i (some B'))[j]? = some (some b) → (j = i ∧ b = B') ∨ (j ≠ i ∧ M.H1[j]? = some (some b)) := by
            intro j b hj
            rw [set_at z2] at hj
            by_cases e : j = i
            · rw [if_pos e] at hj
              injection hj with hj
              injection hj with hj
              exact .inl ⟨e, hj.symm⟩
            · rw [if_neg e] at hj
              exact .inr ⟨e, hj⟩
          exact {
            blk := fun j b hj => by
              rcases at_ j b hj with ⟨rfl, rfl⟩ | ⟨hne, g1⟩
              · obtain ⟨cs, t, fr, k1, k2, k3⟩ := q4.blk _ _ q5
                rw [hρ] at k1 k2 k3
                refine ⟨cs, t, fr, k1, k2, fun k v hv => ?_⟩
                obtain ⟨v2, r1, r2⟩ := k3 k v hv
                have hv := plain_cells (x := G x xs) hsf v (by rw [← hcells]; exact List.mem_of_getElem? hv)
                have e := CRel.plain_eq hv r2
                subst e
                exact ⟨_, r1, CRel.plain hv⟩
              · obtain ⟨cs, t, fr, k1, k2, k3⟩ := hs.blk j b g1
                have hd := hs.far i j B b z2 g1 z3 (fun e => hne e.symm)
                exact ⟨cs, t, fr, by rw [hw _ (Array.getElem?_eq_some_iff.1 k1).1 (fun e => hd e.symm)]; exact k1, k2, by rw [List.length_set]; exact k3⟩
            own := fun j b hj ho => by
              rcases at_ j b hj with ⟨rfl, rfl⟩ | ⟨hne, g1⟩
              · exact hblk
              · exact hs.own j b g1 ho
            far := fun j k bj bk hj hk ho hne => by
              rcases at_ j bj hj with ⟨rfl, rfl⟩ | ⟨hn1, g1⟩
              · rcases at_ k bk hk with ⟨rfl, rfl⟩ | ⟨hn2, g2⟩
                · exact absurd rfl hne
                · exact hs.far _ k B bk z2 g2 z3 hne
              · rcases at_ k bk hk with ⟨rfl, rfl⟩ | ⟨hn2, g2⟩
                · exact hs.far j _ bj B g1 z2 ho hne
                · exact hs.far j k bj bk g1 g2 ho hne
            os := q4.os.trans hs.os, tape := q4.tape.trans hs.tape, output := q4.output.trans hs.output
            size := Nat.le_trans hs.size q4.size
            keep := fun b hb hn => by
              have hne : b ≠ (ρ i).block := by
                rintro rfl
                exact hblk.elim hn (fun h => absurd hb (Nat.not_lt.2 h))
              exact (hw b (Nat.lt_of_lt_of_le hb hs.size) hne).trans (hs.keep b hb hn)
            agree := hs.agree, len := by rw [List.length_set]; exact hs.len, glob := hs.glob }
        rcases key with ⟨fn, c1, c2, c3, c4⟩ | ⟨v', w', c1, c2⟩
        · exact .inl ⟨fn, c1, c2, c3, c4.mono fun en w' ⟨v', e1, e2⟩ => ⟨v', e1, fin v' w' e2⟩⟩
        · exact .inr ⟨v', w', c1, fin v' w' c2⟩
      · simp at hex
  · simp at hex
end Go.Ty
namespace Go.Ty
open Go.Ab (TRel VRel LRel CRel ERel Sim)
def resN (st : St) (rs : List ResultVar) (K : (s : Sh) → s.T → Prop) : Prop := match rs with
  | [.tmp t] => (match st.env t with
    | some (.av (.cell (.ptr b (.one _) []))) => (match st.heap b with
      | .live ⟨.one _ (.val s y), true⟩ => K s y
      | _ => False)
    | _ => False)
  | _ => False
section
variable (X : Cx) (N : Nat) (LS : Nat → Option PT)
def FWN (fn : Func) (args : List SV) (K : (s : Sh) → s.T → Prop) : Prop :=
  match fn.body with
  | some c => W X N LS c ⟨envOf args, fun _ => .fresh, 1000⟩ fun e st => match e with
    | .exit _ => False
    | .normal => resN st fn.results.toList K
    | .ret => resN st fn.results.toList K
  | none => False
end
def PCN (X : Cx) (f : FuncId) (args : List SV) (s : Sh) (y : s.T) : Prop := ∀ (C : Ab.Ctx) (ρ : Nat → Ab.Loc) (H1 : Ab.Heap) (w : World) (l1 l' : List Value),
  ArgsR X (lk0 H1) args l1 → LRel (TRel ρ H1.length) l1 l' → Sim (x1 X) C ρ H1 w →
  CallR X f l' w fun v' w' => ∃ ρ' H1' i B, TRel ρ' H1'.length (.pointer (some ⟨i, 0, none⟩)) v' ∧ (∀ j, j < H1.length → ρ' j = ρ j) ∧ Sim (x1 X) C ρ' H1' w' ∧ H1'[i]? = some (some B) ∧ B.own = true ∧ Cells (gl1 X) H1' s y B.cells
theorem FWN_pcn {X : Cx} (hX : XOK X) (hcon : ConsOK X) (hm : X.P.follows .mixedOrders = true) {f : FuncId} {fn : Func} {c : Code} {LS : Nat → Option PT} {args : List SV} {s : Sh} {y : s.T} (hf : X.P.funcs[f]? = some fn) (hc : fn.body = some c)
    (hname : (fn.name == "runtime.NumGoroutine") = false) (hN : Nat.ble args.length fn.ntmps = true) (hl : LoopsOK X fn.ntmps LS c) (h : FWN X fn.ntmps LS fn args fun s' y' => (⟨s', y'⟩ : (s : Sh) × s.T) = ⟨s, y⟩) : PCN X f args s y := by
  refine fun C ρ H1 w l1 l' ha hl' hs => .inl ⟨fn, hf, hname, by rw [hc]; rfl, ?_⟩
  have hN := Nat.le_of_ble_eq_true hN
  unfold FWN at h
  rw [hc] at h
  refine calls_of_wp hf hc ?_
  have hst : SR X C fn.ntmps ρ (lk0 H1) ⟨envOf args, fun _ => .fresh, 1000⟩ { tmps := (⟨l'⟩ : Array Value) ++ Array.replicate (fn.ntmps - (⟨l'⟩ : Array Value).size) undef, defers := [] } w := by
    refine ⟨Ab.envOf l1, Ab.SRel.start (H := H1) hs hl' (by rw [← ha.1]; exact hN), fun k v hk => ?_, ⟨(fun k x hk => nomatch hk), (fun k k' x x' i hk => nomatch hk), (fun k _ => rfl), (fun k i hk => nomatch hk)⟩⟩
    obtain ⟨v1, g1, g2⟩ := ha.2 k v hk
    exact ⟨v1, g1, g2⟩
  refine W_sound hX hcon hm c hl _ _ h C ρ (lk0 H1) _ w _ hst (fun e s' a' w' hk ht => ?_)
  obtain ⟨ρ', M', t1, t2, e1, t3, t4, t5⟩ := ht
  have hk : resN s' fn.results.toList (fun s' y' => (⟨s', y'⟩ : (s : Sh) × s.T) = ⟨s, y⟩) ∧ ∀ i, e ≠ .exit i := by
    cases e with
    | normal => exact ⟨hk, by simp⟩
    | ret => exact ⟨hk, by simp⟩
    | exit i => cases hk
  obtain ⟨hk, hx⟩ := hk
  unfold resN at hk
  split at hk
  · rename_i t hrs
    split at hk
    · rename_i b s1 henv
      split at hk
      · rename_i s2 s3 y0 hb
        obtain ⟨v1, g1, g2⟩ := t4 t _ henv
        obtain ⟨i, q1, q2, rfl⟩ := VR.cell g2
        obtain ⟨i', B, z1, z2, z3, z4, _⟩ := t5.live b _ hb
        rw [q1] at z1
        injection z1 with z1
        subst z1
        obtain ⟨rfl, z4⟩ : s3 = s2 ∧ Cells (gl1 X) M'.H1 s3 y0 B.cells := z4
        cases hk
        have hoff : offL (.one s1) [] = 0 := by simp only [offL, offS_nil]
        rw [hoff] at g1
        have hares : Ab.aresL (x1 X) ⟨e1, M'.H1⟩ fn.results.toList = some [.pointer (some ⟨i, 0, none⟩)] := by
          rw [hrs]
          show ((e1 t).bind fun v => bif Ab.isTup v then none else some v).bind (fun v => some [v]) = _
          rw [g1]; rfl
        have hres := aresults_one hares
        obtain ⟨v', r1, r2⟩ := Ab.aresults_sound t3 hres
        have fin : ∃ v'', Ending.returned v' = .returned v'' ∧ ∃ ρ' H1' i B, TRel ρ' H1'.length (.pointer (some ⟨i, 0, none⟩)) v'' ∧ (∀ j, j < H1.length → ρ' j = ρ j) ∧ Sim (x1 X) C ρ' H1' w' ∧ H1'[i]? = some (some B) ∧ B.own = true ∧ Cells (gl1 X) H1' s y B.cells :=
          ⟨v', rfl, ρ', M'.H1, i, B, r2, t1, t3.sim, z2, z3, z4⟩
        cases e with
        | normal => exact ⟨t3.defers, v', r1, fin⟩
        | ret => exact ⟨t3.defers, v', r1, fin⟩
        | exit i => exact absurd rfl (hx i)
      · cases hk
    · cases hk
  · cases hk
theorem adopt_one {X : Cx} {M : Lk} {H : Heap} (hH : HR (gl1 X) M H) {nid i : Nat} {B : Ab.Blk} {s : Sh} {y : s.T} (hf : H nid = .fresh) (hB : M.H1[i]? = some (some B)) (ho : B.own = true) (hc : Cells (gl1 X) M.H1 s y B.cells)
    (hno : ∀ k x, H k = .live x → M.mu k ≠ some i) :
    HR (gl1 X) ⟨M.H1, updN M.mu nid (some i), M.ln⟩ (H.put nid (.live ⟨.one s (.val s y), true⟩)) := by
  have hnone := hH.fresh nid hf
  have hilt : i < M.H1.length := (List.getElem?_eq_some_iff.1 hB).1
  have hup : ∀ k j, M.mu k = some j → updN M.mu nid (some i) k = some j ∧ M.ln k = M.ln k := by
    intro k j hk
    have e : k ≠ nid := by rintro rfl; rw [hnone] at hk; cases hk
    exact ⟨by unfold updN; rw [if_neg e]; exact hk, rfl⟩
  have look : ∀ k z, (H.put nid (.live ⟨.one s (.val s y), true⟩)) k = .live z → (k = nid ∧ z = ⟨.one s (.val s y), true⟩) ∨ (k ≠ nid ∧ H k = .live z) := by
    intro k z hk
    rw [put_at] at hk
    by_cases e : k = nid
    · rw [if_pos e] at hk; injection hk with hk; exact .inl ⟨e, hk.symm⟩
    · rw [if_neg e] at hk; exact .inr ⟨e, hk⟩
  refine { live := fun k z hk => ?_, inj := fun k k' z z' j hk hk' hoy hm hm' => ?_, fresh := fun k hk => ?_, lt := fun k j hk => ?_ }
  · rcases look k z hk with ⟨rfl, rfl⟩ | ⟨hne, hk⟩
    · exact ⟨i, B, by simp [updN], hB, ho, ⟨rfl, hc⟩, fun _ _ h => by cases h⟩
    · obtain ⟨j, b, g1, g2, g3, g4, g5⟩ := hH.live k z hk
      exact ⟨j, b, (hup k j g1).1, g2, g3, g4.mono (M := M) (M' := ⟨M.H1, updN M.mu nid (some i), M.ln⟩) (fun _ _ h _ => h) hup, g5⟩
  · have hm : updN M.mu nid (some i) k = some j := hm
    have hm' : updN M.mu nid (some i) k' = some j := hm'
    rcases look k z hk with ⟨rfl, rfl⟩ | ⟨hne, hk0⟩
    · rcases look k' z' hk' with ⟨rfl, rfl⟩ | ⟨hne', hk0'⟩
      · rfl
      · unfold updN at hm hm'
        rw [if_pos rfl] at hm
        rw [if_neg hne'] at hm'
        injection hm with hm; subst hm
        exact absurd hm' (hno k' z' hk0')
    · rcases look k' z' hk' with ⟨rfl, rfl⟩ | ⟨hne', hk0'⟩
      · unfold updN at hm hm'
        rw [if_pos rfl] at hm'
        rw [if_neg hne] at hm
        injection hm' with hm'; subst hm'
        exact absurd hm (hno k z hk0)
      · unfold updN at hm hm'
        rw [if_neg hne] at hm
        rw [if_neg hne'] at hm'
        exact hH.inj k k' z z' j hk0 hk0' hoy hm hm'
  · rw [put_at] at hk
    by_cases e : k = nid
    · rw [if_pos e] at hk; cases hk
    · rw [if_neg e] at hk
      show updN M.mu nid (some i) k = none
      unfold updN; rw [if_neg e]; exact hH.fresh k hk
  · have hk : updN M.mu nid (some i) k = some j := hk
    unfold updN at hk
    by_cases e : k = nid
    · rw [if_pos e] at hk; injection hk with hk; subst hk; exact hilt
    · rw [if_neg e] at hk; exact hH.lt k j hk
def conNew (as : List Ar) (s : Sh) (D : HA as → Bool) (G : HA as → s.T) : ConT := fun args nid => snapL args fun args => match parseA as args with
  | some xs => .dem (D xs) (.new nid ⟨.one s (.val s (G xs)), true⟩ (.ret (some (.av (.cell (.ptr nid (.one s) []))))))
  | none => .fail
theorem conNew_ok {P : Program} {gl : Nat → Option ((s : Sh) × s.T)} {f : FuncId} {as : List Ar} {s : Sh} {D : HA as → Bool} {G : HA as → s.T} (hsf : s.flat = true) (h : ∀ xs : HA as, wfHA as xs → D xs = true → PCN (bx P gl) f (argsA as xs) s (G xs)) : COK P gl f (conNew as s D G) := by
  intro C ρ M H w args l1 l' nid v H' hex ha hl hs hH
  obtain ⟨l2, k1, k3, k6⟩ := snapL_sound hex ha hH
  cases hg : parseA as l2 with
  | none => rw [hg] at k1; simp at k1
  | some xs =>
    rw [hg] at k1
    have k1 : Ex (.dem (D xs) (.new nid ⟨.one s (.val s (G xs)), true⟩ (.ret (some (.av (.cell (.ptr nid (.one s) []))))))) H v H' := k1
    rw [Ex_dem, Ex_new, Ex_ret] at k1
    obtain ⟨hd, hf, rfl, rfl⟩ := k1
    have ha0 : ArgsR (bx P gl) (lk0 (frzAll M.H1)) l2 l1 := ⟨k3.1, fun j u hu => by
      obtain ⟨u1, q1, q2⟩ := k3.2 j u hu
      exact ⟨u1, q1, noRef_svr (M := ⟨frzAll M.H1, M.mu, M.ln⟩) (M' := lk0 (frzAll M.H1)) (fun _ _ h _ => h) (k6 u (List.mem_of_getElem? hu)) q2⟩⟩
    have ha' := argsA_parse hg ha0
    have key := h xs (argsA_wf ha') hd ⟨w, fun _ => False, 0, ρ⟩ ρ (frzAll M.H1) w l1 l' ha' (by rw [frzAll_len]; exact hl) (sim_snap hs)
    have fin : ∀ v' w', (∃ ρ' H1' i B, TRel ρ' H1'.length (.pointer (some ⟨i, 0, none⟩)) v' ∧ (∀ j, j < (frzAll M.H1).length → ρ' j = ρ j) ∧ Sim (x1 (bx P gl)) ⟨w, fun _ => False, 0, ρ⟩ ρ' H1' w' ∧ H1'[i]? = some (some B) ∧ B.own = true ∧ Cells (gl1 (bx P gl)) H1' s (G xs) B.cells) →
        ∃ u v1 ρ' M', some (SV.av (.cell (.ptr nid (.one s) []))) = some u ∧ SVR (gl1 (bx P gl)) M' u v1 ∧ TRel ρ' M'.H1.length v1 v' ∧ (∀ i, i < M.H1.length → ρ' i = ρ i) ∧ Sim (x1 (bx P gl)) C ρ' M'.H1 w' ∧ HR (gl1 (bx P gl)) M' (H.put nid (.live ⟨.one s (.val s (G xs)), true⟩)) ∧ Ext M H M' (H.put nid (.live ⟨.one s (.val s (G xs)), true⟩)) := by
      rintro v' w' ⟨ρ', H1', i, B, q1, q2, q4, b1, b2, b3⟩
      have hcells : B.cells = cellsOf s (G xs) := cellsOf_eq hsf b3
      have hp : ∀ v ∈ B.cells, Ab.plainC v = true := fun v hv => plain_cells (x := G xs) hsf v (by rw [← hcells]; exact hv)
      have hsim := sim_adopt hs q4 b1 b2 hp
      obtain ⟨z1, z2⟩ := HR_keep (B := M.H1 ++ [some B]) hH (fun j b hb => by rw [List.getElem?_append_left (List.getElem?_eq_some_iff.1 hb).1]; exact hb) (by rw [List.length_append]; exact Nat.le_succ _)
      have hno : ∀ k x, H k = .live x → M.mu k ≠ some M.H1.length := fun k x _ hmu => absurd (hH.lt k _ hmu) (Nat.lt_irrefl _)
      have hA := adopt_one (M := ⟨M.H1 ++ [some B], M.mu, M.ln⟩) (y := G xs) z1 hf (by rw [List.getElem?_append_right (Nat.le_refl _), Nat.sub_self]; rfl) b2 (by rw [hcells]; exact cells_of hsf b3.wf) hno
      have hup : ∀ k j, M.mu k = some j → updN M.mu nid (some M.H1.length) k = some j ∧ M.ln k = M.ln k := by
        intro k j hk
        have hnone : M.mu nid = none := hH.fresh nid hf
        have e : k ≠ nid := by rintro rfl; rw [hnone] at hk; cases hk
        exact ⟨by unfold updN; rw [if_neg e]; exact hk, rfl⟩
      refine ⟨_, .pointer (some ⟨M.H1.length, 0, none⟩), Ab.upd ρ M.H1.length (ρ' i), ⟨M.H1 ++ [some B], updN M.mu nid (some M.H1.length), M.ln⟩, rfl, VR.mkptr (i := M.H1.length) (r := .one s) (p := []) (by simp [updN]) (inP_nil s) (by simp only [offL, offS_nil]), ?_, fun j hj => Ab.upd_lt j hj, hsim, hA, ?_⟩
      · obtain ⟨g1, rfl⟩ := TRel.ptr q1
        refine ⟨fun _ => by rw [List.length_append]; exact Nat.lt_succ_self _, ?_⟩
        simp only [Ab.locA, Ab.upd_same]
      · refine { len := z2.len, mu := fun k j hk => hup k j hk, keep := fun j b hb hfo => ?_, ro := z2.ro }
        obtain ⟨y1, y2⟩ := z2.keep j b hb hfo
        refine ⟨y1, fun k x hk ho hm => ?_⟩
        rw [put_at] at hk
        have hm : updN M.mu nid (some M.H1.length) k = some j := hm
        by_cases ek : k = nid
        · subst ek
          unfold updN at hm
          rw [if_pos rfl] at hm
          injection hm with hm
          subst hm
          exact absurd (List.getElem?_eq_some_iff.1 hb).1 (Nat.lt_irrefl _)
        · rw [if_neg ek] at hk
          unfold updN at hm
          rw [if_neg ek] at hm
          exact y2 k x hk ho hm
    rcases key with ⟨fn, c1, c2, c3, c4⟩ | ⟨v', w', c1, c2⟩
    · exact .inl ⟨fn, c1, c2, c3, c4.mono fun en w' ⟨v', e1, e2⟩ => ⟨v', e1, fin v' w' e2⟩⟩
    · exact .inr ⟨v', w', c1, fin v' w' c2⟩
end Go.Ty
namespace Go.Ty
open Go.Ab (TRel VRel LRel CRel ERel Sim)
def resOM (X : Cx) (s : St) (rs : List ResultVar) (K : List AV → OwnV → Slot → Prop) : Prop := match rs with
  | .tmp t :: post => resK X s post fun l H => (match s.env t with
    | some (.av (.cell .nilS)) => K l none (H 0)
    | some (.av (.cell (.ref b (.row e1) [] e2 off len _))) => bif e1.beq e2 then (match H b with
      | .live ⟨.row e3 xs, true⟩ => (match castTo (.sl e3) (.sl e1) xs with
        | some xs => (off = 0 ∧ len = List.length xs) ∧ K l (some ⟨e1, xs⟩) (H 0)
        | none => False)
      | _ => False)
      else False
    | _ => False)
  | _ => False
def FWMO (X : Cx) (N : Nat) (LS : Nat → Option PT) (fn : Func) (s : Sh) (x : s.T) (args : List SV) (K : List AV → OwnV → Slot → Prop) : Prop :=
  match fn.body with
  | some c => W X N LS c ⟨envOf (.av (.cell (.ptr 0 (.one s) [])) :: args), fun k => bif Nat.beq k 0 then .live ⟨.one s (.val s x), true⟩ else .fresh, 1000⟩ fun e st => match e with
    | .exit _ => False
    | .normal => resOM X st fn.results.toList K
    | .ret => resOM X st fn.results.toList K
  | none => False
def PCMW (X : Cx) (f : FuncId) (s : Sh) (x y : s.T) (args : List SV) (l : List AV) (o : OwnV) : Prop := (∀ v ∈ l, noRef v = true) ∧ ∀ (C : Ab.Ctx) (ρ : Nat → Ab.Loc) (H1 : Ab.Heap) (w : World) (i : Nat) (B : Ab.Blk) (l1 l' : List Value),
  H1[i]? = some (some B) → B.own = true → Cells (gl1 X) H1 s x B.cells → ArgsR X (lk0 H1) args l1 → LRel (TRel ρ H1.length) (.pointer (some ⟨i, 0, none⟩) :: l1) l' → Sim (x1 X) C ρ H1 w →
  CallR X f l' w fun v' w' => ∃ us u ρ' H1' k B', ListR X (lk0 H1') l us ∧ OwnR X H1' k o u ∧ TRel ρ' H1'.length (oneV (u :: us)) v' ∧ (∀ j, j < H1.length → ρ' j = ρ j) ∧ Sim (x1 X) C ρ' H1' w' ∧ H1'[i]? = some (some B') ∧ B'.own = true ∧ Cells (gl1 X) H1' s y B'.cells ∧ (o.isSome = true → k ≠ i)
theorem FWMO_pcm {X : Cx} (hX : XOK X) (hcon : ConsOK X) (hm : X.P.follows .mixedOrders = true) {f : FuncId} {fn : Func} {c : Code} {LS : Nat → Option PT} {s : Sh} {x y : s.T} {args : List SV} {l : List AV} {o : OwnV} (hf : X.P.funcs[f]? = some fn) (hc : fn.body = some c)
    (hname : (fn.name == "runtime.NumGoroutine") = false) (hN : Nat.ble (args.length + 1) fn.ntmps = true) (hl : LoopsOK X fn.ntmps LS c) (h : FWMO X fn.ntmps LS fn s x args fun l' o' sl => l' = l ∧ o' = o ∧ sl = .live ⟨.one s (.val s y), true⟩) (hr : ∀ v ∈ l, noRef v = true) : PCMW X f s x y args l o := by
  refine ⟨hr, fun C ρ H1 w i B l1 l' hB hBo hBc ha hl' hs => .inl ⟨fn, hf, hname, by rw [hc]; rfl, ?_⟩⟩
  have hN := Nat.le_of_ble_eq_true hN
  unfold FWMO at h
  rw [hc] at h
  refine calls_of_wp hf hc ?_
  have hilt : i < H1.length := (List.getElem?_eq_some_iff.1 hB).1
  have hst : SR X C fn.ntmps ρ ⟨H1, fun k => if k = 0 then some i else none, fun _ => 0⟩ ⟨envOf (.av (.cell (.ptr 0 (.one s) [])) :: args), fun k => bif Nat.beq k 0 then .live ⟨.one s (.val s x), true⟩ else .fresh, 1000⟩ { tmps := (⟨l'⟩ : Array Value) ++ Array.replicate (fn.ntmps - (⟨l'⟩ : Array Value).size) undef, defers := [] } w := by
    refine ⟨Ab.envOf (.pointer (some ⟨i, 0, none⟩) :: l1), Ab.SRel.start (H := H1) hs hl' (by rw [List.length_cons, ← ha.1]; exact hN), fun k v hk => ?_, ⟨fun k z hk => ?_, fun k k' z z' j hk hk' _ _ _ => ?_, fun k hk => ?_, fun k j hk => ?_⟩⟩
    · cases k with
      | zero =>
        have hk : some (SV.av (.cell (.ptr 0 (.one s) []))) = some v := hk
        injection hk with hk
        subst hk
        exact ⟨_, rfl, VR.mkptr (M := ⟨H1, fun k => if k = 0 then some i else none, fun _ => 0⟩) (i := i) (r := .one s) (p := []) rfl (inP_nil s) (by simp only [offL, offS_nil])⟩
      | succ k =>
        obtain ⟨v1, g1, g2⟩ := ha.2 k v hk
        exact ⟨v1, g1, g2.mono (M := lk0 H1) (M' := ⟨H1, fun k => if k = 0 then some i else none, fun _ => 0⟩) (fun _ _ h _ => h) (fun _ _ h => by cases h)⟩
    · cases k with
      | zero =>
        have hk : Slot.live ⟨.one s (.val s x), true⟩ = .live z := hk
        injection hk with hk
        subst hk
        exact ⟨i, B, rfl, hB, hBo, ⟨rfl, hBc⟩, fun _ _ h => by cases h⟩
      | succ k => cases hk
    · cases k with
      | zero => cases k' with
        | zero => rfl
        | succ k' => cases hk'
      | succ k => cases hk
    · cases k with
      | zero => cases hk
      | succ k => rfl
    · cases k with
      | zero =>
        have hk : some i = some j := hk
        injection hk with hk
        subst hk; exact hilt
      | succ k => cases hk
  refine W_sound hX hcon hm c hl _ _ h C ρ _ _ w _ hst (fun e s' a' w' hk ht => ?_)
  obtain ⟨ρ', M', t1, t2, e1, t3, t4, t5⟩ := ht
  have hk : resOM X s' fn.results.toList (fun l' o' sl => l' = l ∧ o' = o ∧ sl = .live ⟨.one s (.val s y), true⟩) ∧ ∀ i, e ≠ .exit i := by
    cases e with
    | normal => exact ⟨hk, by simp⟩
    | ret => exact ⟨hk, by simp⟩
    | exit i => cases hk
  obtain ⟨hk, hx⟩ := hk
  obtain ⟨t, post, hrl, hk⟩ : ∃ t post, fn.results.toList = .tmp t :: post ∧ resOM X s' (.tmp t :: post) (fun l' o' sl => l' = l ∧ o' = o ∧ sl = .live ⟨.one s (.val s y), true⟩) := by
    unfold resOM at hk
    split at hk
    · rename_i t post h; exact ⟨t, post, h, hk⟩
    · cases hk
  unfold resOM at hk
  obtain ⟨l2, Hm, H1m, vs, k1, k2, k3, k4, k5, k6, k7⟩ := resK_sound hX _ hk t4 t5
  have hsr : Ab.SRel (x1 X) C fn.ntmps ρ' ⟨e1, H1m⟩ a' w' := ⟨sim_frz k2 t3.sim, by have := t3.env; rw [show (Ab.St.mk e1 H1m).heap.length = M'.H1.length from k2.1]; exact this, t3.size, t3.defers⟩
  have own : ∃ u i, e1 t = some u ∧ Go.Ab.isTup u = false ∧ OwnR X H1m i o u ∧ l2 = l ∧ (o.isSome = true → ∃ b, ∃ yy : (e : Sh) × List e.T, ∃ z, Hm b = .live z ∧ z.own = true ∧ M'.mu b = some i ∧ z.c = .row yy.1 yy.2) ∧ Hm 0 = .live ⟨.one s (.val s y), true⟩ := by
    dsimp only at k1
    split at k1
    · rename_i he
      obtain ⟨u, g1, g2⟩ := t4 t _ he
      have g2 : VR (gl1 X) M' (.cell .nilS) u := g2
      obtain ⟨rfl, rfl, k0⟩ := k1
      exact ⟨u, 0, g1, g2.nottup, g2.cell, rfl, (fun h => by cases h), k0⟩
    · rename_i b ee e2 off len cap he
      obtain ⟨u, g1, g2⟩ := t4 t _ he
      have g2 : VR (gl1 X) M' (.cell (.ref b (.row ee) [] e2 off len cap)) u := g2
      cases hb : ee.beq e2 with
      | false => rw [hb] at k1; cases k1
      | true =>
        rw [hb] at k1
        simp only [cond_true] at k1
        have hb := Sh.eq_of_beq hb
        subst hb
        split at k1
        · rename_i e3 xs hlive
          split at k1
          · rename_i xs' hx'
            obtain ⟨⟨rfl, rfl⟩, rfl, rfl, k0⟩ := k1
            have hb3 := castSl_eq hx'
            subst hb3
            have hxs := castSl_same hx'
            subst hxs
            obtain ⟨i, c', o', q1, q2, q3, q4, q5, q6⟩ := (VR.forget g2).cell
            obtain ⟨i', B, m1, m2, m3, m4, m5⟩ := k3.live b _ hlive
            have m1 : M'.mu b = some i' := m1
            rw [q1] at m1
            injection m1 with m1
            subst m1
            obtain ⟨n1, n2, n3⟩ := m4
            have hln : List.length xs' = M'.ln b := m5 _ _ rfl
            refine ⟨u, i, g1, g2.nottup, ⟨B, c', m2, by rw [m3], n1, n2, n3, ?_, ?_⟩, rfl, (fun _ => ⟨b, ⟨_, _⟩, _, hlive, rfl, q1, rfl⟩), k0⟩
            · have : o' = 0 := by
                have : o' ≤ 0 := by simpa [offL] using q4
                omega
              rw [q3, this]
            · rw [← hln] at q6; exact q6
          · cases k1
        · cases k1
    · cases k1
  obtain ⟨u, k, o1, o2, o3, rfl, o5, k0⟩ := own
  have hres1 : Ab.ares1 (x1 X) ⟨e1, H1m⟩ (.tmp t) = some u := by
    simp only [Ab.ares1, o1, Option.bind_some, o2, cond_false]
  have hL : Ab.aresL (x1 X) ⟨e1, H1m⟩ fn.results.toList = some (u :: vs) := by
    rw [hrl]
    show (Ab.ares1 (x1 X) ⟨e1, H1m⟩ (.tmp t)).bind (fun v => (Ab.aresL (x1 X) ⟨e1, H1m⟩ post).map fun vs => v :: vs) = _
    rw [hres1, k5]; rfl
  have hres := aresults_one hL
  obtain ⟨v', q1, q2⟩ := Ab.aresults_sound hsr hres
  obtain ⟨i', B', z1, z2, z3, z4, _⟩ := k3.live 0 _ k0
  have ei : M'.mu 0 = some i := (t2.mu 0 i (by decide) rfl).1
  have z1 : M'.mu 0 = some i' := z1
  rw [ei] at z1
  injection z1 with z1
  subst z1
  have z4 : CellsA (gl1 X) ⟨H1m, M'.mu, M'.ln⟩ (.val s y) s B'.cells := z4
  have fin : ∃ v'', Ending.returned v' = .returned v'' ∧ ∃ us u ρ' H1' k B', ListR X (lk0 H1') l2 us ∧ OwnR X H1' k o u ∧ TRel ρ' H1'.length (oneV (u :: us)) v'' ∧ (∀ j, j < H1.length → ρ' j = ρ j) ∧ Sim (x1 X) C ρ' H1' w' ∧ H1'[i]? = some (some B') ∧ B'.own = true ∧ Cells (gl1 X) H1' s y B'.cells ∧ (o.isSome = true → k ≠ i) := by
    refine ⟨v', rfl, vs, u, ρ', H1m, k, B', ⟨k6.1, fun j v hj => ?_⟩, o3, q2, t1, hsr.sim, z2, z3, z4.2, fun ho hki => ?_⟩
    · obtain ⟨u', z1, z2⟩ := k6.2 j v hj
      exact ⟨u', z1, noRef_vr (M := ⟨H1m, M'.mu, M'.ln⟩) (M' := lk0 H1m) (fun _ _ h _ => h) (k7 v (List.mem_of_getElem? hj)) z2⟩
    · obtain ⟨b, yy, z, y1, y2, y3, y4⟩ := o5 ho
      subst hki
      have e0 := k3.inj b 0 z _ k y1 k0 y2 y3 ei
      subst e0
      rw [k0] at y1
      injection y1 with y1
      subst y1
      cases y4
  cases e with
  | normal => exact ⟨t3.defers, v', q1, fin⟩
  | ret => exact ⟨t3.defers, v', q1, fin⟩
  | exit i => exact absurd rfl (hx i)
theorem vrel_flat {ρ ρ' : Nat → Ab.Loc} {n n' : Nat} {s : Sh} {x : s.T} {v' : Value} (hf : s.flat = true) (h : VRel ρ' n' (flatV s x) v') : VRel ρ n (flatV s x) v' := by
  have hp := plain_cells (x := x) hf
  unfold flatV mkV at *
  cases ha : s.isAgg with
  | true =>
    rw [ha] at h
    obtain ⟨cs', e, hl⟩ := h
    refine ⟨cs', e, hl.1, fun j v hj => ?_⟩
    obtain ⟨v2, a, r⟩ := hl.2 j v hj
    have hv := hp v (List.mem_of_getElem? hj)
    have := CRel.plain_eq hv r
    subst this
    exact ⟨_, a, CRel.plain hv⟩
  | false =>
    rw [ha] at h
    generalize cellsOf s x = cs at *
    cases cs with
    | nil => exact absurd h (fun h => h)
    | cons v cs =>
      have hv := hp v List.mem_cons_self
      cases v with
      | pointer o => cases o with
        | none => exact h
        | some a => simp [Ab.plainC] at hv
      | slice o l c => cases o with
        | none => exact h
        | some a => simp [Ab.plainC] at hv
      | agg _ => simp [Ab.plainC] at hv
      | tuple _ => simp [Ab.plainC] at hv
      | func fn fs ca =>
        have h : CRel ρ' n' (.func fn fs ca) v' := h
        have := CRel.plain_eq hv h
        subst this
        exact CRel.plain (n := n) hv
      | _ => exact h
theorem trel_list {ρ ρ' : Nat → Ab.Loc} {n n' : Nat} {u u2 : Value} {us : List Value} {v' : Value} (ht : ∀ v', TRel ρ' n' u v' → TRel ρ n u2 v') (hu : ∀ v', VRel ρ' n' u v' → VRel ρ n u2 v') (hus : ∀ z ∈ us, ∀ v', VRel ρ' n' z v' → VRel ρ n z v')
    (h : TRel ρ' n' (oneV (u :: us)) v') : TRel ρ n (oneV (u2 :: us)) v' := by
  cases us with
  | nil => exact ht v' h
  | cons z us =>
    obtain ⟨vs', e, hl⟩ := h
    have hl : LRel (VRel ρ' n') (u :: z :: us) vs'.toList := hl
    refine ⟨vs', e, hl.1, fun j v hj => ?_⟩
    cases j with
    | zero =>
      have hj : some u2 = some v := hj
      injection hj with hj
      subst hj
      obtain ⟨v2, a, r⟩ := hl.2 0 u rfl
      exact ⟨v2, a, hu v2 r⟩
    | succ j =>
      obtain ⟨v2, a, r⟩ := hl.2 (j + 1) v hj
      exact ⟨v2, a, hus v (List.mem_of_getElem? (i := j) hj) v2 r⟩
theorem sim_set {X : Cx} {C : Ab.Ctx} {ρ ρ' : Nat → Ab.Loc} {H1 H1' : Ab.Heap} {w w' : World} {i : Nat} {B B' : Ab.Blk} (hs : Sim (x1 X) C ρ H1 w) (z2 : H1[i]? = some (some B)) (z3 : B.own = true) (q4 : Sim (x1 X) ⟨w, fun b => b = (ρ i).block, 0, ρ⟩ ρ' H1' w') (hρ : ρ' i = ρ i)
    (q5 : H1'[i]? = some (some B')) (hp : ∀ v ∈ B'.cells, Ab.plainC v = true) : Sim (x1 X) C ρ (H1.set i (some B')) w' := by
  have hblk : C.S (ρ i).block ∨ C.w.heap.size ≤ (ρ i).block := hs.own i B z2 z3
  have hw : ∀ b, b < w.heap.size → b ≠ (ρ i).block → w'.heap[b]? = w.heap[b]? := fun b hb hne => q4.keep b hb hne
  have at_ : ∀ (j : Nat) b, (H1.set i (some B'))[j]? = some (some b) → (j = i ∧ b = B') ∨ (j ≠ i ∧ H1[j]? = some (some b)) := by
    intro j b hj
    rw [set_at z2] at hj
    by_cases e : j = i
    · rw [if_pos e] at hj
      injection hj with hj
      injection hj with hj
      exact .inl ⟨e, hj.symm⟩
    · rw [if_neg e] at hj
      exact .inr ⟨e, hj⟩
  exact {
    blk := fun j b hj => by
      rcases at_ j b hj with ⟨rfl, rfl⟩ | ⟨hne, g1⟩
      · obtain ⟨cs, t, fr, k1, k2, k3⟩ := q4.blk _ _ q5
        rw [hρ] at k1 k2 k3
        refine ⟨cs, t, fr, k1, k2, fun k v hv => ?_⟩
        obtain ⟨v2, r1, r2⟩ := k3 k v hv
        have hv := hp v (List.mem_of_getElem? hv)
        have e := CRel.plain_eq hv r2
        subst e
        exact ⟨_, r1, CRel.plain hv⟩
      · obtain ⟨cs, t, fr, k1, k2, k3⟩ := hs.blk j b g1
        have hd := hs.far i j B b z2 g1 z3 (fun e => hne e.symm)
        exact ⟨cs, t, fr, by rw [hw _ (Array.getElem?_eq_some_iff.1 k1).1 (fun e => hd e.symm)]; exact k1, k2, by rw [List.length_set]; exact k3⟩
    own := fun j b hj ho => by
      rcases at_ j b hj with ⟨rfl, rfl⟩ | ⟨hne, g1⟩
      · exact hblk
      · exact hs.own j b g1 ho
    far := fun j k bj bk hj hk ho hne => by
      rcases at_ j bj hj with ⟨rfl, rfl⟩ | ⟨hn1, g1⟩
      · rcases at_ k bk hk with ⟨rfl, rfl⟩ | ⟨hn2, g2⟩
        · exact absurd rfl hne
        · exact hs.far _ k B bk z2 g2 z3 hne
      · rcases at_ k bk hk with ⟨rfl, rfl⟩ | ⟨hn2, g2⟩
        · exact hs.far j _ bj B g1 z2 ho hne
        · exact hs.far j k bj bk g1 g2 ho hne
    os := q4.os.trans hs.os, tape := q4.tape.trans hs.tape, output := q4.output.trans hs.output
    size := Nat.le_trans hs.size q4.size
    keep := fun b hb hn => by
      have hne : b ≠ (ρ i).block := by
        rintro rfl
        exact hblk.elim hn (fun h => absurd hb (Nat.not_lt.2 h))
      exact (hw b (Nat.lt_of_lt_of_le hb hs.size) hne).trans (hs.keep b hb hn)
    agree := hs.agree, len := by rw [List.length_set]; exact hs.len, glob := hs.glob }
theorem sim_add {X : Cx} {C : Ab.Ctx} {ρ : Nat → Ab.Loc} {H1 : Ab.Heap} {w : World} (hs : Sim (x1 X) C ρ H1 w) {L : Ab.Loc} {B : Ab.Blk} {cs : Array Value} {t : TypeId} {fr : Nat × Nat} (k1 : w.heap[L.block]? = some (.cells cs t fr))
    (k2 : B.own = true → fr = (0, 0) ∧ cs.size = L.off + L.size ∧ B.es = L.es ∧ B.cells.length ≤ L.size) (k3 : ∀ (j : Nat) (v : Value), B.cells[j]? = some v → cs[L.off + j]? = some v ∧ Ab.plainC v = true)
    (hown : C.S L.block ∨ C.w.heap.size ≤ L.block) (hnew : ∀ (j : Nat) b, H1[j]? = some (some b) → (ρ j).block ≠ L.block) : Sim (x1 X) C (Ab.upd ρ H1.length L) (H1 ++ [some B]) w := by
  have at_ : ∀ (j : Nat) b, (H1 ++ [some B])[j]? = some (some b) → (j < H1.length ∧ H1[j]? = some (some b) ∧ Ab.upd ρ H1.length L j = ρ j) ∨ (j = H1.length ∧ b = B ∧ Ab.upd ρ H1.length L j = L) := by
    intro j b hj
    by_cases c : j < H1.length
    · rw [List.getElem?_append_left c] at hj
      exact .inl ⟨c, hj, Ab.upd_lt j c⟩
    · rw [List.getElem?_append_right (by omega)] at hj
      have e : j - H1.length = 0 := by
        have := (List.getElem?_eq_some_iff.1 hj).1
        simp at this; omega
      rw [e] at hj
      have hj : some (some B) = some (some b) := hj
      injection hj with hj
      injection hj with hj
      have ej : j = H1.length := by omega
      subst ej
      exact .inr ⟨rfl, hj.symm, Ab.upd_same⟩
  exact {
    blk := fun j b hj => by
      rcases at_ j b hj with ⟨c, g1, g2⟩ | ⟨c, rfl, g2⟩
      · obtain ⟨cs, t, fr, k1, k2, k3⟩ := hs.blk j b g1
        rw [g2]
        exact ⟨cs, t, fr, k1, k2, fun k v hv => by
          obtain ⟨v', r1, r2⟩ := k3 k v hv
          exact ⟨v', r1, r2.mono Ab.upd_lt (by rw [List.length_append]; exact Nat.le_succ _)⟩⟩
      · rw [g2]
        exact ⟨cs, t, fr, k1, k2, fun k v hv => ⟨v, (k3 k v hv).1, CRel.plain (k3 k v hv).2⟩⟩
    own := fun j b hj ho => by
      rcases at_ j b hj with ⟨c, g1, g2⟩ | ⟨c, rfl, g2⟩
      · rw [g2]; exact hs.own j b g1 ho
      · rw [g2]; exact hown
    far := fun j k bj bk hj hk2 ho hne => by
      rcases at_ j bj hj with ⟨c, g1, g2⟩ | ⟨c, rfl, g2⟩
      · rcases at_ k bk hk2 with ⟨c', g1', g2'⟩ | ⟨c', rfl, g2'⟩
        · rw [g2, g2']; exact hs.far j k bj bk g1 g1' ho hne
        · rw [g2, g2']; exact hnew j bj g1
      · rcases at_ k bk hk2 with ⟨c', g1', g2'⟩ | ⟨c', rfl, g2'⟩
        · rw [g2, g2']; exact fun e => hnew k bk g1' e.symm
        · exact absurd (c.trans c'.symm) hne
    os := hs.os, tape := hs.tape, output := hs.output, size := hs.size, keep := hs.keep
    agree := fun j hj => (Ab.upd_lt j (Nat.lt_of_lt_of_le hj hs.len)).trans (hs.agree j hj)
    len := Nat.le_trans hs.len (by rw [List.length_append]; exact Nat.le_succ _)
    glob := hs.glob }
theorem sim_but {X : Cx} {C : Ab.Ctx} {ρ : Nat → Ab.Loc} {H1 : Ab.Heap} {w : World} {i : Nat} {B : Ab.Blk} (hs : Sim (x1 X) C ρ H1 w) (z2 : H1[i]? = some (some B)) (z3 : B.own = true) : Sim (x1 X) ⟨w, fun b => b = (ρ i).block, 0, ρ⟩ ρ (frzBut H1 i B) w := by
  have hblk : C.S (ρ i).block ∨ C.w.heap.size ≤ (ρ i).block := hs.own i B z2 z3
  exact {
  blk := fun j b hb => by
    rw [frzBut_len]
    rcases frzBut_at z2 hb with ⟨rfl, rfl⟩ | ⟨hne, b0, g1, rfl⟩
    · exact hs.blk _ _ z2
    · obtain ⟨cs, t, fr, q1, q2, q3⟩ := hs.blk j b0 g1
      exact ⟨cs, t, fr, q1, (fun h => by cases h), q3⟩
  own := fun j b hb ho => by
    rcases frzBut_at z2 hb with ⟨rfl, rfl⟩ | ⟨hne, b0, g1, rfl⟩
    · exact .inl rfl
    · cases ho
  far := fun j k bj bk hj hk ho hne => by
    rcases frzBut_at z2 hj with ⟨rfl, rfl⟩ | ⟨_, b0, g1, rfl⟩
    · rcases frzBut_at z2 hk with ⟨rfl, rfl⟩ | ⟨_, b1, g2, rfl⟩
      · exact absurd rfl hne
      · exact hs.far _ k _ b1 z2 g2 ho hne
    · cases ho
  os := rfl, tape := rfl, output := rfl, size := Nat.le_refl _, keep := fun _ _ _ => rfl, agree := fun _ _ => rfl, len := Nat.zero_le _
  glob := fun g l hgl => by
    obtain ⟨a1, a2, cs, t, fr, a3, a4⟩ := hs.glob g l hgl
    have hlt : g < C.w.heap.size := (Array.getElem?_eq_some_iff.1 a3).1
    refine ⟨fun e => ?_, a2, cs, t, fr, (hs.keep g hlt a1).trans a3, a4⟩
    have e : g = (ρ i).block := e
    rw [← e] at hblk
    exact hblk.elim a1 (fun h => absurd hlt (Nat.not_lt.2 h)) }
def conMW (s : Sh) (as : List Ar) (G : s.T → HA as → s.T) (F : s.T → HA as → WT) : ConT := fun args nid => match args with
  | .av (.cell (.ptr b (.one s') [])) :: rest => bif s'.beq s && rest.all noRefS then (match parseA as rest with
      | some xs => .look b fun k => match k with
          | ⟨.one _ (.val s3 x), true⟩ => .ofO (castTo s3 s x) fun x => .put b ⟨.one s (.val s (G x xs)), true⟩ ((F x xs).act 0 nid)
          | _ => .fail
      | none => .fail) else .fail
  | _ => .fail
def flatL1 (l : List AV) : Prop := ∀ v ∈ l, ∃ t e, v = .val t e ∧ t.flat = true
theorem conMW_ok {P : Program} {gl : Nat → Option ((s : Sh) × s.T)} {f : FuncId} {s : Sh} {as : List Ar} {G : s.T → HA as → s.T} {F : s.T → HA as → WT} (hsf : s.flat = true)
    (h : ∀ (x : s.T) (xs : HA as), s.wfT x → wfHA as xs → (F x xs).cond → PCMW (bx P gl) f s x (G x xs) (argsA as xs) (F x xs).val.1 (F x xs).val.2)
    (hr : ∀ x xs, flatL1 (F x xs).val.1 ∧ ∀ e ys, (F x xs).val.2 = some ⟨e, ys⟩ → e.flat = true) : COK P gl f (conMW s as G F) := by
  intro C ρ M H w args l1 l' nid v H' hex ha hl hs hH
  unfold conMW at hex
  split at hex
  · rename_i b s' rest
    simp only [Ex_bif, Ex_fail, and_false, or_false, Bool.and_eq_true] at hex
    obtain ⟨⟨hbs, hno⟩, hex⟩ := hex
    cases hg : parseA as rest with
    | none => rw [hg] at hex; simp at hex
    | some xs =>
      rw [hg] at hex
      simp only [Ex_look] at hex
      obtain ⟨k, hk, hex⟩ := hex
      split at hex
      · rename_i s2 s3 x0
        simp only [Ex_ofO, Ex_put] at hex
        obtain ⟨x, hx, y0, _, hex⟩ := hex
        have hex := Ex_pre.1 (WT.act_val hex)
        obtain ⟨hp, hex⟩ := hex
        obtain ⟨u, l2, rfl, hu, har⟩ := ha.inv
        obtain ⟨i, q1, q2, rfl⟩ := VR.cell hu
        obtain ⟨i', B, z1, z2, z3, z4, z5⟩ := hH.live b _ hk
        rw [q1] at z1
        injection z1 with z1
        subst z1
        obtain ⟨rfl, z4⟩ : s3 = s2 ∧ Cells (gl1 (bx P gl)) M.H1 s3 x0 B.cells := z4
        have hc := castTo_cells2 hx z4
        have hc0 : B.cells = cellsOf s x := cellsOf_eq hsf hc
        have hoff : offL (.one s') [] = 0 := by simp only [offL, offS_nil]
        rw [hoff] at hl
        have hilt : i < M.H1.length := (List.getElem?_eq_some_iff.1 z2).1
        have hro : RoLe M.H1 (frzBut M.H1 i B) := by
          intro j b' hb' ho
          have hne : j ≠ i := by
            rintro rfl
            rw [z2] at hb'
            injection hb' with hb'
            injection hb' with hb'
            subst hb'
            rw [z3] at ho; cases ho
          unfold frzBut
          rw [set_at (frzAll_at z2), if_neg hne, frzAll_at hb']
          cases b'; cases ho; rfl
        have har' : ArgsR (bx P gl) (lk0 (frzBut M.H1 i B)) rest l2 := ⟨har.1, fun j v hv => by
          obtain ⟨u', y1, y2⟩ := har.2 j v hv
          exact ⟨u', y1, noRef_svr (M := M) (M' := lk0 (frzBut M.H1 i B)) hro (List.all_eq_true.1 hno v (List.mem_of_getElem? hv)) y2⟩⟩
        have ha' := argsA_parse hg har'
        obtain ⟨hnr, hpc⟩ := h x xs hc.wf (argsA_wf ha') hp
        obtain ⟨hfl, hfe⟩ := hr x xs
        have key := hpc ⟨w, fun b => b = (ρ i).block, 0, ρ⟩ ρ (frzBut M.H1 i B) w i B l2 l' (by unfold frzBut; rw [set_at (frzAll_at z2), if_pos rfl]) z3 (by rw [hc0]; exact cells_of hsf hc.wf) ha' (by rw [frzBut_len]; exact hl) (sim_but hs z2 z3)
        have fin : ∀ v' w', (∃ us u ρ' H1' k B', ListR (bx P gl) (lk0 H1') (F x xs).val.1 us ∧ OwnR (bx P gl) H1' k (F x xs).val.2 u ∧ TRel ρ' H1'.length (oneV (u :: us)) v' ∧ (∀ j, j < (frzBut M.H1 i B).length → ρ' j = ρ j) ∧ Sim (x1 (bx P gl)) ⟨w, fun b => b = (ρ i).block, 0, ρ⟩ ρ' H1' w' ∧ H1'[i]? = some (some B') ∧ B'.own = true ∧ Cells (gl1 (bx P gl)) H1' s (G x xs) B'.cells ∧ ((F x xs).val.2.isSome = true → k ≠ i)) →
            ∃ u v1 ρ' M', v = some u ∧ SVR (gl1 (bx P gl)) M' u v1 ∧ TRel ρ' M'.H1.length v1 v' ∧ (∀ i, i < M.H1.length → ρ' i = ρ i) ∧ Sim (x1 (bx P gl)) C ρ' M'.H1 w' ∧ HR (gl1 (bx P gl)) M' H' ∧ Ext M H M' H' := by
          rintro v' w' ⟨us, u, ρ', H1', k, B', p1, p2, p3, q3, q4, q5, q6, q7, q8⟩
          have hρ : ρ' i = ρ i := q3 i (by rw [frzBut_len]; exact hilt)
          have hcells : B'.cells = cellsOf s (G x xs) := cellsOf_eq hsf q7
          have hp1 : ∀ v ∈ B'.cells, Ab.plainC v = true := fun v hv => plain_cells (x := G x xs) hsf v (by rw [← hcells]; exact hv)
          obtain ⟨hA, hE⟩ := put_step hH hk rfl q1 z2 z3 q6 (c' := .one s (.val s (G x xs))) (B' := B') ⟨rfl, by rw [hcells]; exact cells_of hsf q7.wf⟩ (fun _ _ h => by cases h)
          have hS := sim_set hs z2 z3 q4 hρ q5 hp1
          have hus : ∀ (n : Nat) (ρ2 : Nat → Ab.Loc), ∀ z ∈ us, ∀ v', VRel ρ' H1'.length z v' → VRel ρ2 n z v' := fun n ρ2 z hz v' hv => by
            obtain ⟨j, hj⟩ := List.getElem?_of_mem hz
            have hjl : j < (F x xs).val.1.length := by rw [p1.1]; exact (List.getElem?_eq_some_iff.1 hj).1
            obtain ⟨z2, y1, y2⟩ := p1.2 j _ (List.getElem?_eq_getElem hjl)
            rw [hj] at y1
            injection y1 with y1
            subst y1
            obtain ⟨t, e, ev, hf⟩ := hfl _ (List.getElem_mem hjl)
            rw [ev] at y2
            have := VR.flat hf y2
            subst this
            exact vrel_flat hf hv
          have lst : ∀ M' : Lk, ListR (bx P gl) M' (F x xs).val.1 us := fun M' => ⟨p1.1, fun j a hj => by
            obtain ⟨u', y1, y2⟩ := p1.2 j a hj
            obtain ⟨t, e, rfl, hf⟩ := hfl a (List.mem_of_getElem? hj)
            obtain ⟨cs, g1, g2⟩ := y2.val
            have := VR.flat hf y2
            subst this
            exact ⟨_, y1, VR.mkflat hf g1.wf⟩⟩
          generalize (F x xs).val.1 = l at *
          generalize (F x xs).val.2 = o at *
          cases o with
          | none =>
            have hex : Ex (.ret (some (one (insA 0 l (.cell .nilS))))) (H.put b (.live ⟨.one s (.val s (G x xs)), true⟩)) v H' := hex
            rw [Ex_ret] at hex
            obtain ⟨rfl, rfl⟩ := hex
            have p2 : u = .slice none 0 0 := p2
            subst p2
            refine ⟨_, _, ρ, ⟨M.H1.set i (some B'), M.mu, M.ln⟩, rfl, SVR.one_ ((lst ⟨M.H1.set i (some B'), M.mu, M.ln⟩).ins (np := 0) (v := .cell .nilS) (u := .slice none 0 0) ⟨.sl .bool, [.slice none 0 0], ⟨rfl, _, rfl, rfl⟩, rfl⟩), trel_list (ρ := ρ) (ρ' := ρ') (n' := H1'.length) (us := us) (u := .slice none 0 0) (u2 := .slice none 0 0) (fun _ h => h) (fun _ h => h) (hus _ _) p3, fun _ _ => rfl, hS, hA, hE⟩
          | some ex =>
            obtain ⟨e, ys⟩ := ex
            have hef := hfe e ys rfl
            have hex : Ex (.new nid ⟨.row e ys, true⟩ (.ret (some (one (insA 0 l (.cell (.ref nid (.row e) [] e 0 (List.length ys) none))))))) (H.put b (.live ⟨.one s (.val s (G x xs)), true⟩)) v H' := hex
            rw [Ex_new, Ex_ret] at hex
            obtain ⟨hf, rfl, rfl⟩ := hex
            obtain ⟨Bk, c, b1, b2, b3, b4, b5, b6, b7⟩ := p2
            subst b6
            have hki : k ≠ i := q8 rfl
            obtain ⟨g1, g2⟩ := allC_flat (B := M.H1.set i (some B') ++ [some Bk]) hef b3
            have hlen : (M.H1.set i (some B')).length = M.H1.length := List.length_set
            obtain ⟨cs, t, fr, r1, r2, r3⟩ := q4.blk k Bk b1
            have hfar : (ρ i).block ≠ (ρ' k).block := by
              have := q4.far i k B' Bk q5 b1 q6 (fun e => hki e.symm)
              rw [hρ] at this; exact this
            have hfresh : w.heap.size ≤ (ρ' k).block := (q4.own k Bk b1 b2).elim (fun e => absurd e.symm hfar) id
            have hN := sim_add (L := ρ' k) (B := Bk) hS r1 r2 (fun j v hv => by
              obtain ⟨v2, y1, y2⟩ := r3 j v hv
              have hv := g2 v (List.mem_of_getElem? hv)
              have := CRel.plain_eq hv y2
              subst this
              exact ⟨y1, hv⟩) (.inr (Nat.le_trans hs.size hfresh)) (fun j b' hj => by
              rw [set_at z2] at hj
              by_cases e : j = i
              · subst e; exact hfar
              · rw [if_neg e] at hj
                obtain ⟨cs, t, fr, y1, _⟩ := hs.blk j b' hj
                have := (Array.getElem?_eq_some_iff.1 y1).1
                omega)
            rw [hlen] at hN
            obtain ⟨w1, w2⟩ := HR_keep (B := M.H1.set i (some B') ++ [some Bk]) hA (fun j b hb => by rw [List.getElem?_append_left (List.getElem?_eq_some_iff.1 hb).1]; exact hb) (by rw [List.length_append]; exact Nat.le_succ _)
            have hno2 : ∀ k z, (H.put b (.live ⟨.one s (.val s (G x xs)), true⟩)) k = .live z → M.mu k ≠ some M.H1.length := fun k z _ hmu => absurd (hH.lt k _ hmu) (Nat.lt_irrefl _)
            have hB2 := adopt_step (M := ⟨M.H1.set i (some B') ++ [some Bk], M.mu, M.ln⟩) (i := M.H1.length) w1 hf (by show (M.H1.set i (some B') ++ [some Bk])[M.H1.length]? = _; rw [List.getElem?_append_right (by rw [hlen]; exact Nat.le_refl _), hlen, Nat.sub_self]; rfl) b2 g1 b4 b5 hno2
            have hE2 := hE.trans w2
            have hnone : M.mu nid = none := hA.fresh nid hf
            have hup : ∀ k j, M.mu k = some j → updN M.mu nid (some M.H1.length) k = some j ∧ updN M.ln nid (List.length ys) k = M.ln k := by
              intro k j hk
              have e : k ≠ nid := by rintro rfl; rw [hnone] at hk; cases hk
              exact ⟨by unfold updN; rw [if_neg e]; exact hk, by unfold updN; rw [if_neg e]⟩
            refine ⟨_, _, Ab.upd ρ M.H1.length (ρ' k), ⟨M.H1.set i (some B') ++ [some Bk], updN M.mu nid (some M.H1.length), updN M.ln nid (List.length ys)⟩, rfl, SVR.one_ ((lst ⟨M.H1.set i (some B') ++ [some Bk], updN M.mu nid (some M.H1.length), updN M.ln nid (List.length ys)⟩).ins (np := 0) (v := .cell (.ref nid (.row e) [] e 0 (List.length ys) none)) (u := .slice (some ⟨M.H1.length, 0, none⟩) (List.length ys) c) ?_), trel_list (ρ := Ab.upd ρ M.H1.length (ρ' k)) (ρ' := ρ') (n' := H1'.length) (us := us) (u := .slice (some ⟨k, 0, none⟩) (List.length ys) c) (u2 := .slice (some ⟨M.H1.length, 0, none⟩) (List.length ys) c) ?_ ?_ (hus _ _) p3, fun j hj => Ab.upd_lt j hj, hN, hB2, ?_⟩
            · refine .mkref (c := c) (o := 0) (i := M.H1.length) (by simp [updN]) (.inr ⟨rfl, rfl, by simp [updN], fun k hk => by cases hk⟩) rfl (by simp [offL]) (.inl (by simp [offL])) (by show capIs (updN M.ln nid (List.length ys) nid) 0 (List.length ys) none c; simpa [updN] using b7)
            · intro v' hv
              obtain ⟨hp, a', c', rfl, hcr⟩ := TRel.slc hv
              refine ⟨fun _ => by rw [List.length_append, hlen]; exact Nat.lt_succ_self _, a', c', rfl, ?_⟩
              unfold Ab.capRel at hcr ⊢
              simp only [Ab.locA, Ab.upd_same] at hcr ⊢
              exact hcr
            · intro v' hv
              obtain ⟨hp, a', c', rfl, hcr⟩ := TRel.slc (ρ := ρ') (n := H1'.length) (v' := v') hv
              refine ⟨fun _ => by rw [List.length_append, hlen]; exact Nat.lt_succ_self _, a', c', rfl, ?_⟩
              unfold Ab.capRel at hcr ⊢
              simp only [Ab.locA, Ab.upd_same] at hcr ⊢
              exact hcr
            · refine { len := hE2.len, mu := fun k j hk => hup k j hk, keep := fun j b' hb hfo => ?_, ro := hE2.ro }
              obtain ⟨y1, y2⟩ := hE2.keep j b' hb hfo
              refine ⟨y1, fun k z hk ho hm => ?_⟩
              rw [put_at] at hk
              have hm : updN M.mu nid (some M.H1.length) k = some j := hm
              by_cases ek : k = nid
              · subst ek
                unfold updN at hm
                rw [if_pos rfl] at hm
                injection hm with hm
                subst hm
                exact absurd (List.getElem?_eq_some_iff.1 hb).1 (Nat.lt_irrefl _)
              · rw [if_neg ek] at hk
                unfold updN at hm
                rw [if_neg ek] at hm
                exact y2 k z hk ho hm
        rcases key with ⟨fn, c1, c2, c3, c4⟩ | ⟨v', w', c1, c2⟩
        · exact .inl ⟨fn, c1, c2, c3, c4.mono fun en w' ⟨v', e1, e2⟩ => ⟨v', e1, fin v' w' e2⟩⟩
        · exact .inr ⟨v', w', c1, fin v' w' c2⟩
      · simp at hex
  · simp at hex
end Go.Ty
namespace Go.Ty
open Go.Ab (TRel VRel LRel CRel ERel Sim)
def PCG (X : Cx) (f : FuncId) (s : Sh) (x y : s.T) (args : List SV) (r : SV) : Prop := noRefS r = true ∧ ∀ (C : Ab.Ctx) (ρ : Nat → Ab.Loc) (H1 : Ab.Heap) (w : World) (i : Nat) (B : Ab.Blk) (l1 l' : List Value),
  H1[i]? = some (some B) → B.own = true → Cells (gl1 X) H1 s x B.cells → ArgsR X (lk0 H1) args l1 → LRel (TRel ρ H1.length) (.pointer (some ⟨i, 0, none⟩) :: l1) l' → Sim (x1 X) C ρ H1 w →
  CallR X f l' w fun v' w' => ∃ v1 ρ' H1' B', SVR (gl1 X) (lk0 H1') r v1 ∧ TRel ρ' H1'.length v1 v' ∧ (∀ j, j < H1.length → ρ' j = ρ j) ∧ Sim (x1 X) C ρ' H1' w' ∧ H1'[i]? = some (some B') ∧ B'.own = true ∧ Cells (gl1 X) H1' s y B'.cells ∧ H1.length ≤ H1'.length ∧ ∀ (j : Nat) b, j ≠ i → H1[j]? = some (some b) → H1'[j]? = some (some b)
theorem FWM_pcg {X : Cx} (hX : XOK X) (hcon : ConsOK X) (hm : X.P.follows .mixedOrders = true) {f : FuncId} {fn : Func} {c : Code} {LS : Nat → Option PT} {s : Sh} {x y : s.T} {args : List SV} {r : SV} (hf : X.P.funcs[f]? = some fn) (hc : fn.body = some c)
    (hname : (fn.name == "runtime.NumGoroutine") = false) (hN : Nat.ble (args.length + 1) fn.ntmps = true) (hl : LoopsOK X fn.ntmps LS c) (h : FWM X fn.ntmps LS fn s x args fun r' sl => r' = r ∧ sl = .live ⟨.one s (.val s y), true⟩) (hr : noRefS r = true) : PCG X f s x y args r := by
  refine ⟨hr, fun C ρ H1 w i B l1 l' hB hBo hBc ha hl' hs => .inl ⟨fn, hf, hname, by rw [hc]; rfl, ?_⟩⟩
  have hN := Nat.le_of_ble_eq_true hN
  unfold FWM at h
  rw [hc] at h
  refine calls_of_wp hf hc ?_
  have hilt : i < H1.length := (List.getElem?_eq_some_iff.1 hB).1
  have hst : SR X C fn.ntmps ρ ⟨H1, fun k => if k = 0 then some i else none, fun _ => 0⟩ ⟨envOf (.av (.cell (.ptr 0 (.one s) [])) :: args), fun k => bif Nat.beq k 0 then .live ⟨.one s (.val s x), true⟩ else .fresh, 1000⟩ { tmps := (⟨l'⟩ : Array Value) ++ Array.replicate (fn.ntmps - (⟨l'⟩ : Array Value).size) undef, defers := [] } w := by
    refine ⟨Ab.envOf (.pointer (some ⟨i, 0, none⟩) :: l1), Ab.SRel.start (H := H1) hs hl' (by rw [List.length_cons, ← ha.1]; exact hN), fun k v hk => ?_, ⟨fun k z hk => ?_, fun k k' z z' j hk hk' _ _ _ => ?_, fun k hk => ?_, fun k j hk => ?_⟩⟩
    · cases k with
      | zero =>
        have hk : some (SV.av (.cell (.ptr 0 (.one s) []))) = some v := hk
        injection hk with hk
        subst hk
        exact ⟨_, rfl, VR.mkptr (M := ⟨H1, fun k => if k = 0 then some i else none, fun _ => 0⟩) (i := i) (r := .one s) (p := []) rfl (inP_nil s) (by simp only [offL, offS_nil])⟩
      | succ k =>
        obtain ⟨v1, g1, g2⟩ := ha.2 k v hk
        exact ⟨v1, g1, g2.mono (M := lk0 H1) (M' := ⟨H1, fun k => if k = 0 then some i else none, fun _ => 0⟩) (fun _ _ h _ => h) (fun _ _ h => by cases h)⟩
    · cases k with
      | zero =>
        have hk : Slot.live ⟨.one s (.val s x), true⟩ = .live z := hk
        injection hk with hk
        subst hk
        exact ⟨i, B, rfl, hB, hBo, ⟨rfl, hBc⟩, fun _ _ h => by cases h⟩
      | succ k => cases hk
    · cases k with
      | zero => cases k' with
        | zero => rfl
        | succ k' => cases hk'
      | succ k => cases hk
    · cases k with
      | zero => cases hk
      | succ k => rfl
    · cases k with
      | zero =>
        have hk : some i = some j := hk
        injection hk with hk
        subst hk; exact hilt
      | succ k => cases hk
  refine W_sound hX hcon hm c hl _ _ h C ρ _ _ w _ hst (fun e s' a' w' hk ht => ?_)
  obtain ⟨ρ', M', t1, t2, e1, t3, t4, t5⟩ := ht
  have hk : resK X s' fn.results.toList (fun l H => one l = r ∧ H 0 = .live ⟨.one s (.val s y), true⟩) ∧ ∀ i, e ≠ .exit i := by
    cases e with
    | normal => exact ⟨hk, by simp⟩
    | ret => exact ⟨hk, by simp⟩
    | exit i => cases hk
  obtain ⟨hk, hx⟩ := hk
  obtain ⟨l, Hm, H1m, vs, k1, k2, k3, k4, k5, k6, k7⟩ := resK_sound hX _ hk t4 t5
  have hsr : Ab.SRel (x1 X) C fn.ntmps ρ' ⟨e1, H1m⟩ a' w' := ⟨sim_frz k2 t3.sim, by have := t3.env; rw [show (Ab.St.mk e1 H1m).heap.length = M'.H1.length from k2.1]; exact this, t3.size, t3.defers⟩
  have hres := aresults_one k5
  obtain ⟨v', q1, q2⟩ := Ab.aresults_sound hsr hres
  have hone := SVR.one_ k6
  rw [k1.1] at hone
  obtain ⟨i', B', z1, z2, z3, z4, _⟩ := k3.live 0 _ k1.2
  have ei : M'.mu 0 = some i := (t2.mu 0 i (by decide) rfl).1
  have z1 : M'.mu 0 = some i' := z1
  rw [ei] at z1
  injection z1 with z1
  subst z1
  have z4 : CellsA (gl1 X) ⟨H1m, M'.mu, M'.ln⟩ (.val s y) s B'.cells := z4
  have fin : ∃ v'', Ending.returned v' = .returned v'' ∧ ∃ v1 ρ' H1' B', SVR (gl1 X) (lk0 H1') r v1 ∧ TRel ρ' H1'.length v1 v'' ∧ (∀ j, j < H1.length → ρ' j = ρ j) ∧ Sim (x1 X) C ρ' H1' w' ∧ H1'[i]? = some (some B') ∧ B'.own = true ∧ Cells (gl1 X) H1' s y B'.cells ∧ H1.length ≤ H1'.length ∧ ∀ (j : Nat) b, j ≠ i → H1[j]? = some (some b) → H1'[j]? = some (some b) :=
    ⟨v', rfl, _, ρ', H1m, B', noRef_svr (M := ⟨H1m, M'.mu, M'.ln⟩) (M' := lk0 H1m) (fun _ _ h _ => h) hr hone, q2, t1, hsr.sim, z2, z3, z4.2, by
      have h1 : H1.length ≤ M'.H1.length := t2.len
      rw [k2.1]; exact h1, fun j b hne hb => ((t2.trans k4.w).keep j b hb (fun k z hk _ hmu => by
        cases k with
        | zero =>
          have hmu : some i = some j := hmu
          injection hmu with hmu
          exact hne hmu.symm
        | succ k => cases hk)).1⟩
  cases e with
  | normal => exact ⟨t3.defers, v', q1, fin⟩
  | ret => exact ⟨t3.defers, v', q1, fin⟩
  | exit i => exact absurd rfl (hx i)
def conG (s : Sh) (as : List Ar) (G : s.T → HA as → s.T) (F : s.T → HA as → RT) : ConT := fun args _ => match args with
  | .av (.cell (.ptr b (.one s') [])) :: rest => bif s'.beq s then frzL rest (fun rest => match parseA as rest with
      | some xs => .look b fun k => match k with
          | ⟨.one _ (.val s3 x), true⟩ => .ofO (castTo s3 s x) fun x => .put b ⟨.one s (.val s (G x xs)), true⟩ ((F x xs).act)
          | _ => .fail
      | none => .fail) else .fail
  | _ => .fail
theorem conG_ok {P : Program} {gl : Nat → Option ((s : Sh) × s.T)} {f : FuncId} {s : Sh} {as : List Ar} {G : s.T → HA as → s.T} {F : s.T → HA as → RT}
    (h : ∀ (x : s.T) (xs : HA as), s.wfT x → wfHA as xs → (F x xs).cond → PCG (bx P gl) f s x (G x xs) (argsA as xs) (F x xs).val) : COK P gl f (conG s as G F) := by
  intro C ρ M0 H0 w args l1 l' nid v H' hex ha hl hs0 hH0
  unfold conG at hex
  split at hex
  · rename_i b s' rest
    simp only [Ex_bif, Ex_fail, and_false, or_false] at hex
    obtain ⟨hbs, hex⟩ := hex
    obtain ⟨u, l2, rfl, hu, har⟩ := ha.inv
    obtain ⟨l3, H, H1m, hex, k2, har, hH, hx0, k6⟩ := frzL_sound hex har hH0
    have hs := sim_frz k2 hs0
    obtain ⟨i, q1, q2, rfl⟩ := VR.cell hu
    have hoff : offL (.one s') [] = 0 := by simp only [offL, offS_nil]
    rw [hoff] at hl
    cases hg : parseA as l3 with
    | none => rw [hg] at hex; simp at hex
    | some xs =>
      rw [hg] at hex
      simp only [Ex_look] at hex
      obtain ⟨k, hk, hex⟩ := hex
      split at hex
      · rename_i s2 s3 x0
        simp only [Ex_ofO, Ex_put] at hex
        obtain ⟨x, hx, y0, _, hex⟩ := hex
        have hex := Ex_pre.1 (RT.act_val hex)
        obtain ⟨hp, hex⟩ := hex
        simp only [Ex_ret] at hex
        obtain ⟨rfl, rfl⟩ := hex
        obtain ⟨i', B, z1, z2, z3, z4, z5⟩ := hH.live b _ hk
        have z1 : M0.mu b = some i' := z1
        rw [q1] at z1
        injection z1 with z1
        subst z1
        have z2 : H1m[i]? = some (some B) := z2
        have z3 : B.own = true := z3
        obtain ⟨rfl, z4⟩ : s3 = s2 ∧ Cells (gl1 (bx P gl)) H1m s3 x0 B.cells := z4
        have hc := castTo_cells2 hx z4
        have har' : ArgsR (bx P gl) (lk0 H1m) l3 l2 := ⟨har.1, fun j v hv => by
          obtain ⟨u', y1, y2⟩ := har.2 j v hv
          exact ⟨u', y1, noRef_svr (M := ⟨H1m, M0.mu, M0.ln⟩) (M' := lk0 H1m) (fun _ _ h _ => h) (k6 v (List.mem_of_getElem? hv)) y2⟩⟩
        have ha' := argsA_parse hg har'
        obtain ⟨hnr, hpc⟩ := h x xs hc.wf (argsA_wf ha') hp
        have key := hpc C ρ H1m w i B l2 l' z2 z3 hc ha' (by rw [k2.1]; exact hl) hs
        have fin : ∀ v' w', (∃ v1 ρ' H1' B', SVR (gl1 (bx P gl)) (lk0 H1') (F x xs).val v1 ∧ TRel ρ' H1'.length v1 v' ∧ (∀ j, j < H1m.length → ρ' j = ρ j) ∧ Sim (x1 (bx P gl)) C ρ' H1' w' ∧ H1'[i]? = some (some B') ∧ B'.own = true ∧ Cells (gl1 (bx P gl)) H1' s (G x xs) B'.cells ∧ H1m.length ≤ H1'.length ∧ ∀ (j : Nat) b, j ≠ i → H1m[j]? = some (some b) → H1'[j]? = some (some b)) →
            ∃ u v1 ρ' M', some (F x xs).val = some u ∧ SVR (gl1 (bx P gl)) M' u v1 ∧ TRel ρ' M'.H1.length v1 v' ∧ (∀ i, i < M0.H1.length → ρ' i = ρ i) ∧ Sim (x1 (bx P gl)) C ρ' M'.H1 w' ∧ HR (gl1 (bx P gl)) M' (H.put b (.live ⟨.one s (.val s (G x xs)), true⟩)) ∧ Ext M0 H0 M' (H.put b (.live ⟨.one s (.val s (G x xs)), true⟩)) := by
          rintro v' w' ⟨v1, ρ', H1', B', p1, p2, p3, p4, p5, p6, p7, p8, p9⟩
          have hro : RoLe H1m H1' := by
            intro j b' hb' ho
            refine p9 j b' ?_ hb'
            rintro rfl
            rw [z2] at hb'
            injection hb' with hb'
            injection hb' with hb'
            subst hb'
            rw [z3] at ho; cases ho
          have hHR : HR (gl1 (bx P gl)) ⟨H1', M0.mu, M0.ln⟩ (H.put b (.live ⟨.one s (.val s (G x xs)), true⟩)) := by
            have look : ∀ k z, (H.put b (.live ⟨.one s (.val s (G x xs)), true⟩)) k = .live z → (k = b ∧ z = ⟨.one s (.val s (G x xs)), true⟩) ∨ (k ≠ b ∧ H k = .live z) := by
              intro k z hk
              rw [put_at] at hk
              by_cases e : k = b
              · rw [if_pos e] at hk; injection hk with hk; exact .inl ⟨e, hk.symm⟩
              · rw [if_neg e] at hk; exact .inr ⟨e, hk⟩
            refine { live := fun k z hz => ?_, inj := fun k k' z z' j hz hz' hoz hm hm' => ?_, fresh := fun k hz => ?_, lt := fun k j hm => Nat.lt_of_lt_of_le (hH.lt k j hm) p8 }
            · rcases look k z hz with ⟨rfl, rfl⟩ | ⟨hne, hz⟩
              · exact ⟨i, B', q1, p5, p6, ⟨rfl, p7⟩, fun _ _ h => by cases h⟩
              · obtain ⟨j, B2, g1, g2, g3, g4, g5⟩ := hH.live k z hz
                have ej : j ≠ i := by
                  rintro rfl
                  exact hne (hH.inj b k _ z j hk hz rfl q1 g1).symm
                exact ⟨j, B2, g1, p9 j B2 ej g2, g3, g4.mono (M := ⟨H1m, M0.mu, M0.ln⟩) (M' := ⟨H1', M0.mu, M0.ln⟩) hro (fun _ _ h => ⟨h, rfl⟩), g5⟩
            · rcases look k z hz with ⟨rfl, rfl⟩ | ⟨hne, hz0⟩
              · rcases look k' z' hz' with ⟨rfl, rfl⟩ | ⟨hne', hz0'⟩
                · rfl
                · exact hH.inj k k' _ z' j hk hz0' rfl hm hm'
              · rcases look k' z' hz' with ⟨rfl, rfl⟩ | ⟨hne', hz0'⟩
                · exact hH.inj k k' z _ j hz0 hk hoz hm hm'
                · exact hH.inj k k' z z' j hz0 hz0' hoz hm hm'
            · rw [put_at] at hz
              by_cases e : k = b
              · rw [if_pos e] at hz; cases hz
              · rw [if_neg e] at hz; exact hH.fresh k hz
          refine ⟨_, v1, ρ', ⟨H1', M0.mu, M0.ln⟩, rfl, noRef_svr (M := lk0 H1') (M' := ⟨H1', M0.mu, M0.ln⟩) (fun _ _ h _ => h) hnr p1, p2, fun j hj => p3 j (by rw [k2.1]; exact hj), p4, hHR, hx0.trans ?_⟩
          refine { len := p8, mu := fun _ _ h => ⟨h, rfl⟩, keep := fun j b' hb' hfo => ?_, ro := hro }
          have ej : j ≠ i := by
            rintro rfl
            exact hfo b _ hk rfl q1
          refine ⟨p9 j b' ej hb', fun k z hz ho hm => ?_⟩
          rw [put_at] at hz
          by_cases e : k = b
          · subst e
            have hm : M0.mu k = some j := hm
            rw [q1] at hm
            injection hm with hm
            exact ej hm.symm
          · rw [if_neg e] at hz
            exact hfo k z hz ho hm
        rcases key with ⟨fn, c1, c2, c3, c4⟩ | ⟨v', w', c1, c2⟩
        · exact .inl ⟨fn, c1, c2, c3, c4.mono fun en w' ⟨v', e1, e2⟩ => ⟨v', e1, fin v' w' e2⟩⟩
        · exact .inr ⟨v', w', c1, fin v' w' c2⟩
      · simp at hex
  · simp at hex
end Go.Ty
namespace Go.Ty
open Go.Ab (TRel VRel LRel CRel ERel Sim)
abbrev NewV := Option ((s : Sh) × s.T)
def resNE (X : Cx) (st : St) (rs : List ResultVar) (K : List AV → NewV → Prop) : Prop := match rs with
  | .tmp t :: post => resK X st post fun l H => (match st.env t with
    | some (.av (.val (.non .ptr) ())) => K l none
    | some (.av (.cell (.ptr b (.one _) []))) => (match H b with
      | .live ⟨.one _ (.val s y), true⟩ => K l (some ⟨s, y⟩)
      | _ => False)
    | _ => False)
  | _ => False
def FWNE (X : Cx) (N : Nat) (LS : Nat → Option PT) (fn : Func) (args : List SV) (K : List AV → NewV → Prop) : Prop :=
  match fn.body with
  | some c => W X N LS c ⟨envOf args, fun _ => .fresh, 1000⟩ fun e st => match e with
    | .exit _ => False
    | .normal => resNE X st fn.results.toList K
    | .ret => resNE X st fn.results.toList K
  | none => False
def NewR (X : Cx) (H1 : Ab.Heap) (i : Nat) (o : NewV) (u : Value) : Prop := match o with
  | none => u = flatV (.non .ptr) ()
  | some ⟨s, y⟩ => ∃ B, H1[i]? = some (some B) ∧ B.own = true ∧ Cells (gl1 X) H1 s y B.cells ∧ u = .pointer (some ⟨i, 0, none⟩)
def PCNE (X : Cx) (f : FuncId) (args : List SV) (l : List AV) (o : NewV) : Prop := (∀ v ∈ l, noRef v = true) ∧ ∀ (C : Ab.Ctx) (ρ : Nat → Ab.Loc) (H1 : Ab.Heap) (w : World) (l1 l' : List Value),
  ArgsR X (lk0 H1) args l1 → LRel (TRel ρ H1.length) l1 l' → Sim (x1 X) C ρ H1 w →
  CallR X f l' w fun v' w' => ∃ us u ρ' H1' i, ListR X (lk0 H1') l us ∧ NewR X H1' i o u ∧ TRel ρ' H1'.length (oneV (u :: us)) v' ∧ (∀ j, j < H1.length → ρ' j = ρ j) ∧ Sim (x1 X) C ρ' H1' w' ∧ H1.length ≤ H1'.length ∧
    ∀ (j : Nat) b, H1[j]? = some (some b) → H1'[j]? = some (some b) ∧ (o.isSome = true → j ≠ i)
theorem FWNE_pc {X : Cx} (hX : XOK X) (hcon : ConsOK X) (hm : X.P.follows .mixedOrders = true) {f : FuncId} {fn : Func} {c : Code} {LS : Nat → Option PT} {args : List SV} {l : List AV} {o : NewV} (hf : X.P.funcs[f]? = some fn) (hc : fn.body = some c)
    (hname : (fn.name == "runtime.NumGoroutine") = false) (hN : Nat.ble args.length fn.ntmps = true) (hl : LoopsOK X fn.ntmps LS c) (h : FWNE X fn.ntmps LS fn args fun l' o' => l' = l ∧ o' = o) (hr : ∀ v ∈ l, noRef v = true) : PCNE X f args l o := by
  refine ⟨hr, fun C ρ H1 w l1 l' ha hl' hs => .inl ⟨fn, hf, hname, by rw [hc]; rfl, ?_⟩⟩
  have hN := Nat.le_of_ble_eq_true hN
  unfold FWNE at h
  rw [hc] at h
  refine calls_of_wp hf hc ?_
  have hst : SR X C fn.ntmps ρ (lk0 H1) ⟨envOf args, fun _ => .fresh, 1000⟩ { tmps := (⟨l'⟩ : Array Value) ++ Array.replicate (fn.ntmps - (⟨l'⟩ : Array Value).size) undef, defers := [] } w := by
    refine ⟨Ab.envOf l1, Ab.SRel.start (H := H1) hs hl' (by rw [← ha.1]; exact hN), fun k v hk => ?_, ⟨(fun k x hk => nomatch hk), (fun k k' x x' i hk => nomatch hk), (fun k _ => rfl), (fun k i hk => nomatch hk)⟩⟩
    obtain ⟨v1, g1, g2⟩ := ha.2 k v hk
    exact ⟨v1, g1, g2⟩
  refine W_sound hX hcon hm c hl _ _ h C ρ (lk0 H1) _ w _ hst (fun e s' a' w' hk ht => ?_)
  obtain ⟨ρ', M', t1, t2, e1, t3, t4, t5⟩ := ht
  have hk : resNE X s' fn.results.toList (fun l' o' => l' = l ∧ o' = o) ∧ ∀ i, e ≠ .exit i := by
    cases e with
    | normal => exact ⟨hk, by simp⟩
    | ret => exact ⟨hk, by simp⟩
    | exit i => cases hk
  obtain ⟨hk, hx⟩ := hk
  obtain ⟨t, post, hrl, hk⟩ : ∃ t post, fn.results.toList = .tmp t :: post ∧ resNE X s' (.tmp t :: post) (fun l' o' => l' = l ∧ o' = o) := by
    unfold resNE at hk
    split at hk
    · rename_i t post h; exact ⟨t, post, h, hk⟩
    · cases hk
  unfold resNE at hk
  obtain ⟨l2, Hm, H1m, vs, k1, k2, k3, k4, k5, k6, k7⟩ := resK_sound hX _ hk t4 t5
  have hsr : Ab.SRel (x1 X) C fn.ntmps ρ' ⟨e1, H1m⟩ a' w' := ⟨sim_frz k2 t3.sim, by have := t3.env; rw [show (Ab.St.mk e1 H1m).heap.length = M'.H1.length from k2.1]; exact this, t3.size, t3.defers⟩
  have own : ∃ u i, e1 t = some u ∧ Go.Ab.isTup u = false ∧ NewR X H1m i o u ∧ l2 = l ∧ (o.isSome = true → ∃ b z, Hm b = .live z ∧ z.own = true ∧ M'.mu b = some i) := by
    dsimp only at k1
    split at k1
    · rename_i he
      obtain ⟨u, g1, g2⟩ := t4 t _ he
      have g2 : VR (gl1 X) M' (.val (.non .ptr) ()) u := g2
      obtain ⟨rfl, rfl⟩ := k1
      exact ⟨u, 0, g1, g2.nottup, VR.flat rfl g2, rfl, fun h => by cases h⟩
    · rename_i b s1 he
      obtain ⟨u, g1, g2⟩ := t4 t _ he
      have g2 : VR (gl1 X) M' (.cell (.ptr b (.one s1) [])) u := g2
      split at k1
      · rename_i s2 s3 y hlive
        obtain ⟨rfl, rfl⟩ := k1
        obtain ⟨i, q1, q2, q3⟩ := g2.cell
        obtain ⟨i', B, m1, m2, m3, m4, _⟩ := k3.live b _ hlive
        have m1 : M'.mu b = some i' := m1
        rw [q1] at m1
        injection m1 with m1
        subst m1
        obtain ⟨rfl, m4⟩ : s3 = s2 ∧ Cells (gl1 X) H1m s3 y B.cells := m4
        have hoff : offL (.one s1) [] = 0 := by simp only [offL, offS_nil]
        rw [hoff] at q3
        exact ⟨u, i, g1, g2.nottup, ⟨B, m2, m3, m4, q3⟩, rfl, fun _ => ⟨b, _, hlive, rfl, q1⟩⟩
      · cases k1
    · cases k1
  obtain ⟨u, i, o1, o2, o3, rfl, o5⟩ := own
  have hres1 : Ab.ares1 (x1 X) ⟨e1, H1m⟩ (.tmp t) = some u := by
    simp only [Ab.ares1, o1, Option.bind_some, o2, cond_false]
  have hL : Ab.aresL (x1 X) ⟨e1, H1m⟩ fn.results.toList = some (u :: vs) := by
    rw [hrl]
    show (Ab.ares1 (x1 X) ⟨e1, H1m⟩ (.tmp t)).bind (fun v => (Ab.aresL (x1 X) ⟨e1, H1m⟩ post).map fun vs => v :: vs) = _
    rw [hres1, k5]; rfl
  have hres := aresults_one hL
  obtain ⟨v', q1, q2⟩ := Ab.aresults_sound hsr hres
  have hkeep : ∀ (j : Nat) b, H1[j]? = some (some b) → H1m[j]? = some (some b) ∧ Foreign ⟨H1m, M'.mu, M'.ln⟩ Hm j := fun j b hb => (t2.trans k4.w).keep j b hb (fun k x hk => by cases hk)
  have fin : ∃ v'', Ending.returned v' = .returned v'' ∧ ∃ us u ρ' H1' i, ListR X (lk0 H1') l2 us ∧ NewR X H1' i o u ∧ TRel ρ' H1'.length (oneV (u :: us)) v'' ∧ (∀ j, j < H1.length → ρ' j = ρ j) ∧ Sim (x1 X) C ρ' H1' w' ∧ H1.length ≤ H1'.length ∧
      ∀ (j : Nat) b, H1[j]? = some (some b) → H1'[j]? = some (some b) ∧ (o.isSome = true → j ≠ i) := by
    refine ⟨v', rfl, vs, u, ρ', H1m, i, ⟨k6.1, fun j v hj => ?_⟩, o3, q2, t1, hsr.sim, ?_, fun j b hb => ⟨(hkeep j b hb).1, fun ho hji => ?_⟩⟩
    · obtain ⟨u', z1, z2⟩ := k6.2 j v hj
      exact ⟨u', z1, noRef_vr (M := ⟨H1m, M'.mu, M'.ln⟩) (M' := lk0 H1m) (fun _ _ h _ => h) (k7 v (List.mem_of_getElem? hj)) z2⟩
    · have h1 : H1.length ≤ M'.H1.length := t2.len
      rw [k2.1]; exact h1
    · obtain ⟨b', z, z1, z2, z3⟩ := o5 ho
      subst hji
      exact (hkeep j b hb).2 b' z z1 z2 z3
  cases e with
  | normal => exact ⟨t3.defers, v', q1, fin⟩
  | ret => exact ⟨t3.defers, v', q1, fin⟩
  | exit i => exact absurd rfl (hx i)
inductive NT where
  | ret (l : List AV) (o : NewV)
  | alt (c : Bool) (t e : NT)
  | pre (p : Prop) (k : NT)
  | dem (b : Bool) (k : NT)
def NT.act (nid : Nat) : NT → HAct
  | .ret l o => match o with
    | none => .ret (some (one (.val (.non .ptr) () :: l)))
    | some ⟨s, y⟩ => .new nid ⟨.one s (.val s y), true⟩ (.ret (some (one (.cell (.ptr nid (.one s) []) :: l))))
  | .alt c t e => .alt c (t.act nid) (e.act nid)
  | .pre p k => .pre p (k.act nid)
  | .dem b k => .dem b (k.act nid)
def NT.val : NT → List AV × NewV
  | .ret l o => (l, o)
  | .alt c t e => bif c then t.val else e.val
  | .pre _ k => k.val
  | .dem _ k => k.val
def NT.cond : NT → Prop
  | .ret _ _ => True
  | .alt c t e => ifB c t.cond e.cond
  | .pre p k => p ∧ k.cond
  | .dem b k => b = true ∧ k.cond
theorem NT.act_val {nid : Nat} {H H' : Heap} {v : Option SV} {t : NT} (h : Ex (t.act nid) H v H') : Ex (.pre t.cond ((NT.ret t.val.1 t.val.2).act nid)) H v H' := by
  induction t with
  | ret l o => exact Ex_pre.2 ⟨trivial, h⟩
  | alt c t e ih1 ih2 =>
    have h : Ex (.alt c (t.act nid) (e.act nid)) H v H' := h
    rw [Ex_alt] at h
    rcases h with ⟨rfl, h⟩ | ⟨rfl, h⟩
    · exact ih1 h
    · exact ih2 h
  | pre p k ih =>
    have h : Ex (.pre p (k.act nid)) H v H' := h
    rw [Ex_pre] at h
    have h2 := Ex_pre.1 (ih h.2)
    exact Ex_pre.2 ⟨⟨h.1, h2.1⟩, h2.2⟩
  | dem b k ih =>
    have h : Ex (.dem b (k.act nid)) H v H' := h
    rw [Ex_dem] at h
    have h2 := Ex_pre.1 (ih h.2)
    exact Ex_pre.2 ⟨⟨h.1, h2.1⟩, h2.2⟩
def conNE (as : List Ar) (F : HA as → NT) : ConT := fun args nid => frzL args fun args => match parseA as args with
  | some xs => (F xs).act nid
  | none => .fail
theorem conNE_ok {P : Program} {gl : Nat → Option ((s : Sh) × s.T)} {f : FuncId} {as : List Ar} {F : HA as → NT} (h : ∀ xs : HA as, wfHA as xs → (F xs).cond → PCNE (bx P gl) f (argsA as xs) (F xs).val.1 (F xs).val.2) : COK P gl f (conNE as F) := by
  intro C ρ M H w args l1 l' nid v H' hex ha hl hs hH
  obtain ⟨l2, Hm, H1m, k1, k2, k3, k4, k5, k6⟩ := frzL_sound hex ha hH
  cases hg : parseA as l2 with
  | none => rw [hg] at k1; simp at k1
  | some xs =>
    rw [hg] at k1
    have k1 := Ex_pre.1 (NT.act_val k1)
    obtain ⟨hp, k1⟩ := k1
    have ha0 : ArgsR (bx P gl) (lk0 H1m) l2 l1 := ⟨k3.1, fun j u hu => by
      obtain ⟨u1, q1, q2⟩ := k3.2 j u hu
      exact ⟨u1, q1, noRef_svr (M := ⟨H1m, M.mu, M.ln⟩) (M' := lk0 H1m) (fun _ _ h _ => h) (k6 u (List.mem_of_getElem? hu)) q2⟩⟩
    have ha' := argsA_parse hg ha0
    obtain ⟨hr, hpc⟩ := h xs (argsA_wf ha') hp
    have hl2 : LRel (TRel ρ H1m.length) l1 l' := by rw [k2.1]; exact hl
    have key := hpc C ρ H1m w l1 l' ha' hl2 (sim_frz k2 hs)
    have fin : ∀ v' w', (∃ us u ρ' H1' i, ListR (bx P gl) (lk0 H1') (F xs).val.1 us ∧ NewR (bx P gl) H1' i (F xs).val.2 u ∧ TRel ρ' H1'.length (oneV (u :: us)) v' ∧ (∀ j, j < H1m.length → ρ' j = ρ j) ∧ Sim (x1 (bx P gl)) C ρ' H1' w' ∧ H1m.length ≤ H1'.length ∧
        ∀ (j : Nat) b, H1m[j]? = some (some b) → H1'[j]? = some (some b) ∧ ((F xs).val.2.isSome = true → j ≠ i)) →
        ∃ u v1 ρ' M', v = some u ∧ SVR (gl1 (bx P gl)) M' u v1 ∧ TRel ρ' M'.H1.length v1 v' ∧ (∀ i, i < M.H1.length → ρ' i = ρ i) ∧ Sim (x1 (bx P gl)) C ρ' M'.H1 w' ∧ HR (gl1 (bx P gl)) M' H' ∧ Ext M H M' H' := by
      rintro v' w' ⟨us, u, ρ', H1', i, q0, q1, q2, q3, q4, q5, q6⟩
      obtain ⟨z1, z2⟩ := HR_keep k4 (fun j b hb => (q6 j b hb).1) q5
      have lst : ∀ M' : Lk, M'.H1 = H1' → ListR (bx P gl) M' (F xs).val.1 us := fun M' hM => ⟨q0.1, fun j x hj => by
        obtain ⟨u', y1, y2⟩ := q0.2 j x hj
        exact ⟨u', y1, noRef_vr (M := lk0 H1') (M' := M') (fun _ _ h _ => by rw [hM]; exact h) (hr x (List.mem_of_getElem? hj)) y2⟩⟩
      generalize (F xs).val.1 = l at *
      generalize (F xs).val.2 = o at *
      have ins : ∀ (M' : Lk), M'.H1 = H1' → ∀ (a : AV) (u : Value), VR (gl1 (bx P gl)) M' a u → SVR (gl1 (bx P gl)) M' (one (a :: l)) (oneV (u :: us)) := fun M' hM a u hv => SVR.one_ (ListR.ins (np := 0) (lst M' hM) hv)
      cases o with
      | none =>
        have k1 : Ex (.ret (some (one (.val (.non .ptr) () :: l)))) Hm v H' := k1
        rw [Ex_ret] at k1
        obtain ⟨rfl, rfl⟩ := k1
        have q1 : u = flatV (.non .ptr) () := q1
        subst q1
        exact ⟨_, _, ρ', ⟨H1', M.mu, M.ln⟩, rfl, ins ⟨H1', M.mu, M.ln⟩ rfl _ _ (VR.mkflat rfl trivial), q2, fun i hi => q3 i (by rw [k2.1]; exact hi), q4, z1, k5.trans z2⟩
      | some ex =>
        obtain ⟨s, y⟩ := ex
        have k1 : Ex (.new nid ⟨.one s (.val s y), true⟩ (.ret (some (one (.cell (.ptr nid (.one s) []) :: l))))) Hm v H' := k1
        rw [Ex_new, Ex_ret] at k1
        obtain ⟨hf, rfl, rfl⟩ := k1
        obtain ⟨B, b1, b2, b3, b6⟩ := q1
        subst b6
        have hno : ∀ k x, Hm k = .live x → M.mu k ≠ some i := by
          intro k x hk hmu
          obtain ⟨j, b, g1, g2, _⟩ := k4.live k x hk
          have g1 : M.mu k = some j := g1
          rw [hmu] at g1
          injection g1 with g1
          subst g1
          exact (q6 i b g2).2 rfl rfl
        have hA := adopt_one (M := ⟨H1', M.mu, M.ln⟩) (y := y) z1 hf b1 b2 b3 hno
        have hnone : M.mu nid = none := k4.fresh nid hf
        have hup : ∀ k j, M.mu k = some j → updN M.mu nid (some i) k = some j ∧ M.ln k = M.ln k := by
          intro k j hk
          have e : k ≠ nid := by rintro rfl; rw [hnone] at hk; cases hk
          exact ⟨by unfold updN; rw [if_neg e]; exact hk, rfl⟩
        have hE := k5.trans z2
        refine ⟨_, _, ρ', ⟨H1', updN M.mu nid (some i), M.ln⟩, rfl, ins ⟨H1', updN M.mu nid (some i), M.ln⟩ rfl _ _ (VR.mkptr (i := i) (r := .one s) (p := []) (by simp [updN]) (inP_nil s) (by simp only [offL, offS_nil])), q2, fun i hi => q3 i (by rw [k2.1]; exact hi), q4, hA, ?_⟩
        refine { len := hE.len, mu := fun k j hk => hup k j hk, keep := fun j b hb hfo => ?_, ro := hE.ro }
        obtain ⟨y1, y2⟩ := hE.keep j b hb hfo
        refine ⟨y1, fun k x hk ho hm => ?_⟩
        rw [put_at] at hk
        have hm : updN M.mu nid (some i) k = some j := hm
        by_cases ek : k = nid
        · subst ek
          unfold updN at hm
          rw [if_pos rfl] at hm
          injection hm with hm
          subst hm
          obtain ⟨x1, _⟩ := k5.keep i b hb hfo
          exact (q6 i b x1).2 rfl rfl
        · rw [if_neg ek] at hk
          unfold updN at hm
          rw [if_neg ek] at hm
          exact y2 k x hk ho hm
    rcases key with ⟨fn, c1, c2, c3, c4⟩ | ⟨v', w', c1, c2⟩
    · exact .inl ⟨fn, c1, c2, c3, c4.mono fun en w' ⟨v', e1, e2⟩ => ⟨v', e1, fin v' w' e2⟩⟩
    · exact .inr ⟨v', w', c1, fin v' w' c2⟩
end Go.Ty
