import Derived.Test.YtninlahlmjhmhaaTyOrd
import Derived.Test.YtninlahlmjhmhaaAbCall
namespace Go.Ty
open Go.Ab (fitsN TRel LRel ERel Sim SRel Closed rem mem_rem ready_rem rem_set getD_flip before_listed getD_replicate exitOf)

/-! ## States alike -/
def SR (X : Cx) (C : Ab.Ctx) (N : Nat) (ρ : Nat → Ab.Loc) (M : Lk) (s : St) (a : Act) (w : World) : Prop :=
  ∃ e1, SRel (x1 X) C N ρ ⟨e1, M.H1⟩ a w ∧ ER X M s.env e1 ∧ HR (gl1 X) M s.heap
def Then2 (X : Cx) (C : Ab.Ctx) (N : Nat) (ρ : Nat → Ab.Loc) (M : Lk) (s s' : St) (a' : Act) (w' : World) : Prop :=
  ∃ ρ' M', (∀ i, i < M.H1.length → ρ' i = ρ i) ∧ ExtW M s.heap M' s'.heap ∧ SR X C N ρ' M' s' a' w'

/-! ## Contracts -/
def ArgsR (X : Cx) (M : Lk) (l : List SV) (l1 : List Value) : Prop := l.length = l1.length ∧ ∀ (j : Nat) v, l[j]? = some v → ∃ v1, l1[j]? = some v1 ∧ SVR (gl1 X) M v v1
def CallR (X : Cx) (f : FuncId) (l : List Value) (w : World) (Post : Value → World → Prop) : Prop :=
  (∃ fn, X.P.funcs[f]? = some fn ∧ (fn.name == "runtime.NumGoroutine") = false ∧ fn.body.isNone = false ∧ Calls X.P f ⟨l⟩ w (fun en w' => ∃ v', en = .returned v' ∧ Post v' w')) ∨
  (∃ v' w', (callFunc f ⟨l⟩).run X.P w = .ok (.value v') w' ∧ Post v' w')
def ConOK (X : Cx) (f : FuncId) (g : ConT) : Prop := ∀ (C : Ab.Ctx) (ρ : Nat → Ab.Loc) (M : Lk) (H : Heap) (w : World) (args : List SV) (l1 l' : List Value) (nid : Nat) (v : Option SV) (H' : Heap),
  Ex (g args nid) H v H' → ArgsR X M args l1 → LRel (TRel ρ M.H1.length) l1 l' → Sim (x1 X) C ρ M.H1 w → HR (gl1 X) M H →
  CallR X f l' w fun v' w' => ∃ u v1 ρ' M', v = some u ∧ SVR (gl1 X) M' u v1 ∧ TRel ρ' M'.H1.length v1 v' ∧ (∀ i, i < M.H1.length → ρ' i = ρ i) ∧ Sim (x1 X) C ρ' M'.H1 w' ∧ HR (gl1 X) M' H' ∧ Ext M H M' H'
def ConsOK (X : Cx) : Prop := ∀ f g, X.con f = some g → ConOK X f g

section
variable {X : Cx} {C : Ab.Ctx} {N : Nat} {ρ : Nat → Ab.Loc} {M : Lk} {a : Act} {w : World} {ops : Array Oper}

theorem Then2.trans {s s1 s2 : St} {a2 : Act} {w2 : World} {ρ1 : Nat → Ab.Loc} {M1 : Lk} (h1 : ∀ i, i < M.H1.length → ρ1 i = ρ i) (h2 : ExtW M s.heap M1 s1.heap) (h : Then2 X C N ρ1 M1 s1 s2 a2 w2) : Then2 X C N ρ M s s2 a2 w2 := by
  obtain ⟨ρ2, M2, g1, g2, g3⟩ := h
  exact ⟨ρ2, M2, fun i hi => by rw [g1 i (Nat.lt_of_lt_of_le hi h2.len), h1 i hi], h2.trans g2, g3⟩

theorem sim_frz {A B : Ab.Heap} (h : FrzLe A B) (hs : Sim (x1 X) C ρ A w) : Sim (x1 X) C ρ B w := by
  have at_ : ∀ (i : Nat) b, B[i]? = some (some b) → ∃ b0, A[i]? = some (some b0) ∧ b.cells = b0.cells ∧ b.es = b0.es ∧ (b.own = true → b = b0) := by
    intro i b hb
    rcases h.2 i with e | ⟨b', e1, e2⟩
    · rw [e] at hb; exact ⟨b, hb, rfl, rfl, fun _ => rfl⟩
    · rw [e2] at hb
      simp only [Option.some.injEq] at hb
      subst hb
      exact ⟨b', e1, rfl, rfl, fun h => by cases h⟩
  exact { blk := fun i b hb => by
            obtain ⟨b0, g1, g2, g3, g4⟩ := at_ i b hb
            obtain ⟨cs, t, fr, k1, k2, k3⟩ := hs.blk i b0 g1
            refine ⟨cs, t, fr, k1, fun ho => ?_, fun j v hj => ?_⟩
            · have := g4 ho; subst this; exact k2 ho
            · rw [g2] at hj
              rw [h.1]; exact k3 j v hj
          own := fun i b hb ho => by obtain ⟨b0, g1, g2, g3, g4⟩ := at_ i b hb; have := g4 ho; subst this; exact hs.own i b g1 ho
          far := fun i j bi bj hi hj ho hne => by
            obtain ⟨b0, g1, g2, g3, g4⟩ := at_ i bi hi
            obtain ⟨b1, k1, _, _, _⟩ := at_ j bj hj
            have := g4 ho; subst this
            exact hs.far i j bi b1 g1 k1 ho hne
          os := hs.os, tape := hs.tape, output := hs.output, size := hs.size, keep := hs.keep, agree := hs.agree, len := by rw [h.1]; exact hs.len, glob := hs.glob }

theorem OrcOK1 : Ab.OrcOK (x1 X) := fun _ _ _ h => by cases h
theorem HOK0 : Ab.HOK (x1 X) hc0 := Ab.HOK.none

theorem ER.put {M : Lk} {e : Env} {e1 : Ab.Env} (h : ER X M e e1) {dst : Option Tmp} {v : Option SV} {v1 : Option Value} (hv : ∀ u, v = some u → ∃ u1, v1 = some u1 ∧ SVR (gl1 X) M u u1) : ER X M (putS e dst v) (Ab.putS e1 dst v1) := by
  cases dst with
  | none => exact h
  | some d =>
    intro k u hk
    simp only [putS, Env.set] at hk
    simp only [Ab.putS, Ab.Env.set]
    cases hb : Nat.beq k d with
    | true =>
      simp only [hb, cond_true] at hk ⊢
      obtain ⟨u1, g1, g2⟩ := hv u hk
      exact ⟨u1, g1, g2⟩
    | false =>
      simp only [hb, cond_false] at hk ⊢
      exact h k u hk

/-- an operation, done -/
theorem opW_sound (hX : XOK X) (hcon : ConsOK X) {s : St} (hs : SR X C N ρ M s a w) {nid : Nat} {o : Oper} {v : Option SV} {H' : Heap} (h : Ex (opA X s.env nid o.op) s.heap v H') (hfit : fitsN N o.dst = true)
    {K : Act → World → Prop} {Q : Exit → Act → World → Prop} (hK : ∀ a' w', Then2 X C N ρ M s ⟨putS s.env o.dst v, H', s.next⟩ a' w' → K a' w') : o.wp X.P a w K Q := by
  obtain ⟨e1, hs1, he, hH⟩ := hs
  cases hcv : isCallV o.op with
  | false =>
    obtain ⟨H1f, r1, H1', mu', ln', hf, hop, hv, hH', hx⟩ := opA_sound hX he h hcv hH
    have hsim := sim_frz hf hs1.sim
    have hlen : H1f.length = M.H1.length := hf.1
    have henv : ERel ρ H1f.length e1 a.tmps := by rw [hlen]; exact hs1.env
    refine Ab.aop_sound (X := x1 X) OrcOK1 HOK0 hsim henv hop (fun ρ' w' x g1 g2 g3 g4 => hK _ _ ⟨ρ', ⟨H1', mu', ln'⟩, fun i hi => g1 i (by rw [hlen]; exact hi), hx.w, Ab.putS e1 o.dst r1, ⟨g3, ?_, by rw [Ab.put_size]; exact hs1.size, by rw [Ab.put_defers]; exact hs1.defers⟩, ?_, hH'⟩)
    · exact (henv.mono g1 g2).put hs1.size hfit g4
    · exact ER.put (he.mono (M' := ⟨H1', mu', ln'⟩) hx.ro hx.mu) hv
  | true =>
    cases hop : o.op with
    | call c =>
      rw [hop] at h hcv
      unfold isCallV at hcv
      cases hcl : c.callee with
      | value fx =>
        simp only [opA, hcl, Ex_ofO] at h
        obtain ⟨fv, hfv, h⟩ := h
        obtain ⟨u, g1, g2⟩ := evA_sound hX he hfv
        cases fv with
        | val _ _ => simp at h
        | two _ _ => simp at h
        | cell q =>
          cases q with
          | fn f =>
            simp only [Ex_ofO] at h
            obtain ⟨g, hg, l, hl, h⟩ := h
            have hu := g2.cell
            have hu : u = .func (.func f) #[] #[] := hu
            subst hu
            obtain ⟨l1, k1, k2, k3⟩ := evL_sound hX he hl
            have hl' := Ab.evArgs_sound hs1.env _ _ k1
            have hev : a.eval fx = .func (.func f) #[] #[] := by
              have := Ab.evo_sound hs1.env g1
              exact this
            have hcall := hcon f g hg C ρ M s.heap w l l1 (c.args.toList.map a.eval) nid v H' h ⟨k2, k3⟩ hl' hs1.sim hH
            unfold Oper.wp
            rw [Ab.execOp_func hop hcl hev]
            have harr : (c.args.map a.eval) = (⟨c.args.toList.map a.eval⟩ : Array Value) := by apply Array.ext'; simp
            rw [harr]
            have fin : ∀ v' w', (∃ u v1 ρ' M', v = some u ∧ SVR (gl1 X) M' u v1 ∧ TRel ρ' M'.H1.length v1 v' ∧ (∀ i, i < M.H1.length → ρ' i = ρ i) ∧ Sim (x1 X) C ρ' M'.H1 w' ∧ HR (gl1 X) M' H' ∧ Ext M s.heap M' H') → K (a.put o.dst v') w' := by
              rintro v' w' ⟨u, v1, ρ', M', rfl, q1, q2, q3, q4, q5, q6⟩
              refine hK _ _ ⟨ρ', M', q3, q6.w, Ab.putS e1 o.dst (some v1), ⟨q4, ?_, by rw [Ab.put_size]; exact hs1.size, by rw [Ab.put_defers]; exact hs1.defers⟩, ?_, q5⟩
              · exact (hs1.env.mono q3 q6.len).put hs1.size hfit (fun u' hu' => by cases hu'; exact q2)
              · exact ER.put (he.mono q6.ro q6.mu) (fun u' hu' => by cases hu'; exact ⟨v1, rfl, q1⟩)
            rcases hcall with ⟨fn, c1, c2, c3, c4⟩ | ⟨v', w', c1, c2⟩
            · rw [Ab.run_callFunc c1 c2 c3]
              refine c4.mono fun en w' ⟨v', e1, e2⟩ => ?_
              subst e1
              exact fin v' w' e2
            · rw [c1]
              exact fin v' w' c2
          | _ => simp at h
      | builtin b => simp [hcl] at hcv
      | invoke _ _ => simp [hcl] at hcv
    | _ => simp [hop, isCallV] at hcv

theorem wanted2_sound {M : Lk} {e : Env} {e1 : Ab.Env} (he : ER X M e e1) (hr : ERel ρ M.H1.length e1 a.tmps) {o : Oper} {b : Bool} (h : wanted2 ops e o = some b) : Region.wanted o (yielded ops a.tmps) = b := by
  refine Ab.awanted_sound (e := e1) (ops := ops) hr ?_
  unfold wanted2 at h
  unfold Ab.awanted
  cases hg : o.guard with
  | none => rw [hg] at h; exact h
  | some gw =>
    obtain ⟨g, want⟩ := gw
    rw [hg] at h
    simp only at h ⊢
    have hsl : gslot ops g = (ops[g]?).bind (·.dst) := rfl
    rw [hsl] at h
    cases ht : (ops[g]?).bind (·.dst) with
    | none => rw [ht] at h; cases h
    | some t =>
      rw [ht] at h
      simp only at h ⊢
      cases hv : e t with
      | none => rw [hv] at h; cases h
      | some v =>
        rw [hv] at h
        obtain ⟨v1, g1, g2⟩ := he t v hv
        rw [g1]
        cases v with
        | av u =>
          cases u with
          | val s x =>
            cases s with
            | bool =>
              have g2 := VR.bool (X := X) (M := M) g2
              subst g2
              exact h
            | _ => cases h
          | _ => cases h
        | tup l =>
          cases l with
          | nil =>
            obtain ⟨us, rfl, h1, _⟩ := g2
            have : us = #[] := by
              apply Array.ext'
              exact List.length_eq_zero_iff.1 h1.symm
            subst this
            exact h
          | cons _ _ => cases h

/-- a step of a region -/
theorem stepS_sound (hX : XOK X) (hcon : ConsOK X) {base i : Nat} {s s' : St} {f : FP} (hs : SR X C N ρ M s a w) {o : Oper} (ho : ops[i]? = some o) (h : StepS X ops N base i o s s' f)
    {K : Act → World → Prop} {Q : Exit → Act → World → Prop} (hK : ∀ a' w', Then2 X C N ρ M s s' a' w' → K a' w') : wpOp X.P ops Q i K a w := by
  obtain ⟨hfit, h⟩ := h
  have hs0 := hs
  obtain ⟨e1, hs1, he, hH⟩ := hs
  unfold wpOp
  simp only [ho]
  rcases h with ⟨hw, r, h1, h2, rfl, rfl⟩ | ⟨hw, rfl, rfl⟩
  · have hw' := wanted2_sound he hs1.env hw
    rw [if_pos hw']
    left
    exact opW_sound hX hcon hs0 ⟨r, h1, h2, rfl, rfl⟩ hfit hK
  · have hw' := wanted2_sound he hs1.env hw
    rw [if_neg (by rw [hw']; decide)]
    refine hK _ _ ⟨ρ, M, fun _ _ => rfl, .refl, Ab.putS e1 o.dst (some (.tuple #[])), ⟨hs1.sim, ?_, by rw [Ab.put_size]; exact hs1.size, by rw [Ab.put_defers]; exact hs1.defers⟩, ?_, hH⟩
    · exact hs1.env.put hs1.size hfit (fun u hu => by cases hu; exact ⟨#[], rfl, .nil⟩)
    · exact ER.put he (fun u hu => by cases hu; exact ⟨.tuple #[], rfl, #[], rfl, rfl, by simp⟩)

/-- in the text's order -/
theorem opsW_sound (hX : XOK X) (hcon : ConsOK X) {base : Nat} {fp : Nat → FP} {Q : Exit → Act → World → Prop} : ∀ (l : List Nat) (s s' : St) (ρ : Nat → Ab.Loc) (M : Lk) (a : Act) (w : World), SR X C N ρ M s a w → RunIx X ops N base fp l s s' →
    (∀ a' w', Then2 X C N ρ M s s' a' w' → Q .normal a' w') → wpOps X.P ops Q l a w := by
  intro l
  induction l with
  | nil =>
    intro s s' ρ M a w hs h hQ
    have h : s = s' := h
    subst h
    exact hQ _ _ ⟨ρ, M, fun _ _ => rfl, .refl, hs⟩
  | cons i l ih =>
    intro s s' ρ M a w hs h hQ
    obtain ⟨o, s1, ho, h1, h2⟩ := h
    rw [wpOps_cons]
    refine stepS_sound hX hcon hs ho h1 (fun a1 w1 ⟨ρ1, M1, g1, g2, g3⟩ => ?_)
    exact ih s1 s' ρ1 M1 a1 w1 g3 h2 (fun a' w' ht => hQ _ _ (ht.trans g1 g2))

/-- whatever the order -/
theorem anyW_sound (hX : XOK X) (hcon : ConsOK X) {base : Nat} {fp : Nat → FP} (hfwd : ∀ j o, ops[j]? = some o → ∀ e ∈ o.after, Region.binds .any e = true → e.on < j)
    (hpass : ∀ i j, i < j → i < ops.size → j < ops.size → ((Region.before ops).getD j 0).testBit i = true ∨ Free ops fp i j) {Q : Exit → Act → World → Prop} :
    ∀ (fuel : Nat) (listed : Array Bool) (s sf : St) (ρ : Nat → Ab.Loc) (M : Lk) (a : Act) (w : World), listed.size = ops.size → Closed ops listed → (rem ops listed).length ≤ fuel → SR X C N ρ M s a w → RunIx X ops N base fp (rem ops listed) s sf →
    (∀ a' w', Then2 X C N ρ M s sf a' w' → Q .normal a' w') → wpAny X.P .any ops Q fuel listed a w := by
  have hready : ∀ (listed : Array Bool), listed.size = ops.size → Region.ready .any ops listed = [] → rem ops listed = [] := by
    intro listed hsz hr
    cases hrem : rem ops listed with
    | nil => rfl
    | cons i r =>
      exfalso
      have hi : i ∈ rem ops listed := by rw [hrem]; simp
      obtain ⟨h1, h2⟩ := mem_rem.1 hi
      have : i ∈ Region.ready .any ops listed := by
        refine mem_ready.2 ⟨h2, ops[i], by simp [h1], fun e he hb => ?_⟩
        have hlt := hfwd i ops[i] (by simp [h1]) e he hb
        cases hl : listed.getD e.on false with
        | true => rfl
        | false =>
          exfalso
          have hm : e.on ∈ rem ops listed := mem_rem.2 ⟨by omega, by rw [getD_flip (by omega) true false]; exact hl⟩
          have hs : (rem ops listed).Pairwise (· < ·) := List.Pairwise.filter _ List.pairwise_lt_range
          rw [hrem] at hm hs
          rcases List.mem_cons.1 hm with e1 | e1
          · omega
          · have := (List.pairwise_cons.1 hs).1 _ e1; omega
      rw [hr] at this; cases this
  intro fuel
  induction fuel with
  | zero =>
    intro listed s sf ρ M a w hsz hcl hlen hs h hQ
    have h0 : rem ops listed = [] := List.length_eq_zero_iff.1 (by omega)
    have hr : Region.ready .any ops listed = [] := by
      cases hr : Region.ready .any ops listed with
      | nil => rfl
      | cons i r => have := ready_rem (show i ∈ Region.ready .any ops listed by rw [hr]; simp); rw [h0] at this; cases this
    rw [h0] at h
    have h : s = sf := h
    subst h
    exact ⟨hr, hQ _ _ ⟨ρ, M, fun _ _ => rfl, .refl, hs⟩⟩
  | succ fuel ih =>
    intro listed s sf ρ M a w hsz hcl hlen hs h hQ
    refine ⟨fun hr => ?_, fun i hi => ?_⟩
    · rw [hready listed hsz hr] at h
      have h : s = sf := h
      subst h
      exact hQ _ _ ⟨ρ, M, fun _ _ => rfl, .refl, hs⟩
    · obtain ⟨h1, oi, h2, h3⟩ := mem_ready.1 hi
      obtain ⟨pre, post, hpp⟩ := List.append_of_mem (ready_rem hi)
      have hisz : i < ops.size := (Array.getElem?_eq_some_iff.1 h2).1
      have hsorted : (rem ops listed).Pairwise (· < ·) := List.Pairwise.filter _ List.pairwise_lt_range
      have hpre : ∀ x ∈ pre, Free ops fp x i := by
        intro x hx
        have hlt : x < i := by
          rw [hpp] at hsorted
          exact (List.pairwise_append.1 hsorted).2.2 x hx i (by simp)
        rcases hpass x i hlt (by omega) hisz with hb | hb
        · exfalso
          have hl := before_listed hcl i oi h2 h3 x hb
          have hx' : x ∈ rem ops listed := by rw [hpp]; simp [hx]
          obtain ⟨g1, g2⟩ := mem_rem.1 hx'
          rw [getD_flip (by omega) true false, hl] at g2; cases g2
        · exact hb
      rw [hpp] at h
      have hb := RunIx.bubble pre post hpre h
      obtain ⟨oi', s1, ho', g1, g2⟩ := hb
      rw [h2] at ho'; cases ho'
      refine stepS_sound hX hcon hs h2 g1 (fun a1 w1 ⟨ρ1, M1, k1, k2, k3⟩ => ?_)
      have hrem := rem_set hsz hpp
      refine ih (listed.setIfInBounds i true) s1 sf ρ1 M1 a1 w1 (by simpa using hsz) ?_ ?_ k3 (by rw [hrem]; exact g2) (fun a' w' ht => hQ _ _ (ht.trans k1 k2))
      · intro j o hj hl e he hb
        by_cases hji : j = i
        · subst hji
          rw [h2] at hj; cases hj
          exact getD_set_true (h3 e he hb)
        · rw [getD_set_ne true (fun h => hji h.symm)] at hl
          exact getD_set_true (hcl j o hj hl e he hb)
      · rw [hrem]
        rw [hpp] at hlen
        simp at hlen ⊢; omega

/-! ## Code -/
def SemC (X : Cx) (N : Nat) (c : Code) (s : St) (K : Post) : Prop := ∀ (C : Ab.Ctx) (ρ : Nat → Ab.Loc) (M : Lk) (a : Act) (w : World) (R : Exit → Act → World → Prop), SR X C N ρ M s a w →
  (∀ x s' a' w', K x s' → Then2 X C N ρ M s s' a' w' → R (exitOf x) a' w') → c.wp X.P R a w

theorem Then2.refl {s : St} (hs : SR X C N ρ M s a w) : Then2 X C N ρ M s s a w := ⟨ρ, M, fun _ _ => rfl, .refl, hs⟩
theorem SR.drawn {s : St} (hs : SR X C N ρ M s a w) : SR X C N ρ M s a { w with drawn := w.drawn + 1 } := by
  obtain ⟨e1, h1, h2, h3⟩ := hs
  exact ⟨e1, ⟨h1.sim.of_alike rfl rfl rfl rfl, h1.env, h1.size, h1.defers⟩, h2, h3⟩
theorem Then2.next {s s' : St} {n : Nat} {a' : Act} {w' : World} (h : Then2 X C N ρ M s s' a' w') : Then2 X C N ρ M s ⟨s'.env, s'.heap, n⟩ a' w' := h

theorem region_semC (hX : XOK X) (hcon : ConsOK X) (hm : X.P.follows .mixedOrders = true) {id : Nat} {draw : Bool} {s : St} {K : Post}
    (h : regK X ops N s.next (fun s' f => dmd (!draw || freeOk ops f) (K .normal ⟨s'.env, s'.heap, s'.next + 8 * ops.size⟩)) ops.toList 0 s []) : SemC X N (.region id ops draw) s K := by
  intro C ρ M a w R hs hR
  obtain ⟨s', f', h1, h2, h3⟩ := regK_sound ops.toList 0 s [] rfl (fun k o hk => by simpa using hk) h
  simp only [List.nil_append] at h1 h3
  let fp : Nat → FP := fun k => (f'[k]?).getD ([], [])
  have hfp : ∀ k x, f'[k]? = some x → fp k = x := fun k x hk => by show (f'[k]?).getD _ = x; rw [hk]; rfl
  have hrun := h3 fp hfp
  cases hd : (!draw || freeOk ops f') with
  | false => rw [hd] at h1; cases h1
  | true =>
    rw [hd] at h1
    have h1 : K .normal ⟨s'.env, s'.heap, s'.next + 8 * ops.size⟩ := h1
    cases draw with
    | false =>
      refine wp_region ?_
      rw [List.range_eq_range']
      have hl : ops.toList.length = ops.size := by simp
      rw [hl] at hrun
      exact opsW_sound hX hcon _ s s' ρ M a w hs hrun (fun a' w' ht => hR .normal _ a' w' h1 ht.next)
    | true =>
      simp only [Bool.not_true, Bool.false_or] at hd
      obtain ⟨hfwd, hpass⟩ := freeOk_spec hd hfp
      refine wp_region_any hm ?_
      have hrem : rem ops (Array.replicate ops.size false) = List.range' 0 ops.toList.length := by
        unfold rem
        rw [List.filter_eq_self.2 (fun j hj => by rw [getD_replicate, if_pos (by simpa using hj)]; rfl), List.range_eq_range']
        simp
      refine anyW_sound hX hcon hfwd hpass ops.size _ s s' ρ M a _ (by simp) ?_ ?_ hs.drawn (by rw [hrem]; exact hrun) (fun a' w' ht => hR .normal _ a' w' h1 ht.next)
      · intro j o hj hl
        have hlt : j < ops.size := (Array.getElem?_eq_some_iff.1 hj).1
        rw [getD_replicate, if_pos hlt] at hl; cases hl
      · rw [hrem]; simp

def loopsOf : Code → List (Nat × Code)
  | .seq a b => loopsOf a ++ loopsOf b
  | .cond _ a b => loopsOf a ++ loopsOf b
  | .block _ b => loopsOf b
  | .loop b => (match keyOf b with | some k => [(k, b)] | none => []) ++ loopsOf b
  | _ => []
/-- the loops that are told of do what is told -/
def LoopsOK (X : Cx) (N : Nat) (LS : Nat → Option PT) (c : Code) : Prop := ∀ k b p, (k, b) ∈ loopsOf c → LS k = some p → ∀ s K, p s K → SemC X N (.loop b) s K

theorem eval_bool {s : St} (hs : SR X C N ρ M s a w) {t : Tmp} {b : Bool} (h : s.env t = some (.av (.val .bool b))) : a.eval (.tmp t) = .bool b := by
  obtain ⟨e1, h1, h2, h3⟩ := hs
  obtain ⟨v1, g1, g2⟩ := h2 t _ h
  have g2 := VR.bool (X := X) (M := M) g2
  subst g2
  have := Ab.evo_sound (x := .tmp t) h1.env g1
  exact this

theorem unroll_rounds {F : PT} {b : Code} (hF : ∀ s K, F s K → SemC X N b s K) : ∀ (n : Nat) {s : St} {K : Post} {C : Ab.Ctx} {ρ : Nat → Ab.Loc} {M : Lk} {a : Act} {w : World} {R : Exit → Act → World → Prop}, unroll F n s K → SR X C N ρ M s a w →
    (∀ x s' a' w', K x s' → Then2 X C N ρ M s s' a' w' → R (exitOf x) a' w') → Code.rounds X.P b R n a w := by
  intro n
  induction n with
  | zero => intro s K C ρ M a w R h; cases h
  | succ n ih =>
    intro s K C ρ M a w R h hs hR
    rw [rounds_succ]
    refine hF s _ h C ρ M a w _ hs (fun x s1 a1 w1 hk ht => ?_)
    cases x with
    | normal =>
      obtain ⟨ρ1, M1, g1, g2, g3⟩ := ht
      exact ih hk g3 (fun x s' a' w' hk' ht' => hR x s' a' w' hk' (ht'.trans g1 g2))
    | ret => exact hR .ret s1 a1 w1 hk ht
    | exit i => exact hR (.exit i) s1 a1 w1 hk ht

/-- THE FORMULA HOLDS OF THE CODE -/
theorem W_sound (hX : XOK X) (hcon : ConsOK X) (hm : X.P.follows .mixedOrders = true) {LS : Nat → Option PT} : ∀ (c : Code), LoopsOK X N LS c → ∀ (s : St) (K : Post), W X N LS c s K → SemC X N c s K := by
  intro c
  induction c with
  | skip => intro _ s K h C ρ M a w R hs hR; exact wp_skip (hR .normal s a w h (.refl hs))
  | region id ops draw => intro _ s K h; exact region_semC hX hcon hm h
  | seq c d ihc ihd =>
    intro hl s K h C ρ M a w R hs hR
    refine wp_seq (ihc (fun k b p hk => hl k b p (by simp [loopsOf, hk])) s _ h C ρ M a w _ hs (fun x s1 a1 w1 hk ht => ?_))
    cases x with
    | normal =>
      obtain ⟨ρ1, M1, g1, g2, g3⟩ := ht
      exact ihd (fun k b p hk => hl k b p (by simp [loopsOf, hk])) s1 K hk C ρ1 M1 a1 w1 R g3 (fun x s' a' w' hk' ht' => hR x s' a' w' hk' (ht'.trans g1 g2))
    | ret => exact hR .ret s1 a1 w1 hk ht
    | exit i => exact hR (.exit i) s1 a1 w1 hk ht
  | cond o c d ihc ihd =>
    intro hl s K h C ρ M a w R hs hR
    have hlc : LoopsOK X N LS c := fun k b p hk => hl k b p (by simp [loopsOf, hk])
    have hld : LoopsOK X N LS d := fun k b p hk => hl k b p (by simp [loopsOf, hk])
    simp only [W] at h
    split at h
    · rename_i t
      split at h
      · rename_i b hb
        have hev := eval_bool hs hb
        have hst : ∀ c, b = c → (⟨s.env.set t (some (boolV c)), s.heap, s.next⟩ : St) = s := fun c hc => by
          have : s.env.set t (some (boolV c)) = s.env := Env.set_self (by rw [hb, hc]; rfl)
          rw [this]
        refine wp_cond hev ?_
        cases b with
        | true =>
          have h : W X N LS c ⟨s.env.set t (some (boolV true)), s.heap, s.next⟩ K := h
          rw [hst true rfl] at h
          exact ihc hlc s K h C ρ M a w R hs hR
        | false =>
          have h : W X N LS d ⟨s.env.set t (some (boolV false)), s.heap, s.next⟩ K := h
          rw [hst false rfl] at h
          exact ihd hld s K h C ρ M a w R hs hR
      · cases h
    · have hev : a.eval (.const (.bool true)) = .bool true := rfl
      refine wp_cond hev ?_
      exact ihc hlc s K h C ρ M a w R hs hR
    · have hev : a.eval (.const (.bool false)) = .bool false := rfl
      refine wp_cond hev ?_
      exact ihd hld s K h C ρ M a w R hs hR
    · cases h
  | block id b ih =>
    intro hl s K h C ρ M a w R hs hR
    refine wp_block (ih hl s _ h C ρ M a w _ hs (fun x s1 a1 w1 hk ht => ?_))
    cases x with
    | normal => exact hR .normal s1 a1 w1 hk ht
    | ret => exact hR .ret s1 a1 w1 hk ht
    | exit i =>
      simp only [exitOf, Exit.inBlock]
      cases hb : Nat.beq i id with
      | true =>
        have e := Nat.eq_of_beq_eq_true hb
        simp only [hb, cond_true] at hk
        rw [if_pos e]; exact hR .normal s1 a1 w1 hk ht
      | false =>
        have e : i ≠ id := by rintro rfl; simp at hb
        simp only [hb, cond_false] at hk
        rw [if_neg e]; exact hR (.exit i) s1 a1 w1 hk ht
  | loop b ih =>
    intro hl s K h
    simp only [W] at h
    have hlb : LoopsOK X N LS b := fun k b' p hk => hl k b' p (by simp [loopsOf, hk])
    split at h
    · rename_i p hp
      obtain ⟨k, hk, hp⟩ := Option.bind_eq_some_iff.1 hp
      exact hl k b p (by simp [loopsOf, hk]) hp s K h
    · intro C ρ M a w R hs hR
      exact wp_loop_rounds 1000 (unroll_rounds (fun s K h => ih hlb s K h) 1000 h hs hR)
  | exit id => intro _ s K h C ρ M a w R hs hR; exact wp_exit (hR (.exit id) s a w h (.refl hs))
  | label l => intro _ s K h C ρ M a w R hs hR; exact wp_label (hR .normal s a w h (.refl hs))
  | ret => intro _ s K h C ρ M a w R hs hR; exact wp_ret (hR .ret s a w h (.refl hs))
  | _ => intro _ s K h; cases h
end
end Go.Ty
