import Derived.Test.YtninlahlmjhmhaaAbWf
namespace Go.Ab
open Classical in
/-- the calls that look at no memory, of numbers within their kinds -/
noncomputable def goodOrc (o : Orc) : Orc := fun f l => if WfA l then o f l else none
noncomputable def Cx.good (X : Cx) : Cx := { X with orc := goodOrc X.orc }

structure OrcWf (X : Cx) : Prop where
  orc : ∀ f l v, X.orc f l = some v → WfA l → WfT v
  glob : ∀ g l, X.glob g = some l → WfL l

section
variable {X : Cx} {e : Env} {H : Heap}

theorem pv_good (hX : OrcWf X) (he : WfE e) {op : Op} {v : Value} (h : pv X e op = some v) : WfT v ∧ pv X.good e op = some v := by
  unfold pv at h
  cases op with
  | move x => exact ⟨evo_wf he h, h⟩
  | assign x => exact ⟨evo_wf he h, h⟩
  | pick c a b =>
    refine ⟨?_, h⟩
    simp only at h
    split at h
    · exact evo_wf he h
    · exact evo_wf he h
    · cases h
  | build t parts =>
    refine ⟨?_, h⟩
    obtain ⟨ps, hp, h⟩ := Option.bind_eq_some_iff.1 h
    exact abuild_wf h (evParts_wf he _ _ hp)
  | nilCheck x =>
    refine ⟨?_, h⟩
    simp only at h
    split at h
    · injection h with h; subst h; exact .of_cell rfl
    · cases h
  | binOp op t x y t2 =>
    refine ⟨?_, h⟩
    obtain ⟨x, hx, h⟩ := Option.bind_eq_some_iff.1 h
    obtain ⟨y, hy, h⟩ := Option.bind_eq_some_iff.1 h
    exact abin_wf h (evo_wf he hx) (evo_wf he hy)
  | unOp op t x =>
    refine ⟨?_, h⟩
    obtain ⟨x, hx, h⟩ := Option.bind_eq_some_iff.1 h
    exact aun_wf h
  | convert src dst x =>
    refine ⟨?_, h⟩
    obtain ⟨_, _, h⟩ := Option.bind_eq_some_iff.1 h
    obtain ⟨x, hx, h⟩ := Option.bind_eq_some_iff.1 h
    exact aconv_wf h
  | slice t x lo hi mx =>
    refine ⟨?_, h⟩
    obtain ⟨x, hx, h⟩ := Option.bind_eq_some_iff.1 h
    exact aslice_wf h
  | fieldAddr t x f =>
    refine ⟨?_, h⟩
    obtain ⟨x, hx, h⟩ := Option.bind_eq_some_iff.1 h
    exact afieldAddr_wf h
  | field t x f =>
    refine ⟨?_, h⟩
    obtain ⟨x, hx, h⟩ := Option.bind_eq_some_iff.1 h
    exact afield_wf h (evo_wf he hx)
  | indexAddr t x i =>
    refine ⟨?_, h⟩
    obtain ⟨x, hx, h⟩ := Option.bind_eq_some_iff.1 h
    obtain ⟨i, hi, h⟩ := Option.bind_eq_some_iff.1 h
    exact aindexAddr_wf h
  | index t x i =>
    refine ⟨?_, h⟩
    obtain ⟨x, hx, h⟩ := Option.bind_eq_some_iff.1 h
    obtain ⟨i, hi, h⟩ := Option.bind_eq_some_iff.1 h
    exact aindex_wf h (evo_wf he hx)
  | extract x i =>
    refine ⟨?_, h⟩
    simp only at h
    split at h
    · rename_i vs hx
      exact .of_V (evo_wf he hx _ (List.mem_of_getElem? h))
    · cases h
  | call c =>
    simp only at h
    unfold pv
    simp only
    split at h
    · refine ⟨?_, h⟩
      split at h
      · obtain ⟨x, hx, h⟩ := Option.bind_eq_some_iff.1 h
        exact alen_wf h
      · cases h
    · refine ⟨?_, h⟩
      obtain ⟨x, hx, h⟩ := Option.bind_eq_some_iff.1 h
      exact amin_wf h (evArgs_wf he _ _ hx)
    · refine ⟨?_, h⟩
      obtain ⟨x, hx, h⟩ := Option.bind_eq_some_iff.1 h
      exact amax_wf h (evArgs_wf he _ _ hx)
    · obtain ⟨f, hf, h⟩ := Option.bind_eq_some_iff.1 h
      obtain ⟨l, hl, h⟩ := Option.bind_eq_some_iff.1 h
      have hw := evArgs_wf he _ _ hl
      refine ⟨hX.orc f l v h hw, ?_⟩
      simp only [hf, hl, Option.bind_some]
      show goodOrc X.orc f l = some v
      unfold goodOrc
      rw [if_pos hw]; exact h
    · cases h
  | _ => cases h

/-- calls that may look at memory: in range, and the same where the calls that look at none are of numbers in range -/
def HcWf (hc hc' : HOrc) : Prop := ∀ f l H v H', hc f l H = some (v, H') → WfA l → WfH H → WfT v ∧ WfH H' ∧ hc' f l H = some (v, H')

theorem blkAt_mem {i : Nat} {b : Blk} (h : blkAt H i = some b) : H[i]? = some (some b) := blkAt_some h
theorem WfH.set {i : Nat} {b : Blk} (hH : WfH H) (hb : WfL b.cells) : WfH (H.set i (some b)) := by
  intro j c hj
  rw [List.getElem?_set] at hj
  split at hj
  · split at hj
    · injection hj with hj; injection hj with hj; subst hj; exact hb
    · cases hj
  · exact hH j c hj
theorem WfH.setNone {i : Nat} (hH : WfH H) : WfH (H.set i none) := by
  intro j c hj
  rw [List.getElem?_set] at hj
  split at hj
  · split at hj
    · injection hj with hj; cases hj
    · cases hj
  · exact hH j c hj
theorem WfH.add {b : Blk} (hH : WfH H) (hb : WfL b.cells) : WfH (H ++ [some b]) := by
  intro j c hj
  rcases Nat.lt_or_ge j H.length with hlt | hge
  · rw [List.getElem?_append_left hlt] at hj; exact hH j c hj
  · rw [List.getElem?_append_right hge] at hj
    have : j - H.length = 0 := by
      rcases Nat.eq_zero_or_pos (j - H.length) with h | h
      · exact h
      · rw [List.getElem?_eq_none (by simp only [List.length_cons, List.length_nil]; omega)] at hj; cases hj
    rw [this] at hj
    simp only [List.getElem?_cons_zero, Option.some.injEq] at hj
    subst hj; exact hb

theorem cellsAt_wf (hX : OrcWf X) (hH : WfH H) {p : Addr} {cs : List Value} (h : cellsAt X H p = some cs) : WfL cs := by
  unfold cellsAt at h
  split at h
  · obtain ⟨b, hb, rfl⟩ := Option.map_eq_some_iff.1 h
    exact hH _ b (blkAt_some hb)
  · exact hX.glob _ _ h
theorem ald_wf (hX : OrcWf X) (hH : WfH H) {t : TypeId} {a v : Value} (h : ald X H t a = some v) : WfV v := by
  unfold ald at h
  split at h
  · obtain ⟨cs, hcs, h⟩ := Option.bind_eq_some_iff.1 h
    exact apart_wf h (cellsAt_wf hX hH hcs)
  · cases h
theorem cond_elim' {α : Type} {b : Bool} {x : Option α} {v : α} {Q : Prop} (h : cond b x none = some v) (hx : b = true → x = some v → Q) : Q := by
  cases b
  · cases h
  · exact hx rfl h
theorem ast_wf (hH : WfH H) {P : Program} {t : TypeId} {a v : Value} {H' : Heap} (h : ast P H t a v = some H') (hv : WfT v) : WfH H' := by
  unfold ast at h
  split at h
  · split at h
    · rename_i b n hb _
      refine cond_elim' h (fun ht h => ?_)
      injection h with h; subst h
      have : isTup v = false := by
        simp only [Bool.and_eq_true, Bool.not_eq_true'] at ht
        exact ht.2
      exact hH.set ((hH _ b (blkAt_some hb)).splice (WfV.of_T hv this) _)
    · cases h
  · cases h
theorem rowOf_wf (hX : OrcWf X) (hH : WfH H) {sz n : Nat} {x : Value} {cs : List Value} (h : rowOf X H sz n x = some cs) : WfL cs := by
  unfold rowOf at h
  split at h
  · cases hn0 : Nat.beq n 0 with
    | true => rw [hn0] at h; injection h with h; subst h; intro c hc; simp at hc
    | false =>
    rw [hn0] at h
    obtain ⟨c, hc, h⟩ := Option.bind_eq_some_iff.1 h
    split at h
    · injection h with h; subst h
      exact ((cellsAt_wf hX hH hc).drop _).take _
    · cases h
  · split at h
    · injection h with h; subst h; intro c hc; simp at hc
    · cases h
  · injection h with h; subst h
    intro c hc
    obtain ⟨b, _, rfl⟩ := List.mem_map.1 hc
    exact byte_wf b
  · cases h
theorem acopy_wf (hX : OrcWf X) (hH : WfH H) {t : TypeId} {d s v : Value} {H' : Heap} (h : acopy X H t d s = some (v, H')) : WfT v ∧ WfH H' := by
  unfold acopy at h
  split at h
  · obtain ⟨sz, _, h⟩ := Option.bind_eq_some_iff.1 h
    obtain ⟨sl, _, h⟩ := Option.bind_eq_some_iff.1 h
    obtain ⟨cs, hcs, h⟩ := Option.bind_eq_some_iff.1 h
    split at h
    · injection h with h; injection h with h1 h2; subst h1 h2; exact ⟨.of_cell rfl, hH⟩
    · obtain ⟨b, hb, h⟩ := Option.bind_eq_some_iff.1 h
      split at h
      · injection h with h; injection h with h1 h2; subst h1 h2
        exact ⟨.of_cell rfl, hH.set ((hH _ b (blkAt_some hb)).splice (rowOf_wf hX hH hcs) _)⟩
      · cases h
    · cases h
  · cases h
theorem aappend_wf (hX : OrcWf X) (hH : WfH H) {t : TypeId} {s x v : Value} {H' : Heap} (h : aappend X H t s x = some (v, H')) (hs : WfT s) : WfT v ∧ WfH H' := by
  unfold aappend at h
  split at h
  · obtain ⟨sz, _, h⟩ := Option.bind_eq_some_iff.1 h
    obtain ⟨by_, _, h⟩ := Option.bind_eq_some_iff.1 h
    obtain ⟨z, _, h⟩ := Option.bind_eq_some_iff.1 h
    obtain ⟨n, _, h⟩ := Option.bind_eq_some_iff.1 h
    obtain ⟨new, hnew, h⟩ := Option.bind_eq_some_iff.1 h
    have hn := rowOf_wf hX hH hnew
    refine cond_elim h (fun h => by cases h) (fun h => ?_)
    refine cond_elim h (fun h => ?_) (fun h => ?_)
    · split at h
      · obtain ⟨b, hb, h⟩ := Option.bind_eq_some_iff.1 h
        split at h
        · injection h with h; injection h with h1 h2; subst h1 h2
          exact ⟨.of_cell rfl, hH.setNone.add ((hH _ b (blkAt_some hb)).app hn)⟩
        · cases h
      · cases h
    · split at h
      · split at h
        · injection h with h; injection h with h1 h2; subst h1 h2; exact ⟨hs, hH⟩
        · split at h
          · injection h with h; injection h with h1 h2; subst h1 h2; exact ⟨hs, hH⟩
          · obtain ⟨b, hb, h⟩ := Option.bind_eq_some_iff.1 h
            split at h
            · injection h with h; injection h with h1 h2; subst h1 h2
              exact ⟨.of_cell rfl, hH.set ((hH _ b (blkAt_some hb)).splice hn _)⟩
            · cases h
        · cases h
      · split at h
        · obtain ⟨old, ho, h⟩ := Option.bind_eq_some_iff.1 h
          injection h with h; injection h with h1 h2; subst h1 h2
          exact ⟨.of_cell rfl, hH.add ((rowOf_wf hX hH ho).app hn)⟩
        · cases h
  · cases h

theorem av_good (hX : OrcWf X) {hc hc' : HOrc} (hh : HcWf hc hc') (he : WfE e) (hH : WfH H) {op : Op} {r : Option Value} {H' : Heap} (h : av X hc e H op = some (r, H')) : (∀ v, r = some v → WfT v) ∧ WfH H' ∧ av X.good hc' e H op = some (r, H') := by
  unfold av at h
  cases op with
  | load t a =>
    have h0 := h
    obtain ⟨a', ha, h⟩ := Option.bind_eq_some_iff.1 h
    obtain ⟨v, hv, h⟩ := Option.map_eq_some_iff.1 h
    injection h with h1 h2; subst h1 h2
    exact ⟨fun u hu => by injection hu with hu; subst hu; exact .of_V (ald_wf hX hH hv), hH, h0⟩
  | alloc t =>
    have h0 := h
    obtain ⟨z, hz, h⟩ := Option.bind_eq_some_iff.1 h
    obtain ⟨n, _, h⟩ := Option.bind_eq_some_iff.1 h
    refine cond_elim' h (fun _ h => ?_)
    injection h with h; injection h with h1 h2; subst h1 h2
    exact ⟨fun u hu => by injection hu with hu; subst hu; exact .of_cell rfl, hH.add (zeroOf_wf hz), h0⟩
  | box t x =>
    have h0 := h
    obtain ⟨x', hx, h⟩ := Option.bind_eq_some_iff.1 h
    obtain ⟨n, _, h⟩ := Option.bind_eq_some_iff.1 h
    split at h
    · cases h
    · rename_i hnt
      injection h with h; injection h with h1 h2; subst h1 h2
      refine ⟨fun u hu => by injection hu with hu; subst hu; exact .of_cell rfl, hH.add ?_, h0⟩
      refine WfV.of_T (evo_wf he hx) ?_
      cases x' with
      | tuple vs => exact absurd rfl (hnt vs)
      | _ => rfl
  | store t a x =>
    have h0 := h
    obtain ⟨a', ha, h⟩ := Option.bind_eq_some_iff.1 h
    obtain ⟨x', hx, h⟩ := Option.bind_eq_some_iff.1 h
    obtain ⟨H1, hs, h⟩ := Option.map_eq_some_iff.1 h
    injection h with h1 h2; subst h1 h2
    exact ⟨fun u hu => (by cases hu), ast_wf hH hs (evo_wf he hx), h0⟩
  | buildSlice t len parts =>
    have h0 := h
    simp only at h
    split at h
    · obtain ⟨sz, _, h⟩ := Option.bind_eq_some_iff.1 h
      obtain ⟨z, hz, h⟩ := Option.bind_eq_some_iff.1 h
      obtain ⟨ps, hp, h⟩ := Option.bind_eq_some_iff.1 h
      obtain ⟨cs, hcs, h⟩ := Option.bind_eq_some_iff.1 h
      split at h
      · injection h with h; injection h with h1 h2; subst h1 h2
        exact ⟨fun u hu => by injection hu with hu; subst hu; exact .of_cell rfl, hH.add (afill_wf _ _ _ hcs (zerosN_wf (zeroOf_wf hz) _) (evParts_wf he _ _ hp)), h0⟩
      · cases h
    · cases h
  | makeSlice t l c =>
    have h0 := h
    simp only at h
    split at h
    · obtain ⟨sz, _, h⟩ := Option.bind_eq_some_iff.1 h
      obtain ⟨by_, _, h⟩ := Option.bind_eq_some_iff.1 h
      obtain ⟨z, hz, h⟩ := Option.bind_eq_some_iff.1 h
      obtain ⟨l', _, h⟩ := Option.bind_eq_some_iff.1 h
      obtain ⟨c', _, h⟩ := Option.bind_eq_some_iff.1 h
      split at h
      · injection h with h; injection h with h1 h2; subst h1 h2
        exact ⟨fun u hu => by injection hu with hu; subst hu; exact .of_cell rfl, hH.add (zerosN_wf (zeroOf_wf hz) _), h0⟩
      · cases h
    · cases h
  | call c =>
    unfold av
    simp only at h ⊢
    split at h
    · refine ⟨?_, ?_, h⟩ <;>
      · split at h
        · split at h
          all_goals first
            | cases h
            | (obtain ⟨s, hs, h⟩ := Option.bind_eq_some_iff.1 h
               obtain ⟨x, hx, h⟩ := Option.bind_eq_some_iff.1 h
               obtain ⟨⟨v, H1⟩, hv, h⟩ := Option.map_eq_some_iff.1 h
               injection h with h1 h2; subst h1 h2
               have := aappend_wf hX hH hv (evo_wf he hs)
               first
                 | exact this.2
                 | exact fun u hu => by injection hu with hu; subst hu; exact this.1)
        · cases h
    · refine ⟨?_, ?_, h⟩ <;>
      · split at h
        · obtain ⟨s, hs, h⟩ := Option.bind_eq_some_iff.1 h
          obtain ⟨x, hx, h⟩ := Option.bind_eq_some_iff.1 h
          obtain ⟨⟨v, H1⟩, hv, h⟩ := Option.map_eq_some_iff.1 h
          injection h with h1 h2; subst h1 h2
          have := acopy_wf hX hH hv
          first
            | exact this.2
            | exact fun u hu => by injection hu with hu; subst hu; exact this.1
        · cases h
    · obtain ⟨l, hl, h⟩ := Option.bind_eq_some_iff.1 h
      obtain ⟨⟨v, H1⟩, hv, h⟩ := Option.map_eq_some_iff.1 h
      injection h with h1 h2; subst h1 h2
      obtain ⟨k1, k2, k3⟩ := hh _ _ _ _ _ hv (evArgs_wf he _ _ hl) hH
      exact ⟨fun u hu => by injection hu with hu; subst hu; exact k1, k2, by simp only [hl, Option.bind_some, k3, Option.map_some]⟩
    · cases h
  | _ => cases h

def WfS (s : St) : Prop := WfE s.env ∧ WfH s.heap
theorem WfE.set {e : Env} (he : WfE e) {k : Nat} {v : Option Value} (hv : ∀ u, v = some u → WfT u) : WfE (e.set k v) := by
  intro j u hu
  unfold Env.set at hu
  cases hb : Nat.beq j k <;> simp only [hb, cond_true, cond_false] at hu
  · exact he j u hu
  · exact hv u hu
theorem putS_wf {e : Env} (he : WfE e) {d : Option Tmp} {v : Option Value} (hv : ∀ u, v = some u → WfT u) : WfE (putS e d v) := by
  cases d with
  | none => exact he
  | some d => exact he.set hv

theorem run1_good (hX : OrcWf X) {hc hc' : HOrc} (hh : HcWf hc hc') {ops : Array Oper} {N : Nat} {s s' : St} {o : Oper} (hs : WfS s) (h : run1 X hc ops N s o = some s') : WfS s' ∧ run1 X.good hc' ops N s o = some s' := by
  unfold run1 at h ⊢
  obtain ⟨⟨r, H1⟩, h1, h2⟩ := Option.map_eq_some_iff.1 h
  subst h2
  have key : (∀ v, r = some v → WfT v) ∧ WfH H1 ∧ act1 X.good hc' ops N s.env s.heap o = some (r, H1) := by
    unfold act1 at h1 ⊢
    cases hf : fitsN N o.dst <;> simp only [hf, cond_true, cond_false] at h1 ⊢
    · cases h1
    · split at h1
      · unfold aop at h1 ⊢
        show _ ∧ _ ∧ (bif isPure X.pf o.op then _ else _) = _
        cases hp : isPure X.pf o.op <;> simp only [hp, cond_true, cond_false] at h1 ⊢
        · exact av_good hX hh hs.1 hs.2 h1
        · obtain ⟨v, hv, h3⟩ := Option.map_eq_some_iff.1 h1
          injection h3 with h3 h4; subst h3 h4
          obtain ⟨k1, k2⟩ := pv_good hX hs.1 hv
          exact ⟨fun u hu => by injection hu with hu; subst hu; exact k1, hs.2, by rw [k2]; rfl⟩
      · injection h1 with h1; injection h1 with h3 h4; subst h3 h4
        exact ⟨fun u hu => (by injection hu with hu; subst hu; exact fun x hx => by simp at hx), hs.2, rfl⟩
      · cases h1
  obtain ⟨k1, k2, k3⟩ := key
  exact ⟨⟨putS_wf hs.1 k1, k2⟩, by rw [k3]; rfl⟩

theorem runL_good (hX : OrcWf X) {hc hc' : HOrc} (hh : HcWf hc hc') {ops : Array Oper} {N : Nat} : ∀ (os : List Oper) (s s' : St), WfS s → runL X hc ops N os s = some s' → WfS s' ∧ runL X.good hc' ops N os s = some s' := by
  intro os
  induction os with
  | nil => intro s s' hs h; simp only [runL, Option.some.injEq] at h ⊢; subst h; exact ⟨hs, rfl⟩
  | cons o os ih =>
    intro s s' hs h
    simp only [runL, Option.bind_eq_some_iff] at h ⊢
    obtain ⟨s1, h1, h2⟩ := h
    obtain ⟨k1, k2⟩ := run1_good hX hh hs h1
    obtain ⟨k3, k4⟩ := ih _ _ k1 h2
    exact ⟨k3, s1, k2, k4⟩

theorem runC_good (hX : OrcWf X) {hc hc' : HOrc} (hh : HcWf hc hc') {N : Nat} : ∀ (n : Nat) (c : Code) (s s' : St) (x : AExit), WfS s → runC X hc N n c s = some (x, s') → WfS s' ∧ runC X.good hc' N n c s = some (x, s') := by
  intro n
  induction n with
  | zero => intro c s s' x _ h; simp [runC] at h
  | succ n ih =>
    intro c s s' x hs h
    cases c with
    | region id ops draw =>
      simp only [runC] at h ⊢
      show _ ∧ (bif !draw || orderOk X.pf ops then _ else _) = _
      cases ho : (!draw || orderOk X.pf ops) with
      | false => simp [ho] at h
      | true =>
        simp only [ho, cond_true, Option.map_eq_some_iff, Prod.mk.injEq] at h ⊢
        obtain ⟨s1, h1, rfl, rfl⟩ := h
        obtain ⟨k1, k2⟩ := runL_good hX hh _ _ _ hs h1
        exact ⟨k1, s1, k2, rfl, rfl⟩
    | seq a b =>
      simp only [runC, Option.bind_eq_some_iff, Prod.exists] at h ⊢
      obtain ⟨x1, s1, h1, h2⟩ := h
      obtain ⟨k1, k2⟩ := ih _ _ _ _ hs h1
      cases x1 with
      | normal =>
        obtain ⟨k3, k4⟩ := ih _ _ _ _ k1 h2
        exact ⟨k3, .normal, s1, k2, k4⟩
      | ret => injection h2 with h2; injection h2 with h3 h4; subst h3 h4; exact ⟨k1, .ret, s1, k2, rfl⟩
      | exit i => injection h2 with h2; injection h2 with h3 h4; subst h3 h4; exact ⟨k1, .exit i, s1, k2, rfl⟩
    | cond cnd a b =>
      simp only [runC] at h ⊢
      split at h
      · rename_i t ht
        cases t with
        | true => exact ih _ _ _ _ hs h
        | false => exact ih _ _ _ _ hs h
      · cases h
    | block id b =>
      simp only [runC, Option.map_eq_some_iff, Prod.exists] at h ⊢
      obtain ⟨x1, s1, h1, h2⟩ := h
      obtain ⟨k1, k2⟩ := ih _ _ _ _ hs h1
      refine ⟨?_, x1, s1, k2, h2⟩
      cases x1 <;> (injection h2 with h3 h4; subst h4; exact k1)
    | loop b =>
      simp only [runC, Option.bind_eq_some_iff, Prod.exists] at h ⊢
      obtain ⟨x1, s1, h1, h2⟩ := h
      obtain ⟨k1, k2⟩ := ih _ _ _ _ hs h1
      cases x1 with
      | normal =>
        obtain ⟨k3, k4⟩ := ih _ _ _ _ k1 h2
        exact ⟨k3, .normal, s1, k2, k4⟩
      | ret => injection h2 with h2; injection h2 with h3 h4; subst h3 h4; exact ⟨k1, .ret, s1, k2, rfl⟩
      | exit i => injection h2 with h2; injection h2 with h3 h4; subst h3 h4; exact ⟨k1, .exit i, s1, k2, rfl⟩
    | skip => simp only [runC, Option.some.injEq, Prod.mk.injEq] at h ⊢; obtain ⟨rfl, rfl⟩ := h; exact ⟨hs, rfl, rfl⟩
    | exit i => simp only [runC, Option.some.injEq, Prod.mk.injEq] at h ⊢; obtain ⟨rfl, rfl⟩ := h; exact ⟨hs, rfl, rfl⟩
    | label i => simp only [runC, Option.some.injEq, Prod.mk.injEq] at h ⊢; obtain ⟨rfl, rfl⟩ := h; exact ⟨hs, rfl, rfl⟩
    | ret => simp only [runC, Option.some.injEq, Prod.mk.injEq] at h ⊢; obtain ⟨rfl, rfl⟩ := h; exact ⟨hs, rfl, rfl⟩
    | _ => simp [runC] at h
end
end Go.Ab
