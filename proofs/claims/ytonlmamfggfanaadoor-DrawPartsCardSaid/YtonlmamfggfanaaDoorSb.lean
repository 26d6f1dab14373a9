import Derived.Test.YtonlmamfggfanaaDoorSk
namespace Go.Ty
open Go.Ab (TRel VRel LRel CRel ERel Sim)

/-! ## Methods that write their receiver and hand back a list of their own, with flat values behind it -/
def resOM (X : Cx) (s : St) (rs : List ResultVar) (K : List AV → OwnV → Slot → Prop) : Prop := match rs with
  | .tmp t :: post => resK X s post fun l H => (match s.env t with
    | some (.av (.cell .nilS)) => K l none (H 0)
    | some (.av (.cell (.ref b (.row e1) [] e2 off len _))) => bif e1.beq e2 then (match H b with
      | .live ⟨.row e3 xs, true⟩ => (match castTo (.sl e3) (.sl e1) xs with
        | some xs => (off = 0 ∧ len = List.length xs) ∧ K l (some ⟨e1, xs⟩) (H 0)
        | none => False)
      | _ => False)
      else False
    | _ => False)
  | _ => False
def FWMO (X : Cx) (N : Nat) (LS : Nat → Option PT) (fn : Func) (s : Sh) (x : s.T) (args : List SV) (K : List AV → OwnV → Slot → Prop) : Prop :=
  match fn.body with
  | some c => W X N LS c ⟨envOf (.av (.cell (.ptr 0 (.one s) [])) :: args), fun k => bif Nat.beq k 0 then .live ⟨.one s (.val s x), true⟩ else .fresh, 1000⟩ fun e st => match e with
    | .exit _ => False
    | .normal => resOM X st fn.results.toList K
    | .ret => resOM X st fn.results.toList K
  | none => False
def PCMW (X : Cx) (f : FuncId) (s : Sh) (x y : s.T) (args : List SV) (l : List AV) (o : OwnV) : Prop := (∀ v ∈ l, noRef v = true) ∧ ∀ (C : Ab.Ctx) (ρ : Nat → Ab.Loc) (H1 : Ab.Heap) (w : World) (i : Nat) (B : Ab.Blk) (l1 l' : List Value),
  H1[i]? = some (some B) → B.own = true → Cells (gl1 X) H1 s x B.cells → ArgsR X (lk0 H1) args l1 → LRel (TRel ρ H1.length) (.pointer (some ⟨i, 0, none⟩) :: l1) l' → Sim (x1 X) C ρ H1 w →
  CallR X f l' w fun v' w' => ∃ us u ρ' H1' k B', ListR X (lk0 H1') l us ∧ OwnR X H1' k o u ∧ TRel ρ' H1'.length (oneV (u :: us)) v' ∧ (∀ j, j < H1.length → ρ' j = ρ j) ∧ Sim (x1 X) C ρ' H1' w' ∧ H1'[i]? = some (some B') ∧ B'.own = true ∧ Cells (gl1 X) H1' s y B'.cells ∧ (o.isSome = true → k ≠ i)
theorem FWMO_pcm {X : Cx} (hX : XOK X) (hcon : ConsOK X) (hm : X.P.follows .mixedOrders = true) {f : FuncId} {fn : Func} {c : Code} {LS : Nat → Option PT} {s : Sh} {x y : s.T} {args : List SV} {l : List AV} {o : OwnV} (hf : X.P.funcs[f]? = some fn) (hc : fn.body = some c)
    (hname : (fn.name == "runtime.NumGoroutine") = false) (hN : Nat.ble (args.length + 1) fn.ntmps = true) (hl : LoopsOK X fn.ntmps LS c) (h : FWMO X fn.ntmps LS fn s x args fun l' o' sl => l' = l ∧ o' = o ∧ sl = .live ⟨.one s (.val s y), true⟩) (hr : ∀ v ∈ l, noRef v = true) : PCMW X f s x y args l o := by
  refine ⟨hr, fun C ρ H1 w i B l1 l' hB hBo hBc ha hl' hs => .inl ⟨fn, hf, hname, by rw [hc]; rfl, ?_⟩⟩
  have hN := Nat.le_of_ble_eq_true hN
  unfold FWMO at h
  rw [hc] at h
  refine calls_of_wp hf hc ?_
  have hilt : i < H1.length := (List.getElem?_eq_some_iff.1 hB).1
  have hst : SR X C fn.ntmps ρ ⟨H1, fun k => if k = 0 then some i else none, fun _ => 0⟩ ⟨envOf (.av (.cell (.ptr 0 (.one s) [])) :: args), fun k => bif Nat.beq k 0 then .live ⟨.one s (.val s x), true⟩ else .fresh, 1000⟩ { tmps := (⟨l'⟩ : Array Value) ++ Array.replicate (fn.ntmps - (⟨l'⟩ : Array Value).size) undef, defers := [] } w := by
    refine ⟨Ab.envOf (.pointer (some ⟨i, 0, none⟩) :: l1), Ab.SRel.start (H := H1) hs hl' (by rw [List.length_cons, ← ha.1]; exact hN), fun k v hk => ?_, ⟨fun k z hk => ?_, fun k k' z z' j hk hk' _ _ _ => ?_, fun k hk => ?_, fun k j hk => ?_⟩⟩
    · cases k with
      | zero =>
        have hk : some (SV.av (.cell (.ptr 0 (.one s) []))) = some v := hk
        injection hk with hk
        subst hk
        exact ⟨_, rfl, VR.mkptr (M := ⟨H1, fun k => if k = 0 then some i else none, fun _ => 0⟩) (i := i) (r := .one s) (p := []) rfl (inP_nil s) (by simp only [offL, offS_nil])⟩
      | succ k =>
        obtain ⟨v1, g1, g2⟩ := ha.2 k v hk
        exact ⟨v1, g1, g2.mono (M := lk0 H1) (M' := ⟨H1, fun k => if k = 0 then some i else none, fun _ => 0⟩) (fun _ _ h _ => h) (fun _ _ h => by cases h)⟩
    · cases k with
      | zero =>
        have hk : Slot.live ⟨.one s (.val s x), true⟩ = .live z := hk
        injection hk with hk
        subst hk
        exact ⟨i, B, rfl, hB, hBo, ⟨rfl, hBc⟩, fun _ _ h => by cases h⟩
      | succ k => cases hk
    · cases k with
      | zero => cases k' with
        | zero => rfl
        | succ k' => cases hk'
      | succ k => cases hk
    · cases k with
      | zero => cases hk
      | succ k => rfl
    · cases k with
      | zero =>
        have hk : some i = some j := hk
        injection hk with hk
        subst hk; exact hilt
      | succ k => cases hk
  refine W_sound hX hcon hm c hl _ _ h C ρ _ _ w _ hst (fun e s' a' w' hk ht => ?_)
  obtain ⟨ρ', M', t1, t2, e1, t3, t4, t5⟩ := ht
  have hk : resOM X s' fn.results.toList (fun l' o' sl => l' = l ∧ o' = o ∧ sl = .live ⟨.one s (.val s y), true⟩) ∧ ∀ i, e ≠ .exit i := by
    cases e with
    | normal => exact ⟨hk, by simp⟩
    | ret => exact ⟨hk, by simp⟩
    | exit i => cases hk
  obtain ⟨hk, hx⟩ := hk
  obtain ⟨t, post, hrl, hk⟩ : ∃ t post, fn.results.toList = .tmp t :: post ∧ resOM X s' (.tmp t :: post) (fun l' o' sl => l' = l ∧ o' = o ∧ sl = .live ⟨.one s (.val s y), true⟩) := by
    unfold resOM at hk
    split at hk
    · rename_i t post h; exact ⟨t, post, h, hk⟩
    · cases hk
  unfold resOM at hk
  obtain ⟨l2, Hm, H1m, vs, k1, k2, k3, k4, k5, k6, k7⟩ := resK_sound hX _ hk t4 t5
  have hsr : Ab.SRel (x1 X) C fn.ntmps ρ' ⟨e1, H1m⟩ a' w' := ⟨sim_frz k2 t3.sim, by have := t3.env; rw [show (Ab.St.mk e1 H1m).heap.length = M'.H1.length from k2.1]; exact this, t3.size, t3.defers⟩
  have own : ∃ u i, e1 t = some u ∧ Go.Ab.isTup u = false ∧ OwnR X H1m i o u ∧ l2 = l ∧ (o.isSome = true → ∃ b, ∃ yy : (e : Sh) × List e.T, ∃ z, Hm b = .live z ∧ z.own = true ∧ M'.mu b = some i ∧ z.c = .row yy.1 yy.2) ∧ Hm 0 = .live ⟨.one s (.val s y), true⟩ := by
    dsimp only at k1
    split at k1
    · rename_i he
      obtain ⟨u, g1, g2⟩ := t4 t _ he
      have g2 : VR (gl1 X) M' (.cell .nilS) u := g2
      obtain ⟨rfl, rfl, k0⟩ := k1
      exact ⟨u, 0, g1, g2.nottup, g2.cell, rfl, (fun h => by cases h), k0⟩
    · rename_i b ee e2 off len cap he
      obtain ⟨u, g1, g2⟩ := t4 t _ he
      have g2 : VR (gl1 X) M' (.cell (.ref b (.row ee) [] e2 off len cap)) u := g2
      cases hb : ee.beq e2 with
      | false => rw [hb] at k1; cases k1
      | true =>
        rw [hb] at k1
        simp only [cond_true] at k1
        have hb := Sh.eq_of_beq hb
        subst hb
        split at k1
        · rename_i e3 xs hlive
          split at k1
          · rename_i xs' hx'
            obtain ⟨⟨rfl, rfl⟩, rfl, rfl, k0⟩ := k1
            have hb3 := castSl_eq hx'
            subst hb3
            have hxs := castSl_same hx'
            subst hxs
            obtain ⟨i, c', o', q1, q2, q3, q4, q5, q6⟩ := (VR.forget g2).cell
            obtain ⟨i', B, m1, m2, m3, m4, m5⟩ := k3.live b _ hlive
            have m1 : M'.mu b = some i' := m1
            rw [q1] at m1
            injection m1 with m1
            subst m1
            obtain ⟨n1, n2, n3⟩ := m4
            have hln : List.length xs' = M'.ln b := m5 _ _ rfl
            refine ⟨u, i, g1, g2.nottup, ⟨B, c', m2, by rw [m3], n1, n2, n3, ?_, ?_⟩, rfl, (fun _ => ⟨b, ⟨_, _⟩, _, hlive, rfl, q1, rfl⟩), k0⟩
            · have : o' = 0 := by
                have : o' ≤ 0 := by simpa [offL] using q4
                omega
              rw [q3, this]
            · rw [← hln] at q6; exact q6
          · cases k1
        · cases k1
    · cases k1
  obtain ⟨u, k, o1, o2, o3, rfl, o5, k0⟩ := own
  have hres1 : Ab.ares1 (x1 X) ⟨e1, H1m⟩ (.tmp t) = some u := by
    simp only [Ab.ares1, o1, Option.bind_some, o2, cond_false]
  have hL : Ab.aresL (x1 X) ⟨e1, H1m⟩ fn.results.toList = some (u :: vs) := by
    rw [hrl]
    show (Ab.ares1 (x1 X) ⟨e1, H1m⟩ (.tmp t)).bind (fun v => (Ab.aresL (x1 X) ⟨e1, H1m⟩ post).map fun vs => v :: vs) = _
    rw [hres1, k5]; rfl
  have hres := aresults_one hL
  obtain ⟨v', q1, q2⟩ := Ab.aresults_sound hsr hres
  obtain ⟨i', B', z1, z2, z3, z4, _⟩ := k3.live 0 _ k0
  have ei : M'.mu 0 = some i := (t2.mu 0 i (by decide) rfl).1
  have z1 : M'.mu 0 = some i' := z1
  rw [ei] at z1
  injection z1 with z1
  subst z1
  have z4 : CellsA (gl1 X) ⟨H1m, M'.mu, M'.ln⟩ (.val s y) s B'.cells := z4
  have fin : ∃ v'', Ending.returned v' = .returned v'' ∧ ∃ us u ρ' H1' k B', ListR X (lk0 H1') l2 us ∧ OwnR X H1' k o u ∧ TRel ρ' H1'.length (oneV (u :: us)) v'' ∧ (∀ j, j < H1.length → ρ' j = ρ j) ∧ Sim (x1 X) C ρ' H1' w' ∧ H1'[i]? = some (some B') ∧ B'.own = true ∧ Cells (gl1 X) H1' s y B'.cells ∧ (o.isSome = true → k ≠ i) := by
    refine ⟨v', rfl, vs, u, ρ', H1m, k, B', ⟨k6.1, fun j v hj => ?_⟩, o3, q2, t1, hsr.sim, z2, z3, z4.2, fun ho hki => ?_⟩
    · obtain ⟨u', z1, z2⟩ := k6.2 j v hj
      exact ⟨u', z1, noRef_vr (M := ⟨H1m, M'.mu, M'.ln⟩) (M' := lk0 H1m) (fun _ _ h _ => h) (k7 v (List.mem_of_getElem? hj)) z2⟩
    · obtain ⟨b, yy, z, y1, y2, y3, y4⟩ := o5 ho
      subst hki
      have e0 := k3.inj b 0 z _ k y1 k0 y2 y3 ei
      subst e0
      rw [k0] at y1
      injection y1 with y1
      subst y1
      cases y4
  cases e with
  | normal => exact ⟨t3.defers, v', q1, fin⟩
  | ret => exact ⟨t3.defers, v', q1, fin⟩
  | exit i => exact absurd rfl (hx i)

theorem vrel_flat {ρ ρ' : Nat → Ab.Loc} {n n' : Nat} {s : Sh} {x : s.T} {v' : Value} (hf : s.flat = true) (h : VRel ρ' n' (flatV s x) v') : VRel ρ n (flatV s x) v' := by
  have hp := plain_cells (x := x) hf
  unfold flatV mkV at *
  cases ha : s.isAgg with
  | true =>
    rw [ha] at h
    obtain ⟨cs', e, hl⟩ := h
    refine ⟨cs', e, hl.1, fun j v hj => ?_⟩
    obtain ⟨v2, a, r⟩ := hl.2 j v hj
    have hv := hp v (List.mem_of_getElem? hj)
    have := CRel.plain_eq hv r
    subst this
    exact ⟨_, a, CRel.plain hv⟩
  | false =>
    rw [ha] at h
    generalize cellsOf s x = cs at *
    cases cs with
    | nil => exact absurd h (fun h => h)
    | cons v cs =>
      have hv := hp v List.mem_cons_self
      cases v with
      | pointer o => cases o with
        | none => exact h
        | some a => simp [Ab.plainC] at hv
      | slice o l c => cases o with
        | none => exact h
        | some a => simp [Ab.plainC] at hv
      | agg _ => simp [Ab.plainC] at hv
      | tuple _ => simp [Ab.plainC] at hv
      | _ => exact h
theorem trel_list {ρ ρ' : Nat → Ab.Loc} {n n' : Nat} {u u2 : Value} {us : List Value} {v' : Value} (ht : ∀ v', TRel ρ' n' u v' → TRel ρ n u2 v') (hu : ∀ v', VRel ρ' n' u v' → VRel ρ n u2 v') (hus : ∀ z ∈ us, ∀ v', VRel ρ' n' z v' → VRel ρ n z v')
    (h : TRel ρ' n' (oneV (u :: us)) v') : TRel ρ n (oneV (u2 :: us)) v' := by
  cases us with
  | nil => exact ht v' h
  | cons z us =>
    obtain ⟨vs', e, hl⟩ := h
    have hl : LRel (VRel ρ' n') (u :: z :: us) vs'.toList := hl
    refine ⟨vs', e, hl.1, fun j v hj => ?_⟩
    cases j with
    | zero =>
      have hj : some u2 = some v := hj
      injection hj with hj
      subst hj
      obtain ⟨v2, a, r⟩ := hl.2 0 u rfl
      exact ⟨v2, a, hu v2 r⟩
    | succ j =>
      obtain ⟨v2, a, r⟩ := hl.2 (j + 1) v hj
      exact ⟨v2, a, hus v (List.mem_of_getElem? (i := j) hj) v2 r⟩
theorem sim_set {X : Cx} {C : Ab.Ctx} {ρ ρ' : Nat → Ab.Loc} {H1 H1' : Ab.Heap} {w w' : World} {i : Nat} {B B' : Ab.Blk} (hs : Sim (x1 X) C ρ H1 w) (z2 : H1[i]? = some (some B)) (z3 : B.own = true) (q4 : Sim (x1 X) ⟨w, fun b => b = (ρ i).block, 0, ρ⟩ ρ' H1' w') (hρ : ρ' i = ρ i)
    (q5 : H1'[i]? = some (some B')) (hp : ∀ v ∈ B'.cells, Ab.plainC v = true) : Sim (x1 X) C ρ (H1.set i (some B')) w' := by
  have hblk : C.S (ρ i).block ∨ C.w.heap.size ≤ (ρ i).block := hs.own i B z2 z3
  have hw : ∀ b, b < w.heap.size → b ≠ (ρ i).block → w'.heap[b]? = w.heap[b]? := fun b hb hne => q4.keep b hb hne
  have at_ : ∀ (j : Nat) b, (H1.set i (some B'))[j]? = some (some b) → (j = i ∧ b = B') ∨ (j ≠ i ∧ H1[j]? = some (some b)) := by
    intro j b hj
    rw [set_at z2] at hj
    by_cases e : j = i
    · rw [if_pos e] at hj
      injection hj with hj
      injection hj with hj
      exact .inl ⟨e, hj.symm⟩
    · rw [if_neg e] at hj
      exact .inr ⟨e, hj⟩
  exact {
    blk := fun j b hj => by
      rcases at_ j b hj with ⟨rfl, rfl⟩ | ⟨hne, g1⟩
      · obtain ⟨cs, t, fr, k1, k2, k3⟩ := q4.blk _ _ q5
        rw [hρ] at k1 k2 k3
        refine ⟨cs, t, fr, k1, k2, fun k v hv => ?_⟩
        obtain ⟨v2, r1, r2⟩ := k3 k v hv
        have hv := hp v (List.mem_of_getElem? hv)
        have e := CRel.plain_eq hv r2
        subst e
        exact ⟨_, r1, CRel.plain hv⟩
      · obtain ⟨cs, t, fr, k1, k2, k3⟩ := hs.blk j b g1
        have hd := hs.far i j B b z2 g1 z3 (fun e => hne e.symm)
        exact ⟨cs, t, fr, by rw [hw _ (Array.getElem?_eq_some_iff.1 k1).1 (fun e => hd e.symm)]; exact k1, k2, by rw [List.length_set]; exact k3⟩
    own := fun j b hj ho => by
      rcases at_ j b hj with ⟨rfl, rfl⟩ | ⟨hne, g1⟩
      · exact hblk
      · exact hs.own j b g1 ho
    far := fun j k bj bk hj hk ho hne => by
      rcases at_ j bj hj with ⟨rfl, rfl⟩ | ⟨hn1, g1⟩
      · rcases at_ k bk hk with ⟨rfl, rfl⟩ | ⟨hn2, g2⟩
        · exact absurd rfl hne
        · exact hs.far _ k B bk z2 g2 z3 hne
      · rcases at_ k bk hk with ⟨rfl, rfl⟩ | ⟨hn2, g2⟩
        · exact hs.far j _ bj B g1 z2 ho hne
        · exact hs.far j k bj bk g1 g2 ho hne
    os := q4.os.trans hs.os, tape := q4.tape.trans hs.tape, output := q4.output.trans hs.output
    size := Nat.le_trans hs.size q4.size
    keep := fun b hb hn => by
      have hne : b ≠ (ρ i).block := by
        rintro rfl
        exact hblk.elim hn (fun h => absurd hb (Nat.not_lt.2 h))
      exact (hw b (Nat.lt_of_lt_of_le hb hs.size) hne).trans (hs.keep b hb hn)
    agree := hs.agree, len := by rw [List.length_set]; exact hs.len, glob := hs.glob }
theorem sim_add {X : Cx} {C : Ab.Ctx} {ρ : Nat → Ab.Loc} {H1 : Ab.Heap} {w : World} (hs : Sim (x1 X) C ρ H1 w) {L : Ab.Loc} {B : Ab.Blk} {cs : Array Value} {t : TypeId} {fr : Nat × Nat} (k1 : w.heap[L.block]? = some (.cells cs t fr))
    (k2 : B.own = true → fr = (0, 0) ∧ cs.size = L.off + L.size ∧ B.es = L.es ∧ B.cells.length ≤ L.size) (k3 : ∀ (j : Nat) (v : Value), B.cells[j]? = some v → cs[L.off + j]? = some v ∧ Ab.plainC v = true)
    (hown : C.S L.block ∨ C.w.heap.size ≤ L.block) (hnew : ∀ (j : Nat) b, H1[j]? = some (some b) → (ρ j).block ≠ L.block) : Sim (x1 X) C (Ab.upd ρ H1.length L) (H1 ++ [some B]) w := by
  have at_ : ∀ (j : Nat) b, (H1 ++ [some B])[j]? = some (some b) → (j < H1.length ∧ H1[j]? = some (some b) ∧ Ab.upd ρ H1.length L j = ρ j) ∨ (j = H1.length ∧ b = B ∧ Ab.upd ρ H1.length L j = L) := by
    intro j b hj
    by_cases c : j < H1.length
    · rw [List.getElem?_append_left c] at hj
      exact .inl ⟨c, hj, Ab.upd_lt j c⟩
    · rw [List.getElem?_append_right (by omega)] at hj
      have e : j - H1.length = 0 := by
        have := (List.getElem?_eq_some_iff.1 hj).1
        simp at this; omega
      rw [e] at hj
      have hj : some (some B) = some (some b) := hj
      injection hj with hj
      injection hj with hj
      have ej : j = H1.length := by omega
      subst ej
      exact .inr ⟨rfl, hj.symm, Ab.upd_same⟩
  exact {
    blk := fun j b hj => by
      rcases at_ j b hj with ⟨c, g1, g2⟩ | ⟨c, rfl, g2⟩
      · obtain ⟨cs, t, fr, k1, k2, k3⟩ := hs.blk j b g1
        rw [g2]
        exact ⟨cs, t, fr, k1, k2, fun k v hv => by
          obtain ⟨v', r1, r2⟩ := k3 k v hv
          exact ⟨v', r1, r2.mono Ab.upd_lt (by rw [List.length_append]; exact Nat.le_succ _)⟩⟩
      · rw [g2]
        exact ⟨cs, t, fr, k1, k2, fun k v hv => ⟨v, (k3 k v hv).1, CRel.plain (k3 k v hv).2⟩⟩
    own := fun j b hj ho => by
      rcases at_ j b hj with ⟨c, g1, g2⟩ | ⟨c, rfl, g2⟩
      · rw [g2]; exact hs.own j b g1 ho
      · rw [g2]; exact hown
    far := fun j k bj bk hj hk2 ho hne => by
      rcases at_ j bj hj with ⟨c, g1, g2⟩ | ⟨c, rfl, g2⟩
      · rcases at_ k bk hk2 with ⟨c', g1', g2'⟩ | ⟨c', rfl, g2'⟩
        · rw [g2, g2']; exact hs.far j k bj bk g1 g1' ho hne
        · rw [g2, g2']; exact hnew j bj g1
      · rcases at_ k bk hk2 with ⟨c', g1', g2'⟩ | ⟨c', rfl, g2'⟩
        · rw [g2, g2']; exact fun e => hnew k bk g1' e.symm
        · exact absurd (c.trans c'.symm) hne
    os := hs.os, tape := hs.tape, output := hs.output, size := hs.size, keep := hs.keep
    agree := fun j hj => (Ab.upd_lt j (Nat.lt_of_lt_of_le hj hs.len)).trans (hs.agree j hj)
    len := Nat.le_trans hs.len (by rw [List.length_append]; exact Nat.le_succ _)
    glob := hs.glob }
theorem sim_but {X : Cx} {C : Ab.Ctx} {ρ : Nat → Ab.Loc} {H1 : Ab.Heap} {w : World} {i : Nat} {B : Ab.Blk} (hs : Sim (x1 X) C ρ H1 w) (z2 : H1[i]? = some (some B)) (z3 : B.own = true) : Sim (x1 X) ⟨w, fun b => b = (ρ i).block, 0, ρ⟩ ρ (frzBut H1 i B) w := by
  have hblk : C.S (ρ i).block ∨ C.w.heap.size ≤ (ρ i).block := hs.own i B z2 z3
  exact {
  blk := fun j b hb => by
    rw [frzBut_len]
    rcases frzBut_at z2 hb with ⟨rfl, rfl⟩ | ⟨hne, b0, g1, rfl⟩
    · exact hs.blk _ _ z2
    · obtain ⟨cs, t, fr, q1, q2, q3⟩ := hs.blk j b0 g1
      exact ⟨cs, t, fr, q1, (fun h => by cases h), q3⟩
  own := fun j b hb ho => by
    rcases frzBut_at z2 hb with ⟨rfl, rfl⟩ | ⟨hne, b0, g1, rfl⟩
    · exact .inl rfl
    · cases ho
  far := fun j k bj bk hj hk ho hne => by
    rcases frzBut_at z2 hj with ⟨rfl, rfl⟩ | ⟨_, b0, g1, rfl⟩
    · rcases frzBut_at z2 hk with ⟨rfl, rfl⟩ | ⟨_, b1, g2, rfl⟩
      · exact absurd rfl hne
      · exact hs.far _ k _ b1 z2 g2 ho hne
    · cases ho
  os := rfl, tape := rfl, output := rfl, size := Nat.le_refl _, keep := fun _ _ _ => rfl, agree := fun _ _ => rfl, len := Nat.zero_le _
  glob := fun g l hgl => by
    obtain ⟨a1, a2, cs, t, fr, a3, a4⟩ := hs.glob g l hgl
    have hlt : g < C.w.heap.size := (Array.getElem?_eq_some_iff.1 a3).1
    refine ⟨fun e => ?_, a2, cs, t, fr, (hs.keep g hlt a1).trans a3, a4⟩
    have e : g = (ρ i).block := e
    rw [← e] at hblk
    exact hblk.elim a1 (fun h => absurd hlt (Nat.not_lt.2 h)) }

def conMW (s : Sh) (as : List Ar) (G : s.T → HA as → s.T) (F : s.T → HA as → WT) : ConT := fun args nid => match args with
  | .av (.cell (.ptr b (.one s') [])) :: rest => bif s'.beq s && rest.all noRefS then (match parseA as rest with
      | some xs => .look b fun k => match k with
          | ⟨.one _ (.val s3 x), true⟩ => .ofO (castTo s3 s x) fun x => .put b ⟨.one s (.val s (G x xs)), true⟩ ((F x xs).act 0 nid)
          | _ => .fail
      | none => .fail) else .fail
  | _ => .fail
def flatL1 (l : List AV) : Prop := ∀ v ∈ l, ∃ t e, v = .val t e ∧ t.flat = true
theorem conMW_ok {P : Program} {gl : Nat → Option ((s : Sh) × s.T)} {f : FuncId} {s : Sh} {as : List Ar} {G : s.T → HA as → s.T} {F : s.T → HA as → WT} (hsf : s.flat = true)
    (h : ∀ (x : s.T) (xs : HA as), s.wfT x → wfHA as xs → (F x xs).cond → PCMW (bx P gl) f s x (G x xs) (argsA as xs) (F x xs).val.1 (F x xs).val.2)
    (hr : ∀ x xs, flatL1 (F x xs).val.1 ∧ ∀ e ys, (F x xs).val.2 = some ⟨e, ys⟩ → e.flat = true) : COK P gl f (conMW s as G F) := by
  intro C ρ M H w args l1 l' nid v H' hex ha hl hs hH
  unfold conMW at hex
  split at hex
  · rename_i b s' rest
    simp only [Ex_bif, Ex_fail, and_false, or_false, Bool.and_eq_true] at hex
    obtain ⟨⟨hbs, hno⟩, hex⟩ := hex
    cases hg : parseA as rest with
    | none => rw [hg] at hex; simp at hex
    | some xs =>
      rw [hg] at hex
      simp only [Ex_look] at hex
      obtain ⟨k, hk, hex⟩ := hex
      split at hex
      · rename_i s2 s3 x0
        simp only [Ex_ofO, Ex_put] at hex
        obtain ⟨x, hx, y0, _, hex⟩ := hex
        have hex := Ex_pre.1 (WT.act_val hex)
        obtain ⟨hp, hex⟩ := hex
        obtain ⟨u, l2, rfl, hu, har⟩ := ha.inv
        obtain ⟨i, q1, q2, rfl⟩ := VR.cell hu
        obtain ⟨i', B, z1, z2, z3, z4, z5⟩ := hH.live b _ hk
        rw [q1] at z1
        injection z1 with z1
        subst z1
        obtain ⟨rfl, z4⟩ : s3 = s2 ∧ Cells (gl1 (bx P gl)) M.H1 s3 x0 B.cells := z4
        have hc := castTo_cells2 hx z4
        have hc0 : B.cells = cellsOf s x := cellsOf_eq hsf hc
        have hoff : offL (.one s') [] = 0 := by simp only [offL, offS_nil]
        rw [hoff] at hl
        have hilt : i < M.H1.length := (List.getElem?_eq_some_iff.1 z2).1
        have hro : RoLe M.H1 (frzBut M.H1 i B) := by
          intro j b' hb' ho
          have hne : j ≠ i := by
            rintro rfl
            rw [z2] at hb'
            injection hb' with hb'
            injection hb' with hb'
            subst hb'
            rw [z3] at ho; cases ho
          unfold frzBut
          rw [set_at (frzAll_at z2), if_neg hne, frzAll_at hb']
          cases b'; cases ho; rfl
        have har' : ArgsR (bx P gl) (lk0 (frzBut M.H1 i B)) rest l2 := ⟨har.1, fun j v hv => by
          obtain ⟨u', y1, y2⟩ := har.2 j v hv
          exact ⟨u', y1, noRef_svr (M := M) (M' := lk0 (frzBut M.H1 i B)) hro (List.all_eq_true.1 hno v (List.mem_of_getElem? hv)) y2⟩⟩
        have ha' := argsA_parse hg har'
        obtain ⟨hnr, hpc⟩ := h x xs hc.wf (argsA_wf ha') hp
        obtain ⟨hfl, hfe⟩ := hr x xs
        have key := hpc ⟨w, fun b => b = (ρ i).block, 0, ρ⟩ ρ (frzBut M.H1 i B) w i B l2 l' (by unfold frzBut; rw [set_at (frzAll_at z2), if_pos rfl]) z3 (by rw [hc0]; exact cells_of hsf hc.wf) ha' (by rw [frzBut_len]; exact hl) (sim_but hs z2 z3)
        have fin : ∀ v' w', (∃ us u ρ' H1' k B', ListR (bx P gl) (lk0 H1') (F x xs).val.1 us ∧ OwnR (bx P gl) H1' k (F x xs).val.2 u ∧ TRel ρ' H1'.length (oneV (u :: us)) v' ∧ (∀ j, j < (frzBut M.H1 i B).length → ρ' j = ρ j) ∧ Sim (x1 (bx P gl)) ⟨w, fun b => b = (ρ i).block, 0, ρ⟩ ρ' H1' w' ∧ H1'[i]? = some (some B') ∧ B'.own = true ∧ Cells (gl1 (bx P gl)) H1' s (G x xs) B'.cells ∧ ((F x xs).val.2.isSome = true → k ≠ i)) →
            ∃ u v1 ρ' M', v = some u ∧ SVR (gl1 (bx P gl)) M' u v1 ∧ TRel ρ' M'.H1.length v1 v' ∧ (∀ i, i < M.H1.length → ρ' i = ρ i) ∧ Sim (x1 (bx P gl)) C ρ' M'.H1 w' ∧ HR (gl1 (bx P gl)) M' H' ∧ Ext M H M' H' := by
          rintro v' w' ⟨us, u, ρ', H1', k, B', p1, p2, p3, q3, q4, q5, q6, q7, q8⟩
          have hρ : ρ' i = ρ i := q3 i (by rw [frzBut_len]; exact hilt)
          have hcells : B'.cells = cellsOf s (G x xs) := cellsOf_eq hsf q7
          have hp1 : ∀ v ∈ B'.cells, Ab.plainC v = true := fun v hv => plain_cells (x := G x xs) hsf v (by rw [← hcells]; exact hv)
          obtain ⟨hA, hE⟩ := put_step hH hk rfl q1 z2 z3 q6 (c' := .one s (.val s (G x xs))) (B' := B') ⟨rfl, by rw [hcells]; exact cells_of hsf q7.wf⟩ (fun _ _ h => by cases h)
          have hS := sim_set hs z2 z3 q4 hρ q5 hp1
          -- the flat values
          have hus : ∀ (n : Nat) (ρ2 : Nat → Ab.Loc), ∀ z ∈ us, ∀ v', VRel ρ' H1'.length z v' → VRel ρ2 n z v' := fun n ρ2 z hz v' hv => by
            obtain ⟨j, hj⟩ := List.getElem?_of_mem hz
            have hjl : j < (F x xs).val.1.length := by rw [p1.1]; exact (List.getElem?_eq_some_iff.1 hj).1
            obtain ⟨z2, y1, y2⟩ := p1.2 j _ (List.getElem?_eq_getElem hjl)
            rw [hj] at y1
            injection y1 with y1
            subst y1
            obtain ⟨t, e, ev, hf⟩ := hfl _ (List.getElem_mem hjl)
            rw [ev] at y2
            have := VR.flat hf y2
            subst this
            exact vrel_flat hf hv
          have lst : ∀ M' : Lk, ListR (bx P gl) M' (F x xs).val.1 us := fun M' => ⟨p1.1, fun j a hj => by
            obtain ⟨u', y1, y2⟩ := p1.2 j a hj
            obtain ⟨t, e, rfl, hf⟩ := hfl a (List.mem_of_getElem? hj)
            obtain ⟨cs, g1, g2⟩ := y2.val
            have := VR.flat hf y2
            subst this
            exact ⟨_, y1, VR.mkflat hf g1.wf⟩⟩
          generalize (F x xs).val.1 = l at *
          generalize (F x xs).val.2 = o at *
          cases o with
          | none =>
            have hex : Ex (.ret (some (one (insA 0 l (.cell .nilS))))) (H.put b (.live ⟨.one s (.val s (G x xs)), true⟩)) v H' := hex
            rw [Ex_ret] at hex
            obtain ⟨rfl, rfl⟩ := hex
            have p2 : u = .slice none 0 0 := p2
            subst p2
            refine ⟨_, _, ρ, ⟨M.H1.set i (some B'), M.mu, M.ln⟩, rfl, SVR.one_ ((lst ⟨M.H1.set i (some B'), M.mu, M.ln⟩).ins (np := 0) (v := .cell .nilS) (u := .slice none 0 0) ⟨.sl .bool, [.slice none 0 0], ⟨rfl, _, rfl, rfl⟩, rfl⟩), trel_list (ρ := ρ) (ρ' := ρ') (n' := H1'.length) (us := us) (u := .slice none 0 0) (u2 := .slice none 0 0) (fun _ h => h) (fun _ h => h) (hus _ _) p3, fun _ _ => rfl, hS, hA, hE⟩
          | some ex =>
            obtain ⟨e, ys⟩ := ex
            have hef := hfe e ys rfl
            have hex : Ex (.new nid ⟨.row e ys, true⟩ (.ret (some (one (insA 0 l (.cell (.ref nid (.row e) [] e 0 (List.length ys) none))))))) (H.put b (.live ⟨.one s (.val s (G x xs)), true⟩)) v H' := hex
            rw [Ex_new, Ex_ret] at hex
            obtain ⟨hf, rfl, rfl⟩ := hex
            obtain ⟨Bk, c, b1, b2, b3, b4, b5, b6, b7⟩ := p2
            subst b6
            have hki : k ≠ i := q8 rfl
            obtain ⟨g1, g2⟩ := allC_flat (B := M.H1.set i (some B') ++ [some Bk]) hef b3
            have hlen : (M.H1.set i (some B')).length = M.H1.length := List.length_set
            obtain ⟨cs, t, fr, r1, r2, r3⟩ := q4.blk k Bk b1
            have hfar : (ρ i).block ≠ (ρ' k).block := by
              have := q4.far i k B' Bk q5 b1 q6 (fun e => hki e.symm)
              rw [hρ] at this; exact this
            have hfresh : w.heap.size ≤ (ρ' k).block := (q4.own k Bk b1 b2).elim (fun e => absurd e.symm hfar) id
            have hN := sim_add (L := ρ' k) (B := Bk) hS r1 r2 (fun j v hv => by
              obtain ⟨v2, y1, y2⟩ := r3 j v hv
              have hv := g2 v (List.mem_of_getElem? hv)
              have := CRel.plain_eq hv y2
              subst this
              exact ⟨y1, hv⟩) (.inr (Nat.le_trans hs.size hfresh)) (fun j b' hj => by
              rw [set_at z2] at hj
              by_cases e : j = i
              · subst e; exact hfar
              · rw [if_neg e] at hj
                obtain ⟨cs, t, fr, y1, _⟩ := hs.blk j b' hj
                have := (Array.getElem?_eq_some_iff.1 y1).1
                omega)
            rw [hlen] at hN
            obtain ⟨w1, w2⟩ := HR_keep (B := M.H1.set i (some B') ++ [some Bk]) hA (fun j b hb => by rw [List.getElem?_append_left (List.getElem?_eq_some_iff.1 hb).1]; exact hb) (by rw [List.length_append]; exact Nat.le_succ _)
            have hno2 : ∀ k z, (H.put b (.live ⟨.one s (.val s (G x xs)), true⟩)) k = .live z → M.mu k ≠ some M.H1.length := fun k z _ hmu => absurd (hH.lt k _ hmu) (Nat.lt_irrefl _)
            have hB2 := adopt_step (M := ⟨M.H1.set i (some B') ++ [some Bk], M.mu, M.ln⟩) (i := M.H1.length) w1 hf (by show (M.H1.set i (some B') ++ [some Bk])[M.H1.length]? = _; rw [List.getElem?_append_right (by rw [hlen]; exact Nat.le_refl _), hlen, Nat.sub_self]; rfl) b2 g1 b4 b5 hno2
            have hE2 := hE.trans w2
            have hnone : M.mu nid = none := hA.fresh nid hf
            have hup : ∀ k j, M.mu k = some j → updN M.mu nid (some M.H1.length) k = some j ∧ updN M.ln nid (List.length ys) k = M.ln k := by
              intro k j hk
              have e : k ≠ nid := by rintro rfl; rw [hnone] at hk; cases hk
              exact ⟨by unfold updN; rw [if_neg e]; exact hk, by unfold updN; rw [if_neg e]⟩
            refine ⟨_, _, Ab.upd ρ M.H1.length (ρ' k), ⟨M.H1.set i (some B') ++ [some Bk], updN M.mu nid (some M.H1.length), updN M.ln nid (List.length ys)⟩, rfl, SVR.one_ ((lst ⟨M.H1.set i (some B') ++ [some Bk], updN M.mu nid (some M.H1.length), updN M.ln nid (List.length ys)⟩).ins (np := 0) (v := .cell (.ref nid (.row e) [] e 0 (List.length ys) none)) (u := .slice (some ⟨M.H1.length, 0, none⟩) (List.length ys) c) ?_), trel_list (ρ := Ab.upd ρ M.H1.length (ρ' k)) (ρ' := ρ') (n' := H1'.length) (us := us) (u := .slice (some ⟨k, 0, none⟩) (List.length ys) c) (u2 := .slice (some ⟨M.H1.length, 0, none⟩) (List.length ys) c) ?_ ?_ (hus _ _) p3, fun j hj => Ab.upd_lt j hj, hN, hB2, ?_⟩
            · refine .mkref (c := c) (o := 0) (i := M.H1.length) (by simp [updN]) (.inr ⟨rfl, rfl, by simp [updN], fun k hk => by cases hk⟩) rfl (by simp [offL]) (.inl (by simp [offL])) (by show capIs (updN M.ln nid (List.length ys) nid) 0 (List.length ys) none c; simpa [updN] using b7)
            · intro v' hv
              obtain ⟨hp, a', c', rfl, hcr⟩ := TRel.slc hv
              refine ⟨fun _ => by rw [List.length_append, hlen]; exact Nat.lt_succ_self _, a', c', rfl, ?_⟩
              unfold Ab.capRel at hcr ⊢
              simp only [Ab.locA, Ab.upd_same] at hcr ⊢
              exact hcr
            · intro v' hv
              obtain ⟨hp, a', c', rfl, hcr⟩ := TRel.slc (ρ := ρ') (n := H1'.length) (v' := v') hv
              refine ⟨fun _ => by rw [List.length_append, hlen]; exact Nat.lt_succ_self _, a', c', rfl, ?_⟩
              unfold Ab.capRel at hcr ⊢
              simp only [Ab.locA, Ab.upd_same] at hcr ⊢
              exact hcr
            · refine { len := hE2.len, mu := fun k j hk => hup k j hk, keep := fun j b' hb hfo => ?_, ro := hE2.ro }
              obtain ⟨y1, y2⟩ := hE2.keep j b' hb hfo
              refine ⟨y1, fun k z hk ho hm => ?_⟩
              rw [put_at] at hk
              have hm : updN M.mu nid (some M.H1.length) k = some j := hm
              by_cases ek : k = nid
              · subst ek
                unfold updN at hm
                rw [if_pos rfl] at hm
                injection hm with hm
                subst hm
                exact absurd (List.getElem?_eq_some_iff.1 hb).1 (Nat.lt_irrefl _)
              · rw [if_neg ek] at hk
                unfold updN at hm
                rw [if_neg ek] at hm
                exact y2 k z hk ho hm
        rcases key with ⟨fn, c1, c2, c3, c4⟩ | ⟨v', w', c1, c2⟩
        · exact .inl ⟨fn, c1, c2, c3, c4.mono fun en w' ⟨v', e1, e2⟩ => ⟨v', e1, fin v' w' e2⟩⟩
        · exact .inr ⟨v', w', c1, fin v' w' c2⟩
      · simp at hex
  · simp at hex
end Go.Ty
