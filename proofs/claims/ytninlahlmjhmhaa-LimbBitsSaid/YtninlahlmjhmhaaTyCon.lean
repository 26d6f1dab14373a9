import Derived.Test.YtninlahlmjhmhaaTySem
import Derived.Test.YtninlahlmjhmhaaAbRun
namespace Go.Ty
open Go.Ab (fitsN TRel VRel LRel ERel Sim SRel exitOf)

section
variable {X : Cx} {C : Ab.Ctx} {N : Nat} {ρ : Nat → Ab.Loc} {M : Lk} {a : Act} {w : World}

/-! ## What a function hands back -/
theorem cellsAt_frz {A B : Ab.Heap} (h : FrzLe A B) {q : Addr} {cs : List Value} (hc : Ab.cellsAt (x1 X) A q = some cs) : Ab.cellsAt (x1 X) B q = some cs := by
  unfold Ab.cellsAt Ab.blkAt at hc ⊢
  cases hs : q.spot with
  | some _ => simpa [hs] using hc
  | none =>
    simp only [hs] at hc ⊢
    rcases h.2 q.block with e | ⟨b, e1, e2⟩
    · rw [e]; exact hc
    · rw [e2]; rw [e1] at hc; simpa using hc
theorem ald_frz {A B : Ab.Heap} (h : FrzLe A B) {t : TypeId} {q v : Value} (hc : Ab.ald (x1 X) A t q = some v) : Ab.ald (x1 X) B t q = some v := by
  unfold Ab.ald at hc ⊢
  split at hc
  · obtain ⟨cs, h1, h2⟩ := Option.bind_eq_some_iff.1 hc
    rw [cellsAt_frz h h1]; exact h2
  · cases hc
theorem ares1_frz {A B : Ab.Heap} (h : FrzLe A B) {e1 : Ab.Env} {r : ResultVar} {v : Value} (hc : Ab.ares1 (x1 X) ⟨e1, A⟩ r = some v) : Ab.ares1 (x1 X) ⟨e1, B⟩ r = some v := by
  cases r with
  | tmp t => exact hc
  | cell p t =>
    simp only [Ab.ares1, Option.bind_eq_some_iff] at hc ⊢
    obtain ⟨u, h1, h2⟩ := hc
    exact ⟨u, h1, ald_frz h h2⟩

theorem Ex_of_execK {act : HAct} {H : Heap} {K : Option SV → Heap → List Nat → List Nat → Prop} (h : execK act H K) : ∃ v H' t wr, Ex act H v H' ∧ K v H' t wr := by
  obtain ⟨r, h1, h2, h3⟩ := execK_sound h
  exact ⟨r.val, r.heap, r.touched, r.written, ⟨r, h1, h2, rfl, rfl⟩, h3⟩

/-- lists of values alike -/
def ListR (X : Cx) (M : Lk) (l : List AV) (l1 : List Value) : Prop := l.length = l1.length ∧ ∀ (j : Nat) v, l[j]? = some v → ∃ u, l1[j]? = some u ∧ VR (gl1 X) M v u

theorem resK_sound (hX : XOK X) : ∀ (rs : List ResultVar) {s : St} {e1 : Ab.Env} {M : Lk} {K : List AV → Heap → Prop}, resK X s rs K → ER X M s.env e1 → HR (gl1 X) M s.heap →
    ∃ l Hm H1m vs, K l Hm ∧ FrzLe M.H1 H1m ∧ HR (gl1 X) ⟨H1m, M.mu, M.ln⟩ Hm ∧ Ext M s.heap ⟨H1m, M.mu, M.ln⟩ Hm ∧ Ab.aresL (x1 X) ⟨e1, H1m⟩ rs = some vs ∧ ListR X ⟨H1m, M.mu, M.ln⟩ l vs ∧ ∀ v ∈ l, noRef v = true
  | [], s, e1, M, K, h, he, hH => ⟨[], s.heap, M.H1, [], h, .refl _, hH, .refl, rfl, ⟨rfl, by simp⟩, by simp⟩
  | r :: rs, s, e1, M, K, h, he, hH => by
    -- behind a frozen value
    have go : ∀ (v : AV) (u : Value), Ab.ares1 (x1 X) ⟨e1, M.H1⟩ r = some u → VR (gl1 X) M v u → execK (frzA v fun v => .pure v) s.heap (fun v H _ _ => match v with
        | some (.av v) => resK X ⟨s.env, H, s.next⟩ rs fun l H => K (v :: l) H
        | _ => False) → ∃ l Hm H1m vs, K l Hm ∧ FrzLe M.H1 H1m ∧ HR (gl1 X) ⟨H1m, M.mu, M.ln⟩ Hm ∧ Ext M s.heap ⟨H1m, M.mu, M.ln⟩ Hm ∧ Ab.aresL (x1 X) ⟨e1, H1m⟩ (r :: rs) = some vs ∧ ListR X ⟨H1m, M.mu, M.ln⟩ l vs ∧ ∀ v ∈ l, noRef v = true := by
      intro v u hu hv hk
      obtain ⟨v', H', t, wr, h1, h2⟩ := Ex_of_execK hk
      obtain ⟨a', Hm, H1m, g1, g2, g3, g4, g5, g6⟩ := frzA_sound h1 hv hH
      rw [Ex_pure] at g1
      obtain ⟨rfl, rfl⟩ := g1
      simp only at h2
      have he' : ER X ⟨H1m, M.mu, M.ln⟩ s.env e1 := he.mono (M' := ⟨H1m, M.mu, M.ln⟩) g2.ro (fun _ _ h => ⟨h, rfl⟩)
      obtain ⟨l, Hn, H1n, vs, k1, k2, k3, k4, k5, k6, k7⟩ := resK_sound hX rs (M := ⟨H1m, M.mu, M.ln⟩) h2 he' g4
      refine ⟨a' :: l, Hn, H1n, u :: vs, k1, g2.trans k2, k3, g5.trans k4, ?_, ⟨by simp [k6.1], fun j w hw => ?_⟩, fun w hw => ?_⟩
      · simp only [Ab.aresL, ares1_frz (g2.trans k2) hu, k5, Option.bind_some, Option.map_some]
      · cases j with
        | zero => simp at hw; subst hw; exact ⟨u, by simp, g3.mono (M' := ⟨H1n, M.mu, M.ln⟩) k2.ro (fun _ _ h => ⟨h, rfl⟩)⟩
        | succ j => simpa using k6.2 j w (by simpa using hw)
      · rcases List.mem_cons.1 hw with rfl | hw
        · exact g6
        · exact k7 w hw
    cases r with
    | tmp t =>
      simp only [resK] at h
      split at h
      · rename_i v hv
        obtain ⟨u, g1, g2⟩ := he t _ hv
        have g2 : VR (gl1 X) M v u := g2
        refine go v u ?_ g2 h
        simp only [Ab.ares1, g1, Option.bind_some, g2.nottup, cond_false]
      · cases h
    | cell p t =>
      simp only [resK] at h
      split at h
      · rename_i q hq
        obtain ⟨uq, g1, g2⟩ := he p _ hq
        have g2 : VR (gl1 X) M q uq := g2
        obtain ⟨v', H', tt, wr, h1, h2⟩ := Ex_of_execK h
        obtain ⟨rfl, y, v1, rfl, k1, k2⟩ := loadA_sound hX h1 g2 hH
        cases y with
        | tup _ => simp only at h2
        | av y =>
          simp only at h2
          refine go y v1 ?_ k2 h2
          simp only [Ab.ares1, g1, Option.bind_some, k1]
      · cases h

def oneV (vs : List Value) : Value := match vs with | [v] => v | vs => .tuple ⟨vs⟩
theorem aresults_one {fn : Func} {s : Ab.St} {vs : List Value} (h : Ab.aresL (x1 X) s fn.results.toList = some vs) : Ab.aresults (x1 X) fn s = some (oneV vs) := by
  unfold Ab.aresults
  rw [h]
  match vs with
  | [] => rfl
  | [_] => rfl
  | _ :: _ :: _ => rfl
theorem SVR.one_ {l : List AV} {vs : List Value} (h : ListR X M l vs) : SVR (gl1 X) M (one l) (oneV vs) := by
  match l, vs, h with
  | [], [], h => exact ⟨#[], rfl, rfl, by simp⟩
  | [v], [u], h => obtain ⟨u', h1, h2⟩ := h.2 0 v rfl; simp at h1; subst h1; exact h2
  | v1 :: v2 :: l, u1 :: u2 :: vs, h => exact ⟨⟨u1 :: u2 :: vs⟩, rfl, h.1, h.2⟩
  | [], _ :: _, h => exact absurd h.1 (by simp)
  | _ :: _, [], h => exact absurd h.1 (by simp)
  | [_], _ :: _ :: _, h => exact absurd h.1 (by simp)
  | _ :: _ :: _, [_], h => exact absurd h.1 (by simp)

/-! ## Calls that look at no memory that is written -/
/-- the program alone -/
def bx (P : Program) (gl : Nat → Option ((s : Sh) × s.T)) : Cx := { P := P, sh := fun _ => none, con := fun _ => none, glob := gl }
def lk0 (H1 : Ab.Heap) : Lk := ⟨H1, fun _ => none, fun _ => 0⟩
def PC (X : Cx) (f : FuncId) (args : List SV) (r : SV) : Prop := noRefS r = true ∧ ∀ (C : Ab.Ctx) (ρ : Nat → Ab.Loc) (H1 : Ab.Heap) (w : World) (l1 l' : List Value),
  ArgsR X (lk0 H1) args l1 → LRel (TRel ρ H1.length) l1 l' → Sim (x1 X) C ρ H1 w →
  CallR X f l' w fun v' w' => ∃ v1 ρ' H1', SVR (gl1 X) (lk0 H1') r v1 ∧ TRel ρ' H1'.length v1 v' ∧ (∀ i, i < H1.length → ρ' i = ρ i) ∧ Sim (x1 X) C ρ' H1' w' ∧ H1.length ≤ H1'.length ∧ ∀ (i : Nat) b, H1[i]? = some (some b) → H1'[i]? = some (some b)

theorem FW_pc (hX : XOK X) (hcon : ConsOK X) (hm : X.P.follows .mixedOrders = true) {f : FuncId} {fn : Func} {c : Code} {LS : Nat → Option PT} {args : List SV} {r : SV} (hf : X.P.funcs[f]? = some fn) (hc : fn.body = some c)
    (hname : (fn.name == "runtime.NumGoroutine") = false) (hN : Nat.ble args.length fn.ntmps = true) (hl : LoopsOK X fn.ntmps LS c) (h : FW X fn.ntmps LS fn args fun r' => r' = r) (hr : noRefS r = true) : PC X f args r := by
  refine ⟨hr, fun C ρ H1 w l1 l' ha hl' hs => .inl ⟨fn, hf, hname, by rw [hc]; rfl, ?_⟩⟩
  have hN := Nat.le_of_ble_eq_true hN
  unfold FW at h
  rw [hc] at h
  refine calls_of_wp hf hc ?_
  have hst : SR X C fn.ntmps ρ (lk0 H1) ⟨envOf args, fun _ => .fresh, 1000⟩ { tmps := (⟨l'⟩ : Array Value) ++ Array.replicate (fn.ntmps - (⟨l'⟩ : Array Value).size) undef, defers := [] } w := by
    refine ⟨Ab.envOf l1, Ab.SRel.start (H := H1) hs hl' (by rw [← ha.1]; exact hN), fun k v hk => ?_, ⟨(fun k x hk => nomatch hk), (fun k k' x x' i hk => nomatch hk), (fun k _ => rfl), (fun k i hk => nomatch hk)⟩⟩
    obtain ⟨v1, g1, g2⟩ := ha.2 k v hk
    exact ⟨v1, g1, g2⟩
  refine W_sound hX hcon hm c hl _ _ h C ρ (lk0 H1) _ w _ hst (fun x s' a' w' hk ht => ?_)
  obtain ⟨ρ', M', t1, t2, e1, t3, t4, t5⟩ := ht
  have hk : x ≠ .exit 0 ∧ resK X s' fn.results.toList (fun l _ => one l = r) ∧ ∀ i, x ≠ .exit i := by
    cases x with
    | normal => exact ⟨by simp, hk, by simp⟩
    | ret => exact ⟨by simp, hk, by simp⟩
    | exit i => cases hk
  obtain ⟨_, hk, hx⟩ := hk
  obtain ⟨l, Hm, H1m, vs, k1, k2, k3, k4, k5, k6, k7⟩ := resK_sound hX _ hk t4 t5
  have hsr : SRel (x1 X) C fn.ntmps ρ' ⟨e1, H1m⟩ a' w' := ⟨sim_frz k2 t3.sim, by have := t3.env; rw [show (Ab.St.mk e1 H1m).heap.length = M'.H1.length from k2.1]; exact this, t3.size, t3.defers⟩
  have hres := aresults_one k5
  obtain ⟨v', q1, q2⟩ := Ab.aresults_sound hsr hres
  have hone := SVR.one_ k6
  rw [k1] at hone
  have fin : ∃ v'', Ending.returned v' = .returned v'' ∧ ∃ v1 ρ' H1', SVR (gl1 X) (lk0 H1') r v1 ∧ TRel ρ' H1'.length v1 v'' ∧ (∀ i, i < H1.length → ρ' i = ρ i) ∧ Sim (x1 X) C ρ' H1' w' ∧ H1.length ≤ H1'.length ∧ ∀ (i : Nat) b, H1[i]? = some (some b) → H1'[i]? = some (some b) := by
    refine ⟨v', rfl, _, ρ', H1m, noRef_svr (M := ⟨H1m, M'.mu, M'.ln⟩) (M' := lk0 H1m) (fun _ _ h _ => h) hr hone, q2, t1, hsr.sim, ?_, fun i b hb => ?_⟩
    · have h1 : H1.length ≤ M'.H1.length := t2.len
      rw [k2.1]; exact h1
    · have := (t2.trans k4.w).keep i b hb (fun k x hk => by cases hk)
      exact this.1
  cases x with
  | normal => exact ⟨t3.defers, v', q1, fin⟩
  | ret => exact ⟨t3.defers, v', q1, fin⟩
  | exit i => exact absurd rfl (hx i)

/-- such a call, as a contract: its arguments are frozen -/
abbrev PureT := List SV → Option (Prop × SV)
def conP (g : PureT) : ConT := fun args _ => frzL args fun args => match g args with
  | some (p, r) => .pre p (.ret (some r))
  | none => .fail

theorem frzL_sound : ∀ {l : List SV} {k : List SV → HAct} {M : Lk} {H H' : Heap} {v : Option SV} {l1 : List Value}, Ex (frzL l k) H v H' → ArgsR X M l l1 → HR (gl1 X) M H →
    ∃ l2 Hm H1m, Ex (k l2) Hm v H' ∧ FrzLe M.H1 H1m ∧ ArgsR X ⟨H1m, M.mu, M.ln⟩ l2 l1 ∧ HR (gl1 X) ⟨H1m, M.mu, M.ln⟩ Hm ∧ Ext M H ⟨H1m, M.mu, M.ln⟩ Hm ∧ ∀ v ∈ l2, noRefS v = true
  | [], k, M, H, H', v, l1, h, ha, hH => ⟨[], H, M.H1, h, .refl _, ha, hH, .refl, by simp⟩
  | .av b :: l, k, M, H, H', v, l1, h, ha, hH => by
    simp only [frzL] at h
    cases l1 with
    | nil => exact absurd ha.1 (by simp)
    | cons u l1 =>
      obtain ⟨u', h1, h2⟩ := ha.2 0 _ rfl
      simp at h1; subst h1
      obtain ⟨b', Hm, H1m, g1, g2, g3, g4, g5, g6⟩ := frzA_sound h h2 hH
      have ha' : ArgsR X ⟨H1m, M.mu, M.ln⟩ l l1 := ⟨by simpa using ha.1, fun j w hw => by
        obtain ⟨u', q1, q2⟩ := ha.2 (j + 1) w (by simpa using hw)
        exact ⟨u', by simpa using q1, q2.mono (M' := ⟨H1m, M.mu, M.ln⟩) g2.ro (fun _ _ h => ⟨h, rfl⟩)⟩⟩
      obtain ⟨l2, Hn, H1n, k1, k2, k3, k4, k5, k6⟩ := frzL_sound (M := ⟨H1m, M.mu, M.ln⟩) g1 ha' g4
      refine ⟨.av b' :: l2, Hn, H1n, k1, g2.trans k2, ⟨by simp [k3.1], fun j w hw => ?_⟩, k4, g5.trans k5, fun w hw => ?_⟩
      · cases j with
        | zero => simp at hw; subst hw; exact ⟨u, by simp, g3.mono (M' := ⟨H1n, M.mu, M.ln⟩) k2.ro (fun _ _ h => ⟨h, rfl⟩)⟩
        | succ j => simpa using k3.2 j w (by simpa using hw)
      · rcases List.mem_cons.1 hw with rfl | hw
        · exact g6
        · exact k6 w hw
  | .tup _ :: l, k, M, H, H', v, l1, h, ha, hH => by simp [frzL] at h

theorem HR_keep {A B : Ab.Heap} {mu : Nat → Option Nat} {ln : Nat → Nat} {H : Heap} (hH : HR (gl1 X) ⟨A, mu, ln⟩ H) (hk : ∀ (i : Nat) b, A[i]? = some (some b) → B[i]? = some (some b)) (hl : A.length ≤ B.length) : HR (gl1 X) ⟨B, mu, ln⟩ H ∧ Ext ⟨A, mu, ln⟩ H ⟨B, mu, ln⟩ H := by
  have hro : RoLe A B := fun i b h _ => hk i b h
  refine ⟨{ live := fun k x hx => ?_, inj := hH.inj, fresh := hH.fresh, lt := fun k i h => Nat.lt_of_lt_of_le (hH.lt k i h) hl }, { len := hl, mu := fun _ _ h => ⟨h, rfl⟩, keep := fun i b h hf => ⟨hk i b h, hf⟩, ro := hro }⟩
  obtain ⟨i, b, g1, g2, g3, g4, g5⟩ := hH.live k x hx
  exact ⟨i, b, g1, hk i b g2, g3, g4.mono (M := ⟨A, mu, ln⟩) (M' := ⟨B, mu, ln⟩) hro (fun _ _ h => ⟨h, rfl⟩), g5⟩

theorem conP_ok {f : FuncId} {g : PureT} (h : ∀ args p r, g args = some (p, r) → p → PC X f args r) : ConOK X f (conP g) := by
  intro C ρ M H w args l1 l' nid v H' hex ha hl hs hH
  obtain ⟨l2, Hm, H1m, k1, k2, k3, k4, k5, k6⟩ := frzL_sound hex ha hH
  cases hg : g l2 with
  | none => rw [hg] at k1; simp at k1
  | some pr =>
    obtain ⟨p, r⟩ := pr
    rw [hg] at k1
    simp only [Ex_pre, Ex_ret] at k1
    obtain ⟨hp, rfl, rfl⟩ := k1
    obtain ⟨hr, hpc⟩ := h l2 p r hg hp
    have ha0 : ArgsR X (lk0 H1m) l2 l1 := ⟨k3.1, fun j u hu => by
      obtain ⟨u1, q1, q2⟩ := k3.2 j u hu
      exact ⟨u1, q1, noRef_svr (M := ⟨H1m, M.mu, M.ln⟩) (M' := lk0 H1m) (fun _ _ h _ => h) (k6 u (List.mem_of_getElem? hu)) q2⟩⟩
    have hl2 : LRel (TRel ρ H1m.length) l1 l' := by rw [k2.1]; exact hl
    have key := hpc C ρ H1m w l1 l' ha0 hl2 (sim_frz k2 hs)
    have fin : ∀ v' w', (∃ v1 ρ' H1', SVR (gl1 X) (lk0 H1') r v1 ∧ TRel ρ' H1'.length v1 v' ∧ (∀ i, i < H1m.length → ρ' i = ρ i) ∧ Sim (x1 X) C ρ' H1' w' ∧ H1m.length ≤ H1'.length ∧ ∀ (i : Nat) b, H1m[i]? = some (some b) → H1'[i]? = some (some b)) →
        ∃ u v1 ρ' M', some r = some u ∧ SVR (gl1 X) M' u v1 ∧ TRel ρ' M'.H1.length v1 v' ∧ (∀ i, i < M.H1.length → ρ' i = ρ i) ∧ Sim (x1 X) C ρ' M'.H1 w' ∧ HR (gl1 X) M' H' ∧ Ext M H M' H' := by
      rintro v' w' ⟨v1, ρ', H1', q1, q2, q3, q4, q5, q6⟩
      obtain ⟨z1, z2⟩ := HR_keep k4 q6 q5
      exact ⟨r, v1, ρ', ⟨H1', M.mu, M.ln⟩, rfl, noRef_svr (M := lk0 H1') (M' := ⟨H1', M.mu, M.ln⟩) (fun _ _ h _ => h) hr q1, q2, fun i hi => q3 i (by rw [k2.1]; exact hi), q4, z1, k5.trans z2⟩
    rcases key with ⟨fn, c1, c2, c3, c4⟩ | ⟨v', w', c1, c2⟩
    · exact .inl ⟨fn, c1, c2, c3, c4.mono fun en w' ⟨v', e1, e2⟩ => ⟨v', e1, fin v' w' e2⟩⟩
    · exact .inr ⟨v', w', c1, fin v' w' c2⟩

/-! ## Tables -/
abbrev CTab := List (FuncId × ConT)
def CTab.look : CTab → FuncId → Option ConT
  | [], _ => none
  | (g, c) :: r, f => bif Nat.beq g f then some c else CTab.look r f
abbrev STab := List (TypeId × Sh)
def STab.look : STab → TypeId → Option Sh
  | [], _ => none
  | (g, c) :: r, f => bif Nat.beq g f then some c else STab.look r f
def mkX (P : Program) (gl : Nat → Option ((s : Sh) × s.T)) (st : STab) (ct : CTab) : Cx := { P := P, sh := st.look, con := ct.look, glob := gl }
def COK (P : Program) (gl : Nat → Option ((s : Sh) × s.T)) (f : FuncId) (g : ConT) : Prop := ConOK (bx P gl) f g
def noGl : Nat → Option ((s : Sh) × s.T) := fun _ => none

theorem STab.ok {P : Program} {st : STab} (h : st.all (fun (t, s) => shChk P s (.inl t)) = true) : ∀ t s, st.look t = some s → shChk P s (.inl t) = true := by
  induction st with
  | nil => intro t s h; cases h
  | cons p r ih =>
    obtain ⟨t0, s0⟩ := p
    intro t s hl
    simp only [List.all_cons, Bool.and_eq_true] at h
    simp only [STab.look] at hl
    cases hb : Nat.beq t0 t with
    | true =>
      rw [hb] at hl
      injection hl with hl; subst hl
      rw [← Nat.eq_of_beq_eq_true hb]; exact h.1
    | false => rw [hb] at hl; exact ih h.2 t s hl
theorem CTab.ok {P : Program} {gl : Nat → Option ((s : Sh) × s.T)} : ∀ {ct : CTab}, (∀ p ∈ ct, COK P gl p.1 p.2) → ∀ f g, ct.look f = some g → COK P gl f g
  | [], _, f, g, h => by cases h
  | (f0, g0) :: r, hc, f, g, h => by
    simp only [CTab.look] at h
    cases hb : Nat.beq f0 f with
    | true =>
      rw [hb] at h
      injection h with h; subst h
      rw [← Nat.eq_of_beq_eq_true hb]; exact hc (f0, g0) (by simp)
    | false => rw [hb] at h; exact CTab.ok (fun p hp => hc p (by simp [hp])) f g h
theorem xok {P : Program} {st : STab} {ct : CTab} (h : st.all (fun (t, s) => shChk P s (.inl t)) = true) : XOK (mkX P noGl st ct) := ⟨STab.ok h, fun g s x h => by cases h⟩
theorem consok {P : Program} {gl : Nat → Option ((s : Sh) × s.T)} {st : STab} {ct : CTab} (h : ∀ p ∈ ct, COK P gl p.1 p.2) : ConsOK (mkX P gl st ct) := fun f g hg => CTab.ok h f g hg
theorem CNil {P : Program} {gl : Nat → Option ((s : Sh) × s.T)} : ∀ p ∈ ([] : CTab), COK P gl p.1 p.2 := by simp
theorem CCons {P : Program} {gl : Nat → Option ((s : Sh) × s.T)} {f : FuncId} {g : ConT} {t : CTab} (h : COK P gl f g) (ht : ∀ p ∈ t, COK P gl p.1 p.2) : ∀ p ∈ ((f, g) :: t : CTab), COK P gl p.1 p.2 := by
  intro p hp
  rcases List.mem_cons.1 hp with rfl | hp
  · exact h
  · exact ht p hp

/-- a call of the machine below, over plain values -/
theorem PC.of_plain {P : Program} {gl : Nat → Option ((s : Sh) × s.T)} {f : FuncId} {args : List SV} {r : SV} {l1 : List Value} {v1 : Value} (hr : noRefS r = true) (hl : ∀ H1 l, ArgsR (bx P gl) (lk0 H1) args l → l = l1) (hv : ∀ H1, SVR (gl1 (bx P gl)) (lk0 H1) r v1)
    (hpl : l1.all Ab.plainT = true) (hpv : Ab.plainT v1 = true) (hc : ∀ w, CallR (bx P gl) f l1 w fun v' w' => v' = v1 ∧ RowKit.Below w.heap.size w w') : PC (bx P gl) f args r := by
  refine ⟨hr, fun C ρ H1 w l l' ha hl' hs => ?_⟩
  have := hl H1 l ha
  subst this
  have el : l' = l := LRel.eq_of (fun u hu u' r => Ab.TRel.plain_eq (List.all_eq_true.1 hpl u hu) r) hl'
  subst el
  have fin : ∀ v' w', (v' = v1 ∧ RowKit.Below w.heap.size w w') → ∃ v1 ρ' H1', SVR (gl1 (bx P gl)) (lk0 H1') r v1 ∧ TRel ρ' H1'.length v1 v' ∧ (∀ i, i < H1.length → ρ' i = ρ i) ∧ Sim (x1 (bx P gl)) C ρ' H1' w' ∧ H1.length ≤ H1'.length ∧ ∀ (i : Nat) b, H1[i]? = some (some b) → H1'[i]? = some (some b) := by
    rintro v' w' ⟨rfl, hb⟩
    exact ⟨v', ρ, H1, hv H1, .plain hpv, fun _ _ => rfl, hs.below hb, Nat.le_refl _, fun _ _ h => h⟩
  rcases hc w with ⟨fn, c1, c2, c3, c4⟩ | ⟨v', w', c1, c2⟩
  · exact .inl ⟨fn, c1, c2, c3, c4.mono fun en w' ⟨v', e1, e2⟩ => ⟨v', e1, fin v' w' e2⟩⟩
  · exact .inr ⟨v', w', c1, fin v' w' c2⟩
theorem PC.of_pcall {P : Program} {gl : Nat → Option ((s : Sh) × s.T)} {f : FuncId} {args : List SV} {r : SV} {l1 : List Value} {v1 : Value} (hr : noRefS r = true) (hl : ∀ H1 l, ArgsR (bx P gl) (lk0 H1) args l → l = l1) (hv : ∀ H1, SVR (gl1 (bx P gl)) (lk0 H1) r v1)
    (h : Ab.PCall (Ab.cx P []) f l1 v1) : PC (bx P gl) f args r := by
  obtain ⟨h1, h2, h3⟩ := h
  refine .of_plain hr hl hv h1 h2 (fun w => ?_)
  rcases h3 with ⟨⟨fn, c1, c2, c3⟩, c4⟩ | c4
  · exact .inl ⟨fn, c1, c2, c3, (c4 w (fun _ _ hg => by cases hg)).mono fun en w' ⟨e1, e2⟩ => ⟨v1, e1, rfl, e2⟩⟩
  · exact .inr ⟨v1, w, c4 w, rfl, RowKit.Below.refl _ _⟩
end

/-! ## Flat data: told by its cells -/
def Sh.wfT : (s : Sh) → s.T → Prop
  | .pair a b, x => a.wfT x.1 ∧ b.wfT x.2
  | .arr n s, xs => List.length xs = n ∧ ∀ x ∈ (xs : List s.T), s.wfT x
  | _, _ => True
theorem cellsOf_eq {G : Nat → Option (List Value)} {H1 : Ab.Heap} : ∀ {s : Sh} {x : s.T} {cs : List Value}, s.flat = true → Cells G H1 s x cs → cs = cellsOf s x
  | .int _, _, _, _, h | .bool, _, _, _, h | .str, _, _, _, h | .non _, _, _, _, h | .unit, _, _, _, h => h
  | .pair a b, x, cs, hf, ⟨c, d, e, h1, h2⟩ => by
    simp only [Sh.flat, Bool.and_eq_true] at hf
    rw [e, cellsOf_eq hf.1 h1, cellsOf_eq hf.2 h2]; rfl
  | .arr n s, xs, cs, hf, ⟨_, h⟩ => by
    simp only [Sh.flat] at hf
    have : ∀ (xs : List s.T) (cs : List Value), AllC (Cells G H1 s) xs cs → cs = (xs.map (cellsOf s)).flatten := by
      intro xs
      induction xs with
      | nil => intro cs h; exact h
      | cons x xs ih =>
        intro cs ⟨c, d, e, h1, h2⟩
        rw [e, cellsOf_eq hf h1, ih d h2]; rfl
    exact this xs cs h
  | .sl _, _, _, hf, _ => by cases hf
theorem cells_of {G : Nat → Option (List Value)} {H1 : Ab.Heap} : ∀ {s : Sh} {x : s.T}, s.flat = true → s.wfT x → Cells G H1 s x (cellsOf s x)
  | .int _, _, _, _ | .bool, _, _, _ | .str, _, _, _ | .non _, _, _, _ | .unit, _, _, _ => rfl
  | .pair a b, x, hf, hw => by
    simp only [Sh.flat, Bool.and_eq_true] at hf
    exact ⟨_, _, rfl, cells_of hf.1 hw.1, cells_of hf.2 hw.2⟩
  | .arr n s, xs, hf, hw => by
    simp only [Sh.flat] at hf
    refine ⟨hw.1, ?_⟩
    have : ∀ (xs : List s.T), (∀ x ∈ xs, s.wfT x) → AllC (Cells G H1 s) xs ((xs.map (cellsOf s)).flatten) := by
      intro xs
      induction xs with
      | nil => intro _; rfl
      | cons x xs ih => intro h; exact ⟨_, _, rfl, cells_of hf (h x (by simp)), ih (fun y hy => h y (by simp [hy]))⟩
    exact this xs hw.2
  | .sl _, _, hf, _ => by cases hf
/-- the value of flat data -/
def flatV (s : Sh) (x : s.T) : Value := mkV s.isAgg (cellsOf s x)
theorem VR.flat {X : Cx} {M : Lk} {s : Sh} {x : s.T} {u : Value} (hf : s.flat = true) (h : VR (gl1 X) M (.val s x) u) : u = flatV s x := by
  obtain ⟨cs, h1, h2⟩ := h.val
  rw [h2, cellsOf_eq hf h1]; rfl
theorem VR.mkflat {X : Cx} {M : Lk} {s : Sh} {x : s.T} (hf : s.flat = true) (hw : s.wfT x) : VR (gl1 X) M (.val s x) (flatV s x) := VR.mkval (cells_of hf hw)
theorem ArgsR.inv {X : Cx} {M : Lk} {v : SV} {l : List SV} {l1 : List Value} (h : ArgsR X M (v :: l) l1) : ∃ u l2, l1 = u :: l2 ∧ SVR (gl1 X) M v u ∧ ArgsR X M l l2 := by
  cases l1 with
  | nil => exact absurd h.1 (by simp)
  | cons u l2 =>
    obtain ⟨u', h1, h2⟩ := h.2 0 v rfl
    simp at h1; subst h1
    exact ⟨u, l2, rfl, h2, by simpa using h.1, fun j w hw => by simpa using h.2 (j + 1) w (by simpa using hw)⟩
theorem ArgsR.nil_inv {X : Cx} {M : Lk} {l1 : List Value} (h : ArgsR X M [] l1) : l1 = [] := List.length_eq_zero_iff.1 h.1.symm
theorem ArgsR.nil {X : Cx} {M : Lk} : ArgsR X M [] [] := ⟨rfl, by simp⟩
theorem ArgsR.cons {X : Cx} {M : Lk} {v : SV} {l : List SV} {u : Value} {l1 : List Value} (h : SVR (gl1 X) M v u) (t : ArgsR X M l l1) : ArgsR X M (v :: l) (u :: l1) := by
  refine ⟨by simp [t.1], fun j w hw => ?_⟩
  cases j with
  | zero => simp at hw; subst hw; exact ⟨u, by simp, h⟩
  | succ j => simpa using t.2 j w (by simpa using hw)
end Go.Ty
