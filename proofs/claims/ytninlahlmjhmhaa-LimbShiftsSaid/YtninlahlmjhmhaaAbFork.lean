import Derived.Test.YtninlahlmjhmhaaAbWh
namespace Go.Ab

/-! ## A region in which two operations take new memory, either first: two runs -/
/-- an order of the operations: each stands behind what it hangs on, and may pass those ahead of it that don't bind it; but for p, q -/
def forkGo (pf : FuncId → Bool) (ops : Array Oper) (p q : Nat) : List Nat → List Nat → Bool
  | _, [] => true
  | seen, y :: r => (match ops[y]? with
      | some oy => oy.after.toList.all (fun e => !Region.binds .any e || seen.contains e.on) &&
          seen.all (fun x => ((Region.before ops).getD y 0).testBit x || (Nat.beq x p && Nat.beq y q) || (match ops[x]? with | some ox => mayPass pf ops ox oy | none => false))
      | none => false) && !seen.contains y && forkGo pf ops p q (seen ++ [y]) r
def forkOk (pf : FuncId → Bool) (ops : Array Oper) (L : List Nat) (p q : Nat) : Bool := Nat.ble L.length ops.size && ((List.range ops.size).all (fun i => L.contains i) && forkGo pf ops p q [] L)

def remL (L : List Nat) (listed : Array Bool) : List Nat := L.filter fun i => !listed.getD i true

section
variable {X : Cx} {C : Ctx} {hc : HOrc} {ops : Array Oper} {N : Nat} {p q : Nat}

theorem forkGo_spec : ∀ (L seen : List Nat), forkGo X.pf ops p q seen L = true → ∀ l1 y l2, L = l1 ++ y :: l2 →
    ∃ oy, ops[y]? = some oy ∧ (∀ e ∈ oy.after, Region.binds .any e = true → e.on ∈ seen ++ l1) ∧
      (∀ x ∈ seen ++ l1, ((Region.before ops).getD y 0).testBit x = true ∨ (x = p ∧ y = q) ∨ ∃ ox, ops[x]? = some ox ∧ mayPass X.pf ops ox oy = true) ∧ y ∉ seen ++ l1 := by
  intro L
  induction L with
  | nil => intro seen _ l1 y l2 h; simp at h
  | cons z L ih =>
    intro seen hgo l1 y l2 h
    simp only [forkGo, Bool.and_eq_true] at hgo
    obtain ⟨⟨g1, g2⟩, g3⟩ := hgo
    cases l1 with
    | nil =>
      simp only [List.nil_append, List.cons.injEq] at h
      obtain ⟨rfl, rfl⟩ := h
      split at g1
      · rename_i oy hoy
        simp only [Bool.and_eq_true, List.all_eq_true] at g1
        obtain ⟨k1, k2⟩ := g1
        refine ⟨oy, hoy, fun e he hb => ?_, fun x hx => ?_, by simpa using g2⟩
        · have := k1 e (by simpa using he)
          simp only [hb, Bool.not_true, Bool.false_or] at this
          simpa using this
        · have := k2 x (by simpa using hx)
          simp only [Bool.or_eq_true, Bool.and_eq_true] at this
          rcases this with (h | ⟨h1, h2⟩) | h
          · exact .inl h
          · exact .inr (.inl ⟨Nat.eq_of_beq_eq_true h1, Nat.eq_of_beq_eq_true h2⟩)
          · split at h
            · rename_i ox hox; exact .inr (.inr ⟨ox, hox, h⟩)
            · cases h
      · cases g1
    | cons z' l1 =>
      simp only [List.cons_append, List.cons.injEq] at h
      obtain ⟨rfl, rfl⟩ := h
      have := ih (seen ++ [z]) g3 l1 y l2 rfl
      simpa using this

theorem remL_at {L : List Nat} {listed : Array Bool} {i : Nat} {l1 l2 : List Nat} (hL : L = l1 ++ i :: l2) (hi : listed.getD i true = false) : remL L listed = remL l1 listed ++ i :: remL l2 listed := by
  subst hL
  unfold remL
  rw [List.filter_append, List.filter_cons_of_pos (by rw [hi]; rfl)]
theorem remL_set {L : List Nat} {listed : Array Bool} {i : Nat} {l1 l2 : List Nat} (hL : L = l1 ++ i :: l2) (h1 : i ∉ l1) (h2 : i ∉ l2) : remL L (listed.setIfInBounds i true) = remL l1 listed ++ remL l2 listed := by
  subst hL
  have hset : (listed.setIfInBounds i true).getD i true = true := by
    by_cases h : i < listed.size <;> simp [h]
  have same : ∀ l : List Nat, i ∉ l → remL l (listed.setIfInBounds i true) = remL l listed := by
    intro l hl
    unfold remL
    apply List.filter_congr
    intro j hj
    rw [getD_set_ne true (fun e => hl (by rw [e]; exact hj))]
  have := same l1 h1
  have := same l2 h2
  unfold remL at *
  rw [List.filter_append, List.filter_cons_of_neg (by rw [hset]; simp)]
  simp_all

theorem forkOk_all {L : List Nat} (h : forkOk X.pf ops L p q = true) : ∀ i, i < ops.size → i ∈ L := by
  unfold forkOk at h
  simp only [Bool.and_eq_true, List.all_eq_true] at h
  intro i hi
  have := h.2.1 i (by simpa using hi)
  simpa using this
theorem forkOk_go {L : List Nat} (h : forkOk X.pf ops L p q = true) : forkGo X.pf ops p q [] L = true := by
  unfold forkOk at h
  simp only [Bool.and_eq_true] at h
  exact h.2.2
theorem forkOk_not {l1 l2 : List Nat} {i : Nat} {L : List Nat} (h : forkOk X.pf ops L p q = true) (hL : L = l1 ++ i :: l2) : i ∉ l2 := by
  intro hm
  obtain ⟨a, b, rfl⟩ := List.append_of_mem hm
  obtain ⟨_, _, _, _, h4⟩ := forkGo_spec L [] (forkOk_go h) (l1 ++ i :: a) i b (by rw [hL]; simp)
  exact h4 (by simp)

theorem fork_ready {L : List Nat} (hok : forkOk X.pf ops L p q = true) {listed : Array Bool} (hsz : listed.size = ops.size) (hr : Region.ready .any ops listed = []) : remL L listed = [] := by
  cases hrem : remL L listed with
  | nil => rfl
  | cons i r =>
    exfalso
    unfold remL at hrem
    obtain ⟨l1, l2, hL, h1, h2, _⟩ := List.filter_eq_cons_iff.1 hrem
    obtain ⟨oy, g1, g2, _, _⟩ := forkGo_spec L [] (forkOk_go hok) l1 i l2 hL
    have hi : listed.getD i true = false := by simpa using h2
    have : i ∈ Region.ready .any ops listed := by
      refine mem_ready.2 ⟨hi, oy, g1, fun e he hb => ?_⟩
      have hm : e.on ∈ l1 := by simpa using g2 e he hb
      have hl := h1 e.on hm
      obtain ⟨a, b, hab⟩ := List.append_of_mem hm
      obtain ⟨oz, k1, _⟩ := forkGo_spec L [] (forkOk_go hok) a e.on (b ++ i :: l2) (by rw [hL, hab]; simp)
      have hlt : e.on < ops.size := (Array.getElem?_eq_some_iff.1 k1).1
      have : listed.getD e.on true = true := by simpa using hl
      rwa [getD_flip (by omega) true false] at this
    rw [hr] at this; cases this

theorem fork_pick {L : List Nat} (hok : forkOk X.pf ops L p q = true) {listed : Array Bool} (hsz : listed.size = ops.size) (hcl : Closed ops listed) {i : Nat} (hi : i ∈ Region.ready .any ops listed) (hne : listed.getD p false = true ∨ i ≠ q) {s sf : St} (h : runIx X hc ops N (remL L listed) s = some sf) :
    ∃ oi s1, ops[i]? = some oi ∧ run1 X hc ops N s oi = some s1 ∧ runIx X hc ops N (remL L (listed.setIfInBounds i true)) s1 = some sf ∧ (remL L (listed.setIfInBounds i true)).length + 1 = (remL L listed).length := by
  obtain ⟨h1, oi, h2, h3⟩ := mem_ready.1 hi
  have hlt : i < ops.size := (Array.getElem?_eq_some_iff.1 h2).1
  obtain ⟨l1, l2, hL⟩ := List.append_of_mem (forkOk_all hok i hlt)
  obtain ⟨oy, g1, g2, g3, g4⟩ := forkGo_spec L [] (forkOk_go hok) l1 i l2 hL
  have hrem := remL_at hL h1
  have hset := remL_set (listed := listed) hL (by simpa using g4) (forkOk_not hok hL)
  have hpre : ∀ x ∈ remL l1 listed, ∀ ox, ops[x]? = some ox → mayPass X.pf ops ox oi = true := by
    intro x hx ox hox
    obtain ⟨m1, m2⟩ := List.mem_filter.1 hx
    have hx' : listed.getD x true = false := by simpa using m2
    have hxs : x < ops.size := (Array.getElem?_eq_some_iff.1 hox).1
    have hoy : oy = oi := by rw [g1] at h2; injection h2
    subst hoy
    rcases g3 x (by simpa using m1) with hb | ⟨rfl, rfl⟩ | ⟨ox', k1, k2⟩
    · exfalso
      have hl := before_listed hcl i oy h2 h3 x hb
      rw [getD_flip (by omega) true false, hl] at hx'; cases hx'
    · rcases hne with h | h
      · rw [getD_flip (by omega) true false, h] at hx'; cases hx'
      · exact absurd rfl h
    · rw [hox] at k1; injection k1 with k1; subst k1; exact k2
  rw [hrem] at h
  have hb := runIx_bubble h2 _ _ s sf hpre h
  simp only [runIx, h2, Option.bind_some, Option.bind_eq_some_iff] at hb
  obtain ⟨s1, k1, k2⟩ := hb
  refine ⟨oi, s1, h2, k1, by rw [hset]; exact k2, ?_⟩
  rw [hset, hrem]; simp; omega

theorem closed_set {listed : Array Bool} {i : Nat} (hcl : Closed ops listed) (hi : i ∈ Region.ready .any ops listed) : Closed ops (listed.setIfInBounds i true) := by
  obtain ⟨h1, oi, h2, h3⟩ := mem_ready.1 hi
  intro j o hj hl e he hb
  by_cases hji : j = i
  · subst hji
    rw [h2] at hj; cases hj
    exact getD_set_true (h3 e he hb)
  · rw [getD_set_ne true (fun h => hji h.symm)] at hl
    exact getD_set_true (hcl j o hj hl e he hb)

/-- one order, its first taker of memory done -/
theorem wpAny_order (horc : OrcOK X) (hhc : HOK X hc) {L : List Nat} (hok : forkOk X.pf ops L p q = true) {Q : Exit → Act → World → Prop} : ∀ (fuel : Nat) (listed : Array Bool) (s sf : St) (ρ : Nat → Loc) (a : Act) (w : World), listed.size = ops.size → Closed ops listed →
    (remL L listed).length ≤ fuel → listed.getD p false = true → SRel X C N ρ s a w → runIx X hc ops N (remL L listed) s = some sf → (∀ a' w', Then X C N ρ s sf a' w' → Q .normal a' w') → wpAny X.P .any ops Q fuel listed a w := by
  intro fuel
  have hready : ∀ (listed : Array Bool), (remL L listed) = [] → Region.ready .any ops listed = [] := by
    intro listed h0
    cases hr : Region.ready .any ops listed with
    | nil => rfl
    | cons i r =>
      obtain ⟨h1, o, h2, _⟩ := mem_ready.1 (show i ∈ Region.ready .any ops listed by rw [hr]; simp)
      have : i ∈ remL L listed := List.mem_filter.2 ⟨forkOk_all hok i (Array.getElem?_eq_some_iff.1 h2).1, by rw [h1]; rfl⟩
      rw [h0] at this; cases this
  induction fuel with
  | zero =>
    intro listed s sf ρ a w hsz hcl hlen hp hs h hQ
    have h0 : remL L listed = [] := List.length_eq_zero_iff.1 (by omega)
    rw [h0] at h
    simp only [runIx, Option.some.injEq] at h; subst h
    exact ⟨hready listed h0, hQ _ _ ⟨ρ, fun _ _ => rfl, Nat.le_refl _, hs⟩⟩
  | succ fuel ih =>
    intro listed s sf ρ a w hsz hcl hlen hp hs h hQ
    refine ⟨fun hr => ?_, fun i hi => ?_⟩
    · rw [fork_ready hok hsz hr] at h
      simp only [runIx, Option.some.injEq] at h; subst h
      exact hQ _ _ ⟨ρ, fun _ _ => rfl, Nat.le_refl _, hs⟩
    · obtain ⟨oi, s1, h2, g1, g2, g3⟩ := fork_pick hok hsz hcl hi (.inl hp) h
      refine wpOp_sound horc hhc hs h2 g1 (fun a1 w1 ⟨ρ1, k1, k2, k3⟩ => ?_)
      exact ih (listed.setIfInBounds i true) s1 sf ρ1 a1 w1 (by simpa using hsz) (closed_set hcl hi) (by omega) (getD_set_true hp) k3 g2 (fun a' w' ht => hQ _ _ (ht.trans k1 k2))

theorem wpAny_fork (horc : OrcOK X) (hhc : HOK X hc) (hpq : p ≠ q) {L1 L2 : List Nat} (hok1 : forkOk X.pf ops L1 p q = true) (hok2 : forkOk X.pf ops L2 q p = true) {Q : Exit → Act → World → Prop} : ∀ (fuel : Nat) (listed : Array Bool) (s sf1 sf2 : St) (ρ : Nat → Loc) (a : Act) (w : World), listed.size = ops.size → Closed ops listed →
    (remL L1 listed).length ≤ fuel → (remL L2 listed).length ≤ fuel → listed.getD p true = false → SRel X C N ρ s a w → runIx X hc ops N (remL L1 listed) s = some sf1 → runIx X hc ops N (remL L2 listed) s = some sf2 →
    (∀ a' w', Then X C N ρ s sf1 a' w' → Q .normal a' w') → (∀ a' w', Then X C N ρ s sf2 a' w' → Q .normal a' w') → wpAny X.P .any ops Q fuel listed a w := by
  intro fuel
  have hin : ∀ (listed : Array Bool), listed.size = ops.size → listed.getD p true = false → p ∈ remL L1 listed := by
    intro listed hsz h
    have hlt : p < listed.size := by
      rcases Nat.lt_or_ge p listed.size with h1 | h1
      · exact h1
      · simp [Array.getElem?_eq_none h1] at h
    exact List.mem_filter.2 ⟨forkOk_all hok1 p (by omega), by rw [h]; rfl⟩
  induction fuel with
  | zero =>
    intro listed s sf1 sf2 ρ a w hsz hcl hlen _ hp
    have := hin listed hsz hp
    rw [List.length_eq_zero_iff.1 (by omega : (remL L1 listed).length = 0)] at this; cases this
  | succ fuel ih =>
    intro listed s sf1 sf2 ρ a w hsz hcl hlen1 hlen2 hp hs h1 h2 hQ1 hQ2
    refine ⟨fun hr => ?_, fun i hi => ?_⟩
    · have := hin listed hsz hp
      rw [fork_ready hok1 hsz hr] at this; cases this
    · have hlt : i < listed.size := by
        obtain ⟨_, o, ho, _⟩ := mem_ready.1 hi
        have := (Array.getElem?_eq_some_iff.1 ho).1; omega
      have hit : (listed.setIfInBounds i true).getD i false = true := by simp [hlt]
      by_cases hip : i = p
      · subst hip
        obtain ⟨oi, s1, k0, g1, g2, g3⟩ := fork_pick hok1 hsz hcl hi (.inr hpq) h1
        refine wpOp_sound horc hhc hs k0 g1 (fun a1 w1 ⟨ρ1, k1, k2, k3⟩ => ?_)
        exact wpAny_order horc hhc hok1 fuel _ s1 sf1 ρ1 a1 w1 (by simpa using hsz) (closed_set hcl hi) (by omega) hit k3 g2 (fun a' w' ht => hQ1 _ _ (ht.trans k1 k2))
      · by_cases hiq : i = q
        · subst hiq
          obtain ⟨oi, s1, k0, g1, g2, g3⟩ := fork_pick hok2 hsz hcl hi (.inr hip) h2
          refine wpOp_sound horc hhc hs k0 g1 (fun a1 w1 ⟨ρ1, k1, k2, k3⟩ => ?_)
          exact wpAny_order horc hhc hok2 fuel _ s1 sf2 ρ1 a1 w1 (by simpa using hsz) (closed_set hcl hi) (by omega) hit k3 g2 (fun a' w' ht => hQ2 _ _ (ht.trans k1 k2))
        · obtain ⟨oi, s1, k0, g1, g2, g3⟩ := fork_pick hok1 hsz hcl hi (.inr hiq) h1
          obtain ⟨oi', s1', k0', g1', g2', g3'⟩ := fork_pick hok2 hsz hcl hi (.inr hip) h2
          rw [k0] at k0'; injection k0' with k0'; subst k0'
          rw [g1] at g1'; injection g1' with g1'; subst g1'
          refine wpOp_sound horc hhc hs k0 g1 (fun a1 w1 ⟨ρ1, k1, k2, k3⟩ => ?_)
          exact ih _ s1 sf1 sf2 ρ1 a1 w1 (by simpa using hsz) (closed_set hcl hi) (by omega) (by omega) (by rw [getD_set_ne true hip]; exact hp) k3 g2 g2' (fun a' w' ht => hQ1 _ _ (ht.trans k1 k2)) (fun a' w' ht => hQ2 _ _ (ht.trans k1 k2))

/-! ## What a piece of code comes to, more than one end allowed -/
def Sem (X : Cx) (N : Nat) (c : Code) (s : St) (Q : AExit → St → Prop) : Prop :=
  ∀ (C : Ctx) (ρ : Nat → Loc) (a : Act) (w : World) (R : Exit → Act → World → Prop), SRel X C N ρ s a w → (∀ x s' a' w', Q x s' → Then X C N ρ s s' a' w' → R (exitOf x) a' w') → c.wp X.P R a w
/-- the same, of numbers within their kinds; what is called goes by the table -/
def SemW (X : Cx) (N : Nat) (c : Code) (s : St) (Q : AExit → St → Prop) : Prop := WfS s → Sem X.good N c s fun x s' => WfS s' ∧ Q x s'

theorem runIx_good (hX : OrcWf X) {hc hc' : HOrc} (hh : HcWf hc hc') {ops : Array Oper} {N : Nat} : ∀ (os : List Nat) (s s' : St), WfS s → runIx X hc ops N os s = some s' → WfS s' ∧ runIx X.good hc' ops N os s = some s' := by
  intro os
  induction os with
  | nil => intro s s' hs h; simp only [runIx, Option.some.injEq] at h ⊢; subst h; exact ⟨hs, rfl⟩
  | cons o os ih =>
    intro s s' hs h
    simp only [runIx, Option.bind_eq_some_iff] at h ⊢
    obtain ⟨oi, h0, s1, h1, h2⟩ := h
    obtain ⟨k1, k2⟩ := run1_good hX hh hs h1
    obtain ⟨k3, k4⟩ := ih _ _ k1 h2
    exact ⟨k3, oi, h0, s1, k2, k4⟩

theorem SemW.of_ru {P : Program} {t : Tbl} (hm : P.follows .mixedOrders = true) (ht : ∀ p ∈ t, WCon P p.1 p.2) {N : Nat} {c : Code} {s s' : St} {x : AExit} {Q : AExit → St → Prop} (h : Ru (cx P t) (fun _ _ _ => none) N c s x s') (hq : Q x s') : SemW (cx P t) N c s Q := by
  intro hw C ρ a w R hs hR
  obtain ⟨n, h⟩ := h
  obtain ⟨k1, k2⟩ := runC_good (orcWf_tbl ht) HcWf.none n c _ _ _ hw h
  exact runC_sound (X := (cx P t).good) hm (orcOK_good ht) HOK.none n c s s' x ρ a w hs k2 R (fun a' w' htn => hR x s' a' w' ⟨k1, hq⟩ htn)

theorem SemW.seq {N : Nat} {c d : Code} {s : St} {Q : AExit → St → Prop} (h : SemW X N c s fun x s1 => x = .normal ∧ SemW X N d s1 Q) : SemW X N (.seq c d) s Q := by
  intro hw C ρ a w R hs hR
  refine wp_seq (h hw C ρ a w _ hs (fun x s1 a1 w1 ⟨q0, q1, q2⟩ htn => ?_))
  subst q1
  obtain ⟨ρ1, g1, g2, g3⟩ := htn
  exact q2 q0 C ρ1 a1 w1 R g3 (fun x s' a' w' hq ht => hR x s' a' w' hq (ht.trans g1 g2))

def isSeqs : Nat → Code → Bool
  | 0, _ => true
  | n + 1, .seq _ b => isSeqs n b
  | _, _ => false
theorem SemW.cut {P : Program} {t : Tbl} (hm : P.follows .mixedOrders = true) (ht : ∀ p ∈ t, WCon P p.1 p.2) {N : Nat} {Q : AExit → St → Prop} : ∀ (k : Nat) {c : Code} {s s1 : St}, isSeqs k c = true → Ru (cx P t) (fun _ _ _ => none) N (pre k c) s .normal s1 → SemW (cx P t) N (post k c) s1 Q → SemW (cx P t) N c s Q := by
  intro k
  induction k with
  | zero =>
    intro c s s1 _ h1 h2
    obtain ⟨_, rfl⟩ := Ru.skip_inv h1
    exact h2
  | succ k ih =>
    intro c s s1 hs h1 h2
    cases c with
    | seq a b =>
      obtain ⟨sm, g1, g2⟩ := Ru.seq_inv h1
      exact .seq (.of_ru hm ht g1 ⟨rfl, ih hs g2 h2⟩)
    | _ => cases hs

/-- the region in which two operations may take memory in either order -/
theorem SemW.fork {P : Program} {t : Tbl} (hm : P.follows .mixedOrders = true) (ht : ∀ p ∈ t, WCon P p.1 p.2) {N : Nat} {id : Nat} {ops : Array Oper} {s s1 s2 : St} {Q : AExit → St → Prop} (p q : Nat) (L1 L2 : List Nat) (hpq : Nat.beq p q = false) (hok1 : forkOk (cx P t).pf ops L1 p q = true) (hok2 : forkOk (cx P t).pf ops L2 q p = true) (hp : Nat.blt p ops.size = true)
    (h1 : runIx (cx P t) (fun _ _ _ => none) ops N L1 s = some s1) (h2 : runIx (cx P t) (fun _ _ _ => none) ops N L2 s = some s2) (hq1 : Q .normal s1) (hq2 : Q .normal s2) : SemW (cx P t) N (.region id ops true) s Q := by
  intro hw C ρ a w R hs hR
  obtain ⟨w1, k1⟩ := runIx_good (orcWf_tbl ht) HcWf.none _ _ _ hw h1
  obtain ⟨w2, k2⟩ := runIx_good (orcWf_tbl ht) HcWf.none _ _ _ hw h2
  refine wp_region_any (P := P) hm ?_
  have hs' : SRel (cx P t).good C N ρ s a { w with drawn := w.drawn + 1 } := ⟨hs.sim.of_alike rfl rfl rfl rfl, hs.env, hs.size, hs.defers⟩
  have hall : ∀ L : List Nat, remL L (Array.replicate ops.size false) = L.filter (fun i => decide (i < ops.size)) := by
    intro L
    unfold remL
    apply List.filter_congr
    intro i _
    rw [getD_replicate]
    by_cases h : i < ops.size <;> simp [h]
  have hin : ∀ (L : List Nat) (p q : Nat), forkOk (cx P t).pf ops L p q = true → remL L (Array.replicate ops.size false) = L := by
    intro L p q hok
    rw [hall]
    apply List.filter_eq_self.2
    intro i hi
    obtain ⟨l1, l2, hL⟩ := List.append_of_mem hi
    obtain ⟨oy, g1, _⟩ := forkGo_spec (X := cx P t) L [] (forkOk_go hok) l1 i l2 hL
    simpa using (Array.getElem?_eq_some_iff.1 g1).1
  have hlen : ∀ (L : List Nat) (p q : Nat), forkOk (cx P t).pf ops L p q = true → L.length ≤ ops.size := by
    intro L p q hok
    unfold forkOk at hok
    simp only [Bool.and_eq_true] at hok
    exact Nat.le_of_ble_eq_true hok.1
  refine wpAny_fork (X := (cx P t).good) (hc := fun _ _ _ => none) (p := p) (q := q) (orcOK_good ht) HOK.none (fun e => by subst e; simp at hpq) (L1 := L1) (L2 := L2) hok1 hok2 ops.size _ s s1 s2 ρ a _ (by simp) ?_ (by rw [hin L1 p q hok1]; exact hlen L1 p q hok1) (by rw [hin L2 q p hok2]; exact hlen L2 q p hok2) ?_ hs' (by rw [hin L1 p q hok1]; exact k1) (by rw [hin L2 q p hok2]; exact k2)
    (fun a' w' htn => hR .normal s1 a' w' ⟨w1, hq1⟩ htn) (fun a' w' htn => hR .normal s2 a' w' ⟨w2, hq2⟩ htn)
  · intro j o hj hl
    have hlt : j < ops.size := (Array.getElem?_eq_some_iff.1 hj).1
    rw [getD_replicate, if_pos hlt] at hl; cases hl
  · rw [getD_replicate, if_pos (by simpa using hp)]

theorem WCall.of_sem {P : Program} {t : Tbl} {f : FuncId} {fn : Func} {c : Code} {l : List Value} {v : Value} (hf : P.funcs[f]? = some fn) (hc0 : fn.body = some c)
    (hname : (fn.name == "runtime.NumGoroutine") = false) (hN : Nat.ble l.length fn.ntmps = true) (h : SemW (cx P t) fn.ntmps c ⟨envOf l, []⟩ fun x s' => (∀ i, x ≠ .exit i) ∧ aresults (cx P t) fn s' = some v) (ht : ∀ p ∈ t, WCon P p.1 p.2) (hl : l.all plainT = true) (hv : plainT v = true) (hw : WfT v) : WCall P f l v := by
  intro hwl
  refine ⟨⟨hl, hv, .inl ⟨⟨fn, hf, hname, by rw [hc0]; rfl⟩, fun w hg => ?_⟩⟩, hw⟩
  have hs : Sim (cx P t).good (ctxOf (fun _ => ⟨0, 0, 0, 0⟩) [] w) (fun _ => ⟨0, 0, 0, 0⟩) [] w :=
    { blk := fun i b hb => by simp at hb, own := fun i b hb => by simp at hb, far := fun i j bi bj hb => by simp at hb, os := rfl, tape := rfl, output := rfl, size := Nat.le_refl _, keep := fun _ _ _ => rfl, agree := fun _ _ => rfl, len := Nat.le_refl _,
      glob := fun g l' hgl => by
        obtain ⟨h1, h2⟩ := hg g l' hgl
        exact ⟨by rintro ⟨i, b, hb, _⟩; simp at hb, h1, h2⟩ }
  have hll : LRel (TRel (fun _ => ⟨0, 0, 0, 0⟩) ([] : Heap).length) l l := LRel.refl_of fun u hu => .plain (List.all_eq_true.1 hl u hu)
  refine calls_of_wp (P := P) hf hc0 ?_
  refine h ⟨envOf_wf hwl, fun i b hb => by simp at hb⟩ _ _ _ w _ (SRel.start hs hll (Nat.le_of_ble_eq_true hN)) (fun x s' a' w' ⟨q0, q1, q2⟩ htn => ?_)
  obtain ⟨_, q3⟩ := aresults_good (orcWf_tbl ht) q0 q2
  refine bodyPost_of (X := (cx P t).good) q1 q3 (fun ρ' v' w' g1 g2 g3 g4 => ?_) htn
  have := TRel.plain_eq hv g4
  subst this
  exact ⟨rfl, g3.os, g3.tape, g3.output, g3.size, fun k hk => g3.keep k hk (by rintro ⟨i, b, hb, _⟩; simp at hb)⟩

def headC : Code → Code
  | .seq a _ => a
  | c => c
def tailC : Code → Code
  | .seq _ b => b
  | _ => .skip
def opsOf : Code → Array Oper
  | .region _ ops _ => ops
  | _ => #[]
def isDraw : Code → Bool
  | .region _ _ d => d
  | _ => false
/-- a piece of code that begins with such a region -/
theorem SemW.fork_at {P : Program} {t : Tbl} (hm : P.follows .mixedOrders = true) (ht : ∀ p ∈ t, WCon P p.1 p.2) {N : Nat} {d : Code} {s : St} {Q : AExit → St → Prop} (p q : Nat) (L1 L2 : List Nat) (hs : isSeqs 1 d = true) (hd : isDraw (headC d) = true) (hpq : Nat.beq p q = false)
    (hok1 : forkOk (cx P t).pf (opsOf (headC d)) L1 p q = true) (hok2 : forkOk (cx P t).pf (opsOf (headC d)) L2 q p = true) (hp : Nat.blt p (opsOf (headC d)).size = true)
    (h1 : (runIx (cx P t) (fun _ _ _ => none) (opsOf (headC d)) N L1 s).isSome = true) (h2 : (runIx (cx P t) (fun _ _ _ => none) (opsOf (headC d)) N L2 s).isSome = true)
    (hq1 : SemW (cx P t) N (tailC d) (St.of (runIx (cx P t) (fun _ _ _ => none) (opsOf (headC d)) N L1 s) s) Q) (hq2 : SemW (cx P t) N (tailC d) (St.of (runIx (cx P t) (fun _ _ _ => none) (opsOf (headC d)) N L2 s) s) Q) : SemW (cx P t) N d s Q := by
  cases d with
  | seq a b =>
    cases a with
    | region id ops dr =>
      simp only [headC, isDraw] at hd
      subst hd
      simp only [headC, tailC, opsOf] at *
      obtain ⟨s1, g1⟩ := Option.isSome_iff_exists.1 h1
      obtain ⟨s2, g2⟩ := Option.isSome_iff_exists.1 h2
      rw [g1] at hq1
      rw [g2] at hq2
      exact .seq (.fork hm ht p q L1 L2 hpq hok1 hok2 hp g1 g2 ⟨rfl, hq1⟩ ⟨rfl, hq2⟩)
    | _ => cases hd
  | _ => cases hs
end
end Go.Ab
