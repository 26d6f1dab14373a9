import Derived.Test.YtninlahlmjhmhaaAbOrder
import Derived.LoopN
namespace Go.Ab

/-- an abstract state, and a real one -/
structure SRel (X : Cx) (C : Ctx) (N : Nat) (ρ : Nat → Loc) (s : St) (a : Act) (w : World) : Prop where
  sim : Sim X C ρ s.heap w
  env : ERel ρ s.heap.length s.env a.tmps
  size : a.tmps.size = N
  defers : a.defers = []

/-- what holds behind a piece of code -/
def Then (X : Cx) (C : Ctx) (N : Nat) (ρ : Nat → Loc) (s : St) (s' : St) (a' : Act) (w' : World) : Prop :=
  ∃ ρ', (∀ i, i < s.heap.length → ρ' i = ρ i) ∧ s.heap.length ≤ s'.heap.length ∧ SRel X C N ρ' s' a' w'

section
variable {X : Cx} {C : Ctx} {hc : HOrc} {ops : Array Oper} {N : Nat} {ρ : Nat → Loc} {a : Act} {w : World}

theorem Then.trans {s s1 s2 : St} {a2 : Act} {w2 : World} {ρ1 : Nat → Loc} (h1 : ∀ i, i < s.heap.length → ρ1 i = ρ i) (h2 : s.heap.length ≤ s1.heap.length) (h : Then X C N ρ1 s1 s2 a2 w2) : Then X C N ρ s s2 a2 w2 := by
  obtain ⟨ρ2, g1, g2, g3⟩ := h
  exact ⟨ρ2, fun i hi => by rw [g1 i (by omega), h1 i hi], by omega, g3⟩

theorem awanted_sound {e : Env} {n : Nat} (he : ERel ρ n e a.tmps) {o : Oper} {b : Bool} (h : awanted e ops o = some b) : Region.wanted o (yielded ops a.tmps) = b := by
  unfold awanted at h
  unfold Region.wanted
  cases hg : o.guard with
  | none => simp only [hg, Option.some.injEq] at h; subst h; rfl
  | some gw =>
    obtain ⟨g, want⟩ := gw
    simp only [hg] at h ⊢
    cases ht : (ops[g]?).bind (·.dst) with
    | none => simp [ht] at h
    | some t =>
      simp only [ht] at h
      cases hv : e t with
      | none => simp [hv] at h
      | some v =>
        simp only [hv] at h
        split at h
        · rename_i b0 hb0
          cases hb0
          obtain ⟨v', h1, h2⟩ := he t _ hv
          have := TRel.bool h2; subst this
          simp only [Option.some.injEq] at h; subst h
          have hy : yielded ops a.tmps g = some b0 := by unfold yielded; simp [ht, h1]
          rw [hy]
          cases b0 <;> cases want <;> rfl
        · rename_i hb0
          cases hb0
          obtain ⟨v', h1, h2⟩ := he t _ hv
          obtain ⟨vs', rfl, _⟩ := h2
          simp only [Option.some.injEq] at h; subst h
          have hy : yielded ops a.tmps g = none := by unfold yielded; simp [ht, h1]
          rw [hy]; rfl
        · cases h

theorem wpOp_sound (horc : OrcOK X) (hhc : HOK X hc) {s s' : St} (hs : SRel X C N ρ s a w) {i : Nat} {o : Oper} (ho : ops[i]? = some o) (h : run1 X hc ops N s o = some s')
    {K : Act → World → Prop} {Q : Exit → Act → World → Prop} (hK : ∀ a' w', Then X C N ρ s s' a' w' → K a' w') : wpOp X.P ops Q i K a w := by
  unfold run1 at h
  simp only [Option.map_eq_some_iff, Prod.exists] at h
  obtain ⟨r, H', h, rfl⟩ := h
  unfold act1 at h
  cases hf : fitsN N o.dst <;> simp only [hf, cond_true, cond_false] at h
  · cases h
  · cases hw : awanted s.env ops o with
    | none => simp [hw] at h
    | some b =>
      have hw' := awanted_sound hs.env hw
      unfold wpOp
      simp only [ho]
      cases b with
      | false =>
        simp only [hw, Option.some.injEq, Prod.mk.injEq] at h
        obtain ⟨rfl, rfl⟩ := h
        rw [if_neg (by rw [hw']; decide)]
        exact hK _ _ ⟨ρ, fun _ _ => rfl, Nat.le_refl _, hs.sim, hs.env.put hs.size hf (fun u hu => by cases hu; exact ⟨#[], rfl, .nil⟩), by rw [put_size]; exact hs.size, by rw [put_defers]; exact hs.defers⟩
      | true =>
        simp only [hw] at h
        rw [if_pos hw']
        left
        refine aop_sound horc hhc hs.sim hs.env h (fun ρ' w' x g1 g2 g3 g4 => hK _ _ ⟨ρ', g1, g2, g3, ?_, by rw [put_size]; exact hs.size, by rw [put_defers]; exact hs.defers⟩)
        exact (hs.env.mono g1 g2).put hs.size hf g4

/-- in the text's order -/
theorem wpOps_sound (horc : OrcOK X) (hhc : HOK X hc) {Q : Exit → Act → World → Prop} : ∀ (l : List Oper) (k : Nat) (s s' : St) (ρ : Nat → Loc) (a : Act) (w : World), (∀ j o, l[j]? = some o → ops[k + j]? = some o) → SRel X C N ρ s a w → runL X hc ops N l s = some s' →
    (∀ a' w', Then X C N ρ s s' a' w' → Q .normal a' w') → wpOps X.P ops Q (List.range' k l.length) a w := by
  intro l
  induction l with
  | nil =>
    intro k s s' ρ a w _ hs h hQ
    simp only [runL, Option.some.injEq] at h; subst h
    exact hQ _ _ ⟨ρ, fun _ _ => rfl, Nat.le_refl _, hs⟩
  | cons o l ih =>
    intro k s s' ρ a w hl hs h hQ
    simp only [runL, Option.bind_eq_some_iff] at h
    obtain ⟨s1, h1, h2⟩ := h
    simp only [List.length_cons, List.range'_succ]
    rw [wpOps_cons]
    refine wpOp_sound horc hhc hs (hl 0 o (by simp)) h1 (fun a1 w1 ⟨ρ1, g1, g2, g3⟩ => ?_)
    refine ih (k + 1) s1 s' ρ1 a1 w1 (fun j o' hj => by have := hl (j + 1) o' (by simpa using hj); rw [Nat.add_assoc, Nat.add_comm 1 j]; exact this) g3 h2 (fun a' w' ht => hQ _ _ (ht.trans g1 g2))

/-! whatever the order -/
def runIx (X : Cx) (hc : HOrc) (ops : Array Oper) (N : Nat) : List Nat → St → Option St
  | [], s => some s
  | i :: r, s => (ops[i]?).bind fun o => (run1 X hc ops N s o).bind (runIx X hc ops N r)

theorem runIx_append (l m : List Nat) (s : St) : runIx X hc ops N (l ++ m) s = (runIx X hc ops N l s).bind (runIx X hc ops N m) := by
  induction l generalizing s with
  | nil => rfl
  | cons i l ih =>
    simp only [List.cons_append, runIx]
    cases ops[i]? with
    | none => rfl
    | some o =>
      simp only [Option.bind_some]
      cases run1 X hc ops N s o with
      | none => rfl
      | some s1 => simp only [Option.bind_some]; exact ih s1

theorem runIx_range (l : List Oper) (k : Nat) (hl : ∀ j o, l[j]? = some o → ops[k + j]? = some o) (s : St) : runIx X hc ops N (List.range' k l.length) s = runL X hc ops N l s := by
  induction l generalizing k s with
  | nil => rfl
  | cons o l ih =>
    simp only [List.length_cons, List.range'_succ, runIx, runL]
    rw [show ops[k]? = some o from hl 0 o (by simp)]
    simp only [Option.bind_some]
    congr 1
    funext s1
    exact ih (k + 1) (fun j o' hj => by have := hl (j + 1) o' (by simpa using hj); rw [Nat.add_assoc, Nat.add_comm 1 j]; exact this) s1

/-- an operation that may pass those ahead of it -/
theorem runIx_bubble {i : Nat} {oi : Oper} (hi : ops[i]? = some oi) : ∀ (pre post : List Nat) (s sf : St), (∀ x ∈ pre, ∀ ox, ops[x]? = some ox → mayPass X.pf ops ox oi = true) → runIx X hc ops N (pre ++ i :: post) s = some sf → runIx X hc ops N (i :: (pre ++ post)) s = some sf := by
  intro pre
  induction pre with
  | nil => intro post s sf _ h; exact h
  | cons x pre ih =>
    intro post s sf hp h
    simp only [List.cons_append, runIx, Option.bind_eq_some_iff] at h
    obtain ⟨ox, hox, s1, h1, h2⟩ := h
    have h3 := ih post s1 sf (fun y hy => hp y (by simp [hy])) h2
    simp only [runIx, hi, Option.bind_some, Option.bind_eq_some_iff] at h3
    obtain ⟨s2, h4, h5⟩ := h3
    obtain ⟨s1', g1, g2⟩ := run1_swap (hp x (by simp) ox hox) h1 h4
    simp only [List.cons_append, runIx, hi, Option.bind_some, Option.bind_eq_some_iff]
    exact ⟨s1', g1, ox, hox, s2, g2, h5⟩

def rem (ops : Array Oper) (listed : Array Bool) : List Nat := (List.range ops.size).filter fun i => !listed.getD i true

theorem rem_set {listed : Array Bool} {i : Nat} (hsz : listed.size = ops.size) {pre post : List Nat} (h : rem ops listed = pre ++ i :: post) : rem ops (listed.setIfInBounds i true) = pre ++ post := by
  have hnd : (rem ops listed).Nodup := (List.Pairwise.filter _ List.pairwise_lt_range).imp Nat.ne_of_lt
  have e : rem ops (listed.setIfInBounds i true) = (rem ops listed).filter (fun j => j != i) := by
    unfold rem
    rw [List.filter_filter]
    apply List.filter_congr
    intro j hj
    have hj' : j < ops.size := by simpa using hj
    by_cases e : j = i
    · subst e; simp [hsz, hj']
    · rw [getD_set_ne true (fun h => e h.symm)]; simp [e]
  rw [e, h]
  rw [h] at hnd
  have h1 := (List.nodup_append.1 hnd)
  obtain ⟨n1, n2, n3⟩ := h1
  have hpre : pre.filter (fun j => j != i) = pre := List.filter_eq_self.2 fun j hj => by
    have := n3 j hj i (by simp); simpa using this
  have hpost : post.filter (fun j => j != i) = post := List.filter_eq_self.2 fun j hj => by
    have := (List.nodup_cons.1 n2).1
    simp only [bne_iff_ne]; rintro rfl; exact this hj
  simp [hpre, hpost]

/-- what is listed is listed behind what it hangs on -/
def Closed (ops : Array Oper) (listed : Array Bool) : Prop := ∀ j o, ops[j]? = some o → listed.getD j true = true → ∀ e ∈ o.after, Region.binds .any e = true → listed.getD e.on false = true

theorem fold_bits (A : Array Nat) (i : Nat) : ∀ (l : List Edge) (s : Nat), (l.foldl (fun s e => if Region.binds .any e then s ||| 2 ^ e.on ||| A.getD e.on 0 else s) s).testBit i = true →
    s.testBit i = true ∨ ∃ e ∈ l, Region.binds .any e = true ∧ (e.on = i ∨ (A.getD e.on 0).testBit i = true) := by
  intro l
  induction l with
  | nil => intro s h; exact .inl h
  | cons e l ih =>
    intro s h
    simp only [List.foldl_cons] at h
    rcases ih _ h with h | ⟨e', h1, h2⟩
    · by_cases hb : Region.binds .any e = true
      · rw [if_pos hb] at h
        simp only [Nat.testBit_or, Bool.or_eq_true] at h
        rcases h with (h | h) | h
        · exact .inl h
        · right
          refine ⟨e, by simp, hb, .inl ?_⟩
          rw [Nat.testBit_two_pow] at h
          simpa using h
        · exact .inr ⟨e, by simp, hb, .inr h⟩
      · rw [if_neg hb] at h; exact .inl h
    · exact .inr ⟨e', by simp [h1], h2⟩

def BInv (pre : List Oper) (A : Array Nat) : Prop :=
  A.size = pre.length ∧ ∀ j o, pre[j]? = some o → ∀ i, (A.getD j 0).testBit i = true → ∃ e ∈ o.after, Region.binds .any e = true ∧ (e.on = i ∨ (e.on < j ∧ (A.getD e.on 0).testBit i = true))

theorem binv_fold : ∀ (l pre : List Oper) (A : Array Nat), BInv pre A → BInv (pre ++ l) (l.foldl (fun acc (o : Oper) => acc.push (o.after.foldl (fun s e => if Region.binds .any e then s ||| 2 ^ e.on ||| acc.getD e.on 0 else s) 0)) A) := by
  intro l
  induction l with
  | nil => intro pre A h; simpa using h
  | cons o l ih =>
    intro pre A h
    obtain ⟨h1, h2⟩ := h
    simp only [List.foldl_cons]
    have := ih (pre ++ [o]) (A.push (o.after.foldl (fun s e => if Region.binds .any e then s ||| 2 ^ e.on ||| A.getD e.on 0 else s) 0)) ?_
    · simpa using this
    · refine ⟨by simp [h1], fun j o' hj i hb => ?_⟩
      rcases getElem?_snoc _ _ _ _ hj with ⟨hj1, hj2⟩ | ⟨rfl, rfl⟩
      · have e1 : ∀ m, m < pre.length → ∀ x, (A.push x).getD m 0 = A.getD m 0 := by
          intro m hm x
          have hm' : m < A.size := by omega
          simp [Array.getElem?_push_lt hm', hm']
        rw [e1 j hj1] at hb
        obtain ⟨e, g1, g2, g3⟩ := h2 j o' hj2 i hb
        refine ⟨e, g1, g2, g3.imp id (fun ⟨a, b⟩ => ⟨a, ?_⟩)⟩
        rw [e1 _ (by omega)]; exact b
      · have e2 : ∀ x, (A.push x).getD pre.length 0 = x := by intro x; rw [← h1]; simp
        rw [e2, ← Array.foldl_toList] at hb
        rcases fold_bits A i _ _ hb with h | ⟨e, g1, g2, g3⟩
        · simp at h
        · refine ⟨e, by simpa using g1, g2, g3.imp id (fun b => ?_)⟩
          have hlt : e.on < A.size := by
            rcases Nat.lt_or_ge e.on A.size with h | h
            · exact h
            · have : A.getD e.on 0 = 0 := by simp [Array.getElem?_eq_none h]
              rw [this] at b; simp at b
          refine ⟨by omega, ?_⟩
          have : ∀ x, (A.push x).getD e.on 0 = A.getD e.on 0 := by intro x; simp [Array.getElem?_push_lt hlt, hlt]
          rw [this]; exact b

theorem before_inv (ops : Array Oper) : BInv ops.toList (Region.before ops) := by
  have := binv_fold ops.toList [] #[] ⟨rfl, by simp⟩
  unfold Region.before
  rw [← Array.foldl_toList]
  simpa using this

theorem before_listed {listed : Array Bool} (hcl : Closed ops listed) : ∀ (j : Nat) (o : Oper), ops[j]? = some o → (∀ e ∈ o.after, Region.binds .any e = true → listed.getD e.on false = true) →
    ∀ i, ((Region.before ops).getD j 0).testBit i = true → listed.getD i false = true := by
  intro j
  induction j using Nat.strongRecOn with
  | _ j ih =>
    intro o ho hall i hb
    obtain ⟨e, g1, g2, g3⟩ := (before_inv ops).2 j o (by simpa using ho) i hb
    rcases g3 with rfl | ⟨hlt, g4⟩
    · exact hall e g1 g2
    · have hl := hall e g1 g2
      have hsz : e.on < ops.size := by have := (Array.getElem?_eq_some_iff.1 ho).1; omega
      refine ih e.on hlt ops[e.on] (by simp [hsz]) ?_ i g4
      refine hcl e.on ops[e.on] (by simp [hsz]) ?_
      cases hx : listed[e.on]? with
      | none => simp [hx] at hl
      | some b => simp [hx] at hl ⊢; exact hl

theorem orderOk_spec (h : orderOk X.pf ops = true) : (∀ j o, ops[j]? = some o → ∀ e ∈ o.after, Region.binds .any e = true → e.on < j) ∧
    ∀ i j x y, i < j → ops[i]? = some x → ops[j]? = some y → ((Region.before ops).getD j 0).testBit i = true ∨ mayPass X.pf ops x y = true := by
  unfold orderOk at h
  simp only [List.all_eq_true, Bool.and_eq_true, Prod.forall] at h
  have mem : ∀ j o, ops[j]? = some o → (o, j) ∈ ops.toList.zipIdx := by
    intro j o ho
    rw [List.mk_mem_zipIdx_iff_getElem?]; simpa using ho
  refine ⟨fun j o ho e he hb => ?_, fun i j x y hij hx hy => ?_⟩
  · have := (h o j (mem j o ho)).1 e (by simpa using he)
    simp only [hb, Bool.not_true, Bool.false_or, Nat.blt_eq] at this
    exact this
  · have := (h y j (mem j y hy)).2 x i (mem i x hx)
    simp only [Bool.or_eq_true, Bool.not_eq_true'] at this
    rcases this with (h1 | h1) | h1
    · exfalso
      have : Nat.blt i j = true := by simpa using hij
      rw [this] at h1; cases h1
    · exact .inl h1
    · exact .inr h1

theorem mem_rem {listed : Array Bool} {i : Nat} : i ∈ rem ops listed ↔ i < ops.size ∧ listed.getD i true = false := by
  simp [rem]

theorem ready_rem {listed : Array Bool} {i : Nat} (h : i ∈ Region.ready .any ops listed) : i ∈ rem ops listed := by
  obtain ⟨h1, o, h2, _⟩ := mem_ready.1 h
  exact mem_rem.2 ⟨(Array.getElem?_eq_some_iff.1 h2).1, h1⟩

theorem getD_flip {listed : Array Bool} {i : Nat} (hi : i < listed.size) (b c : Bool) : listed.getD i b = listed.getD i c := by simp [hi]

theorem wpAny_run (horc : OrcOK X) (hhc : HOK X hc) (hord : orderOk X.pf ops = true) {Q : Exit → Act → World → Prop} : ∀ (fuel : Nat) (listed : Array Bool) (s sf : St) (ρ : Nat → Loc) (a : Act) (w : World), listed.size = ops.size → Closed ops listed →
    (rem ops listed).length ≤ fuel → SRel X C N ρ s a w → runIx X hc ops N (rem ops listed) s = some sf → (∀ a' w', Then X C N ρ s sf a' w' → Q .normal a' w') → wpAny X.P .any ops Q fuel listed a w := by
  obtain ⟨hfwd, hpass⟩ := orderOk_spec hord
  -- who is left and hangs on nobody
  have hready : ∀ (listed : Array Bool), listed.size = ops.size → Region.ready .any ops listed = [] → rem ops listed = [] := by
    intro listed hsz hr
    cases hrem : rem ops listed with
    | nil => rfl
    | cons i r =>
      exfalso
      have hi : i ∈ rem ops listed := by rw [hrem]; simp
      obtain ⟨h1, h2⟩ := mem_rem.1 hi
      have : i ∈ Region.ready .any ops listed := by
        refine mem_ready.2 ⟨h2, ops[i], by simp [h1], fun e he hb => ?_⟩
        have hlt := hfwd i ops[i] (by simp [h1]) e he hb
        cases hl : listed.getD e.on false with
        | true => rfl
        | false =>
          exfalso
          have hm : e.on ∈ rem ops listed := mem_rem.2 ⟨by omega, by rw [getD_flip (by omega) true false]; exact hl⟩
          have hs : (rem ops listed).Pairwise (· < ·) := List.Pairwise.filter _ List.pairwise_lt_range
          rw [hrem] at hm hs
          rcases List.mem_cons.1 hm with e1 | e1
          · omega
          · have := (List.pairwise_cons.1 hs).1 _ e1; omega
      rw [hr] at this; cases this
  intro fuel
  induction fuel with
  | zero =>
    intro listed s sf ρ a w hsz hcl hlen hs h hQ
    have h0 : rem ops listed = [] := List.length_eq_zero_iff.1 (by omega)
    have hr : Region.ready .any ops listed = [] := by
      cases hr : Region.ready .any ops listed with
      | nil => rfl
      | cons i r => have := ready_rem (show i ∈ Region.ready .any ops listed by rw [hr]; simp); rw [h0] at this; cases this
    rw [h0] at h
    simp only [runIx, Option.some.injEq] at h; subst h
    exact ⟨hr, hQ _ _ ⟨ρ, fun _ _ => rfl, Nat.le_refl _, hs⟩⟩
  | succ fuel ih =>
    intro listed s sf ρ a w hsz hcl hlen hs h hQ
    refine ⟨fun hr => ?_, fun i hi => ?_⟩
    · rw [hready listed hsz hr] at h
      simp only [runIx, Option.some.injEq] at h; subst h
      exact hQ _ _ ⟨ρ, fun _ _ => rfl, Nat.le_refl _, hs⟩
    · obtain ⟨h1, oi, h2, h3⟩ := mem_ready.1 hi
      obtain ⟨pre, post, hpp⟩ := List.append_of_mem (ready_rem hi)
      have hsorted : (rem ops listed).Pairwise (· < ·) := List.Pairwise.filter _ List.pairwise_lt_range
      have hpre : ∀ x ∈ pre, ∀ ox, ops[x]? = some ox → mayPass X.pf ops ox oi = true := by
        intro x hx ox hox
        have hlt : x < i := by
          rw [hpp] at hsorted
          exact (List.pairwise_append.1 hsorted).2.2 x hx i (by simp)
        rcases hpass x i ox oi hlt hox h2 with hb | hb
        · exfalso
          have hl := before_listed hcl i oi h2 h3 x hb
          have hx' : x ∈ rem ops listed := by rw [hpp]; simp [hx]
          obtain ⟨g1, g2⟩ := mem_rem.1 hx'
          rw [getD_flip (by omega) true false, hl] at g2; cases g2
        · exact hb
      rw [hpp] at h
      have hb := runIx_bubble h2 pre post s sf hpre h
      simp only [runIx, h2, Option.bind_some, Option.bind_eq_some_iff] at hb
      obtain ⟨s1, g1, g2⟩ := hb
      refine wpOp_sound horc hhc hs h2 g1 (fun a1 w1 ⟨ρ1, k1, k2, k3⟩ => ?_)
      have hrem := rem_set hsz hpp
      refine ih (listed.setIfInBounds i true) s1 sf ρ1 a1 w1 (by simpa using hsz) ?_ ?_ k3 (by rw [hrem]; exact g2) (fun a' w' ht => hQ _ _ (ht.trans k1 k2))
      · intro j o hj hl e he hb
        by_cases hji : j = i
        · subst hji
          rw [h2] at hj; cases hj
          exact getD_set_true (h3 e he hb)
        · rw [getD_set_ne true (fun h => hji h.symm)] at hl
          exact getD_set_true (hcl j o hj hl e he hb)
      · rw [hrem]
        rw [hpp] at hlen
        simp at hlen ⊢; omega

theorem getD_replicate (k i : Nat) : (Array.replicate k false).getD i true = (if i < k then false else true) := by
  by_cases h : i < k <;> simp [h]

/-- a region -/
theorem region_sound (hm : X.P.follows .mixedOrders = true) (horc : OrcOK X) (hhc : HOK X hc) {draw : Bool} (hord : (!draw || orderOk X.pf ops) = true) {s s' : St} (hs : SRel X C N ρ s a w) (h : runL X hc ops N ops.toList s = some s') {id : Nat}
    {Q : Exit → Act → World → Prop} (hQ : ∀ a' w', Then X C N ρ s s' a' w' → Q .normal a' w') : (Code.region id ops draw).wp X.P Q a w := by
  cases draw with
  | false =>
    refine wp_region ?_
    have := wpOps_sound horc hhc ops.toList 0 s s' ρ a w (fun j o hj => by simpa using hj) hs h hQ
    rw [List.range_eq_range']
    simpa using this
  | true =>
    simp only [Bool.not_true, Bool.false_or] at hord
    refine wp_region_any hm ?_
    have hrem : rem ops (Array.replicate ops.size false) = List.range' 0 ops.toList.length := by
      unfold rem
      rw [List.filter_eq_self.2 (fun j hj => by rw [getD_replicate, if_pos (by simpa using hj)]; rfl), List.range_eq_range']
      simp
    have hs' : SRel X C N ρ s a { w with drawn := w.drawn + 1 } := ⟨hs.sim.of_alike rfl rfl rfl rfl, hs.env, hs.size, hs.defers⟩
    refine wpAny_run horc hhc hord ops.size _ s s' ρ a _ (by simp) ?_ ?_ hs' ?_ hQ
    · intro j o hj hl
      have hlt : j < ops.size := (Array.getElem?_eq_some_iff.1 hj).1
      rw [getD_replicate, if_pos hlt] at hl; cases hl
    · rw [hrem]; simp
    · rw [hrem, runIx_range ops.toList 0 (fun j o hj => by simpa using hj)]; exact h

/-! code -/
def exitOf : AExit → Exit
  | .normal => .normal
  | .ret => .ret
  | .exit i => .exit i

theorem runC_sound (hm : X.P.follows .mixedOrders = true) (horc : OrcOK X) (hhc : HOK X hc) : ∀ (fuel : Nat) (c : Code) (s s' : St) (x : AExit) (ρ : Nat → Loc) (a : Act) (w : World), SRel X C N ρ s a w → runC X hc N fuel c s = some (x, s') →
    ∀ Q : Exit → Act → World → Prop, (∀ a' w', Then X C N ρ s s' a' w' → Q (exitOf x) a' w') → c.wp X.P Q a w := by
  intro fuel
  induction fuel using Nat.strongRecOn with
  | _ fuel ih0 =>
  cases fuel with
  | zero => intro c s s' x ρ a w _ h; simp [runC] at h
  | succ fuel =>
    have ih := ih0 fuel (Nat.lt_succ_self _)
    intro c s s' x ρ a w hs h Q hQ
    cases c with
    | skip =>
      simp only [runC, Option.some.injEq, Prod.mk.injEq] at h; obtain ⟨rfl, rfl⟩ := h
      exact wp_skip (hQ _ _ ⟨ρ, fun _ _ => rfl, Nat.le_refl _, hs⟩)
    | region id ops draw =>
      simp only [runC] at h
      cases ho : (!draw || orderOk X.pf ops) with
      | false => simp [ho] at h
      | true =>
        simp only [ho, cond_true, Option.map_eq_some_iff, Prod.mk.injEq] at h
        obtain ⟨s1, h1, rfl, rfl⟩ := h
        exact region_sound hm horc hhc ho hs h1 hQ
    | seq c1 c2 =>
      simp only [runC, Option.bind_eq_some_iff, Prod.exists] at h
      obtain ⟨x1, s1, h1, h2⟩ := h
      refine wp_seq (ih c1 s s1 x1 ρ a w hs h1 _ (fun a1 w1 ⟨ρ1, g1, g2, g3⟩ => ?_))
      cases x1 with
      | normal => exact ih c2 s1 s' x ρ1 a1 w1 g3 h2 Q (fun a' w' ht => hQ _ _ (ht.trans g1 g2))
      | ret => simp only [Option.some.injEq, Prod.mk.injEq] at h2; obtain ⟨rfl, rfl⟩ := h2; exact hQ _ _ ⟨ρ1, g1, g2, g3⟩
      | exit i => simp only [Option.some.injEq, Prod.mk.injEq] at h2; obtain ⟨rfl, rfl⟩ := h2; exact hQ _ _ ⟨ρ1, g1, g2, g3⟩
    | cond cnd c1 c2 =>
      simp only [runC] at h
      split at h
      · rename_i t ht
        have := TRel.bool (evo_sound hs.env ht)
        refine wp_cond this ?_
        cases t with
        | true => exact ih c1 s s' x ρ a w hs h Q hQ
        | false => exact ih c2 s s' x ρ a w hs h Q hQ
      · cases h
    | block id b =>
      simp only [runC, Option.map_eq_some_iff, Prod.exists] at h
      obtain ⟨x1, s1, h1, h2⟩ := h
      refine wp_block (ih b s s1 x1 ρ a w hs h1 _ (fun a1 w1 ht => ?_))
      cases x1 with
      | normal => simp only [Prod.mk.injEq] at h2; obtain ⟨rfl, rfl⟩ := h2; exact hQ _ _ ht
      | ret => simp only [Prod.mk.injEq] at h2; obtain ⟨rfl, rfl⟩ := h2; exact hQ _ _ ht
      | exit i =>
        simp only [exitOf, Exit.inBlock]
        cases hb : Nat.beq i id with
        | true =>
          have e := Nat.eq_of_beq_eq_true hb
          simp only [hb, cond_true, Prod.mk.injEq] at h2; obtain ⟨rfl, rfl⟩ := h2
          rw [if_pos e]; exact hQ _ _ ht
        | false =>
          have e : i ≠ id := by rintro rfl; simp at hb
          simp only [hb, cond_false, Prod.mk.injEq] at h2; obtain ⟨rfl, rfl⟩ := h2
          rw [if_neg e]; exact hQ _ _ ht
    | loop b =>
      -- round by round
      have key : ∀ (k : Nat), k ≤ fuel + 1 → ∀ (s s' : St) (x : AExit) (ρ : Nat → Loc) (a : Act) (w : World), SRel X C N ρ s a w → runC X hc N k (.loop b) s = some (x, s') →
          (∀ a' w', Then X C N ρ s s' a' w' → Q (exitOf x) a' w') → Code.rounds X.P b Q k a w := by
        intro k
        induction k with
        | zero => intro _ s s' x ρ a w _ h; simp [runC] at h
        | succ k ihk =>
          intro hk s s' x ρ a w hs h hQ
          simp only [runC, Option.bind_eq_some_iff, Prod.exists] at h
          obtain ⟨x1, s1, h1, h2⟩ := h
          rw [rounds_succ]
          refine ih0 k (by omega) b s s1 x1 ρ a w hs h1 _ (fun a1 w1 ht => ?_)
          obtain ⟨ρ1, g1, g2, g3⟩ := ht
          cases x1 with
          | normal => exact ihk (by omega) s1 s' x ρ1 a1 w1 g3 h2 (fun a' w' ht => hQ _ _ (ht.trans g1 g2))
          | ret => simp only [Option.some.injEq, Prod.mk.injEq] at h2; obtain ⟨rfl, rfl⟩ := h2; exact hQ _ _ ⟨ρ1, g1, g2, g3⟩
          | exit i => simp only [Option.some.injEq, Prod.mk.injEq] at h2; obtain ⟨rfl, rfl⟩ := h2; exact hQ _ _ ⟨ρ1, g1, g2, g3⟩
      exact wp_loop_rounds (fuel + 1) (key (fuel + 1) (Nat.le_refl _) s s' x ρ a w hs h hQ)
    | exit id =>
      simp only [runC, Option.some.injEq, Prod.mk.injEq] at h; obtain ⟨rfl, rfl⟩ := h
      exact wp_exit (hQ _ _ ⟨ρ, fun _ _ => rfl, Nat.le_refl _, hs⟩)
    | label l =>
      simp only [runC, Option.some.injEq, Prod.mk.injEq] at h; obtain ⟨rfl, rfl⟩ := h
      exact wp_label (hQ _ _ ⟨ρ, fun _ _ => rfl, Nat.le_refl _, hs⟩)
    | ret =>
      simp only [runC, Option.some.injEq, Prod.mk.injEq] at h; obtain ⟨rfl, rfl⟩ := h
      exact wp_ret (hQ _ _ ⟨ρ, fun _ _ => rfl, Nat.le_refl _, hs⟩)
    | _ => simp [runC] at h

end
end Go.Ab
