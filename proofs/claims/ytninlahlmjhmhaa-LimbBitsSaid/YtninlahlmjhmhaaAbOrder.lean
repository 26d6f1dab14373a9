import Derived.Test.YtninlahlmjhmhaaAbStep
namespace Go.Ab
section
variable {X : Cx} {hc : HOrc} {ops : Array Oper} {N : Nat} {e e' : Env} {H : Heap}

theorem evParts_congr : ∀ (ps : List (Nat × Operand)), (∀ x ∈ ps.map (·.2), evo e x = evo e' x) → evParts e ps = evParts e' ps := by
  intro ps
  induction ps with
  | nil => intro _; rfl
  | cons p ps ih =>
    intro h
    obtain ⟨i, x⟩ := p
    simp only [evParts, h x (by simp), ih (fun y hy => h y (by simp at hy ⊢; exact .inr hy))]
theorem evArgs_congr : ∀ (xs : List Operand), (∀ x ∈ xs, evo e x = evo e' x) → evArgs e xs = evArgs e' xs := by
  intro xs
  induction xs with
  | nil => intro _; rfl
  | cons x xs ih =>
    intro h
    simp only [evArgs, h x (by simp), ih (fun y hy => h y (by simp [hy]))]

theorem pv_congr {op : Op} (h : ∀ x ∈ op.operands, evo e x = evo e' x) : pv X e op = pv X e' op := by
  cases op <;> simp only [Op.operands] at h <;> simp only [pv]
  case build t ps => rw [evParts_congr ps.toList fun x hx => h x (by simpa using hx)]
  case slice t x lo hi mx => cases lo <;> cases hi <;> cases mx <;> simp_all
  case call c =>
    cases hc : c.callee with
    | builtin b =>
      have ha : ∀ x ∈ c.args.toList, evo e x = evo e' x := fun x hx => h x (by simp [Call.operands, hc]; simpa using hx)
      cases b <;> simp only
      case len =>
        split
        · rename_i t x h1 h2; rw [ha x (by rw [h2]; simp)]
        · rfl
      case min => rw [evArgs_congr _ ha]
      case max => rw [evArgs_congr _ ha]
    | value f =>
      simp only
      have ha : ∀ x ∈ c.args.toList, evo e x = evo e' x := fun x hx => h x (by simp [Call.operands, hc]; right; simpa using hx)
      have hf : evo e f = evo e' f := h f (by simp [Call.operands, hc])
      rw [evArgs_congr _ ha]
      simp only [target, hf]
    | invoke _ _ => rfl
  all_goals (first | rfl | (simp_all; done))

theorem av_congr {op : Op} (h : ∀ x ∈ op.operands, evo e x = evo e' x) : av X hc e H op = av X hc e' H op := by
  cases op <;> simp only [Op.operands] at h <;> simp only [av]
  case buildSlice t n ps => simp only [evParts_congr ps.toList fun x hx => h x (by simpa using hx)]
  case call c =>
    cases hcl : c.callee with
    | builtin b =>
      have ha : ∀ x ∈ c.args.toList, evo e x = evo e' x := fun x hx => h x (by simp [Call.operands, hcl]; simpa using hx)
      cases b <;> simp only
      case append =>
        split
        · rename_i t t2 s x h1 h2
          rw [ha s (by rw [h2]; simp), ha x (by rw [h2]; simp)]
        · rfl
      case copy =>
        split
        · rename_i t ts s x h1 h2
          rw [ha s (by rw [h2]; simp), ha x (by rw [h2]; simp)]
        · rfl
    | value f =>
      cases f <;> simp only
      have ha : ∀ x ∈ c.args.toList, evo e x = evo e' x := fun x hx => h x (by simp [Call.operands, hcl]; right; simpa using hx)
      rw [evArgs_congr _ ha]
    | invoke _ _ => rfl
  all_goals (first | rfl | (simp_all; done))

theorem evo_putS {d : Option Tmp} {v : Option Value} {x : Operand} (h : ∀ t, d = some t → x ≠ .tmp t) : evo (putS e d v) x = evo e x := by
  cases d with
  | none => rfl
  | some t =>
    cases x with
    | tmp k =>
      have hne : k ≠ t := fun he => h t rfl (he ▸ rfl)
      have : Nat.beq k t = false := by cases hb : Nat.beq k t with | false => rfl | true => exact absurd (Nat.eq_of_beq_eq_true hb) hne
      simp [evo, putS, Env.set, this]
    | _ => rfl

theorem act1_congr {o : Oper} {d : Option Tmp} {v : Option Value} (h : ∀ t, d = some t → t ∉ o.looksAt ops) : act1 X hc ops N (putS e d v) H o = act1 X hc ops N e H o := by
  have hop : ∀ x ∈ o.op.operands, evo (putS e d v) x = evo e x := fun x hx => evo_putS fun t ht hxt => h t ht (by
    subst hxt
    exact List.mem_append_left _ (List.mem_filterMap.2 ⟨.tmp t, by simpa using hx, rfl⟩))
  have hw : awanted (putS e d v) ops o = awanted e ops o := by
    unfold awanted
    cases hg : o.guard with
    | none => rfl
    | some gw =>
      obtain ⟨g, want⟩ := gw
      simp only
      cases ht : (ops[g]?).bind (·.dst) with
      | none => rfl
      | some t =>
        simp only
        have : putS e d v t = e t := by
          have := evo_putS (e := e) (d := d) (v := v) (x := .tmp t) (fun t' ht' he => h t' ht' (by cases he; simp [Oper.looksAt, hg, ht]))
          simpa [evo] using this
        rw [this]
  unfold act1 aop
  rw [hw, pv_congr hop, av_congr hop]

theorem putS_comm {d d' : Option Tmp} {v v' : Option Value} (h : ∀ t, d = some t → d' ≠ some t) : putS (putS e d v) d' v' = putS (putS e d' v') d v := by
  cases d with
  | none => rfl
  | some t =>
    cases d' with
    | none => rfl
    | some t' =>
      have hne : t' ≠ t := fun he => h t rfl (he ▸ rfl)
      funext k
      simp only [putS, Env.set]
      by_cases h1 : k = t <;> by_cases h2 : k = t'
      · exact absurd (h2.symm.trans h1) hne
      · have : Nat.beq k t' = false := by cases hb : Nat.beq k t' with | false => rfl | true => exact absurd (Nat.eq_of_beq_eq_true hb) h2
        simp [this]
      · have : Nat.beq k t = false := by cases hb : Nat.beq k t with | false => rfl | true => exact absurd (Nat.eq_of_beq_eq_true hb) h1
        simp [this]
      · have a1 : Nat.beq k t = false := by cases hb : Nat.beq k t with | false => rfl | true => exact absurd (Nat.eq_of_beq_eq_true hb) h1
        have a2 : Nat.beq k t' = false := by cases hb : Nat.beq k t' with | false => rfl | true => exact absurd (Nat.eq_of_beq_eq_true hb) h2
        simp [a1, a2]

theorem act1_pure {o : Oper} (hp : isPure X.pf o.op = true) {v : Option Value} {H' : Heap} (h : act1 X hc ops N e H o = some (v, H')) : H' = H ∧ ∀ H2, act1 X hc ops N e H2 o = some (v, H2) := by
  unfold act1 aop at *
  cases hf : fitsN N o.dst <;> simp only [hf, cond_true, cond_false] at h ⊢
  · cases h
  · cases hw : awanted e ops o with
    | none => simp [hw] at h
    | some b =>
      cases b with
      | false => simp only [hw, Option.some.injEq, Prod.mk.injEq] at h ⊢; obtain ⟨rfl, rfl⟩ := h; exact ⟨rfl, fun _ => by simp⟩
      | true =>
        simp only [hw, hp, cond_true, Option.map_eq_some_iff, Prod.mk.injEq] at h ⊢
        obtain ⟨u, hu, rfl, rfl⟩ := h
        exact ⟨rfl, fun H2 => ⟨u, hu, by simp⟩⟩

theorem isRead_load {op : Op} (h : isRead op = true) : ∃ t a, op = .load t a := by
  cases op <;> simp [isRead] at h
  exact ⟨_, _, rfl⟩

theorem cellsAt_snoc {a : Addr} {cs : List Value} {b : Option Blk} (h : cellsAt X H a = some cs) : cellsAt X (H ++ [b]) a = some cs := by
  unfold cellsAt at *
  split
  · rename_i hs
    simp only [hs] at h
    simp only [blkAt, Option.map_eq_some_iff, Option.bind_eq_some_iff] at h ⊢
    obtain ⟨x, ⟨y, h1, h2⟩, h3⟩ := h
    have hlt : a.block < H.length := (List.getElem?_eq_some_iff.1 h1).1
    exact ⟨x, ⟨y, by rw [List.getElem?_append_left hlt]; exact h1, h2⟩, h3⟩
  · rename_i hs; simp only [hs] at h; exact h

theorem act1_read {o : Oper} (hr : isRead o.op = true) {v : Option Value} {H' : Heap} (h : act1 X hc ops N e H o = some (v, H')) : H' = H ∧ ∀ b, act1 X hc ops N e (H ++ [b]) o = some (v, H ++ [b]) := by
  obtain ⟨t, x, ho⟩ := isRead_load hr
  unfold act1 aop at *
  cases hf : fitsN N o.dst <;> simp only [hf, cond_true, cond_false] at h ⊢
  · cases h
  · cases hw : awanted e ops o with
    | none => simp [hw] at h
    | some b =>
      cases b with
      | false => simp only [hw, Option.some.injEq, Prod.mk.injEq] at h ⊢; obtain ⟨rfl, rfl⟩ := h; exact ⟨rfl, fun _ => by simp⟩
      | true =>
        have hp : isPure X.pf (.load t x) = false := rfl
        simp only [hw, ho, hp, cond_false, av, Option.bind_eq_some_iff, Option.map_eq_some_iff, Prod.mk.injEq] at h ⊢
        obtain ⟨vx, hx, u, hu, rfl, rfl⟩ := h
        refine ⟨rfl, fun b => ⟨vx, hx, u, ?_, by simp⟩⟩
        unfold ald at hu ⊢
        split
        · rename_i p
          simp only [Option.bind_eq_some_iff] at hu ⊢
          obtain ⟨cs, h1, h2⟩ := hu
          exact ⟨cs, cellsAt_snoc h1, h2⟩
        · simp at hu

theorem act1_grow {o : Oper} (hg : isGrow o.op = true) {v : Option Value} {H' : Heap} (h : act1 X hc ops N e H o = some (v, H')) : H' = H ∨ ∃ b, H' = H ++ [b] := by
  unfold act1 at h
  cases hf : fitsN N o.dst <;> simp only [hf, cond_true, cond_false] at h
  · cases h
  · cases hw : awanted e ops o with
    | none => simp [hw] at h
    | some b =>
      cases b with
      | false => simp only [hw, Option.some.injEq, Prod.mk.injEq] at h; exact .inl h.2.symm
      | true =>
        simp only [hw] at h
        right
        cases hop : o.op <;> simp only [hop, isGrow] at hg h <;> try (cases hg; done)
        · rename_i t
          have hp : isPure X.pf (.alloc t) = false := rfl
          simp only [aop, hp, cond_false, av, Option.bind_eq_some_iff] at h
          obtain ⟨z, _, k, _, h⟩ := h
          cases hpl : (vcells z).all plainC <;> simp only [hpl, cond_true, cond_false] at h
          · cases h
          · simp only [Option.some.injEq, Prod.mk.injEq] at h; exact ⟨_, h.2.symm⟩
        · rename_i t x
          have hp : isPure X.pf (.box t x) = false := rfl
          simp only [aop, hp, cond_false, av, Option.bind_eq_some_iff] at h
          obtain ⟨vx, _, k, _, h⟩ := h
          cases vx <;> simp only [Option.some.injEq, Prod.mk.injEq] at h <;> first | (cases h; done) | exact ⟨_, h.2.symm⟩

/-- two operations in the other order -/
theorem run1_swap {x y : Oper} (hm : mayPass X.pf ops x y = true) {s s1 s2 : St} (h1 : run1 X hc ops N s x = some s1) (h2 : run1 X hc ops N s1 y = some s2) :
    ∃ s1', run1 X hc ops N s y = some s1' ∧ run1 X hc ops N s1' x = some s2 := by
  unfold mayPass at hm
  simp only [Bool.and_eq_true, Bool.or_eq_true] at hm
  obtain ⟨hap, hcl⟩ := hm
  obtain ⟨p1, p2, p3⟩ := Oper.apart_spec hap
  unfold run1 at h1 h2 ⊢
  simp only [Option.map_eq_some_iff, Prod.exists] at h1 h2 ⊢
  obtain ⟨vx, Hx, a1, rfl⟩ := h1
  obtain ⟨vy, Hy, a2, rfl⟩ := h2
  simp only at a2 ⊢
  rw [act1_congr p1] at a2
  have fin : ∀ Hm, act1 X hc ops N s.env s.heap y = some (vy, Hm) → act1 X hc ops N s.env Hm x = some (vx, Hy) →
      ∃ s1', (∃ a b, act1 X hc ops N s.env s.heap y = some (a, b) ∧ St.mk (putS s.env y.dst a) b = s1') ∧ ∃ a b, act1 X hc ops N s1'.env s1'.heap x = some (a, b) ∧ St.mk (putS s1'.env x.dst a) b = ⟨putS (putS s.env x.dst vx) y.dst vy, Hy⟩ := by
    intro Hm g1 g2
    refine ⟨_, ⟨vy, Hm, g1, rfl⟩, vx, Hy, ?_, ?_⟩
    · simp only; rw [act1_congr p3]; exact g2
    · simp only; rw [putS_comm p2]
  rcases hcl with (hpx | hpy) | ⟨hrx, hry | hgy⟩
  · obtain ⟨rfl, ax⟩ := act1_pure hpx a1
    exact fin Hy a2 (ax Hy)
  · obtain ⟨rfl, ay⟩ := act1_pure hpy a2
    exact fin s.heap (ay s.heap) a1
  · obtain ⟨rfl, _⟩ := act1_read hrx a1
    obtain ⟨rfl, _⟩ := act1_read hry a2
    exact fin _ a2 a1
  · obtain ⟨rfl, ax⟩ := act1_read hrx a1
    rcases act1_grow hgy a2 with rfl | ⟨b, rfl⟩
    · exact fin _ a2 a1
    · exact fin _ a2 (ax b)

end
end Go.Ab
