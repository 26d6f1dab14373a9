import Derived.Test.YtninlahlmjhmhaaTyOp
import Derived.Test.YtninlahlmjhmhaaAbSound
namespace Go.Ty
open Go.Ab (fitsN TRel LRel Sim)

/-! ## An operation looks at what it touches, and at nothing else -/
def ov (W : List Nat) (A B : Heap) : Heap := fun b => if b ∈ W then A b else B b
theorem exec_frame : ∀ {a : HAct} {H : Heap} {r : Res}, exec a H = some r → (∀ b, b ∉ r.written → r.heap b = H b) ∧ ∀ b ∈ r.written, b ∈ r.touched := by
  intro a
  induction a with
  | fail => intro H r h; cases h
  | ret v => intro H r h; simp only [exec, Option.some.injEq] at h; subst h; exact ⟨fun _ _ => rfl, fun b hb => by simp at hb⟩
  | dem b k ih => intro H r h; simp only [exec, Option.map_eq_some_iff] at h; obtain ⟨r', g, rfl⟩ := h; exact ih (r := r') g
  | pre p k ih => intro H r h; simp only [exec, Option.map_eq_some_iff] at h; obtain ⟨r', g, rfl⟩ := h; exact ih (r := r') g
  | look b k ih =>
    intro H r h
    simp only [exec] at h
    split at h
    · simp only [Option.map_eq_some_iff] at h
      obtain ⟨r', g, rfl⟩ := h
      obtain ⟨h1, h2⟩ := ih _ g
      exact ⟨h1, fun c hc => List.mem_cons_of_mem _ (h2 c hc)⟩
    · cases h
  | put b x k ih =>
    intro H r h
    simp only [exec] at h
    split at h
    · simp only [Option.map_eq_some_iff] at h
      obtain ⟨r', g, rfl⟩ := h
      obtain ⟨h1, h2⟩ := ih g
      refine ⟨fun c hc => ?_, fun c hc => ?_⟩
      · simp only [List.mem_cons, not_or] at hc
        rw [h1 c hc.2, put_at, if_neg hc.1]
      · rcases List.mem_cons.1 hc with rfl | hc
        · exact List.mem_cons_self
        · exact List.mem_cons_of_mem _ (h2 c hc)
    · cases h
  | kill b k ih =>
    intro H r h
    simp only [exec] at h
    split at h
    · simp only [Option.map_eq_some_iff] at h
      obtain ⟨r', g, rfl⟩ := h
      obtain ⟨h1, h2⟩ := ih g
      refine ⟨fun c hc => ?_, fun c hc => ?_⟩
      · simp only [List.mem_cons, not_or] at hc
        rw [h1 c hc.2, put_at, if_neg hc.1]
      · rcases List.mem_cons.1 hc with rfl | hc
        · exact List.mem_cons_self
        · exact List.mem_cons_of_mem _ (h2 c hc)
    · cases h
  | new b x k ih =>
    intro H r h
    simp only [exec] at h
    split at h
    · simp only [Option.map_eq_some_iff] at h
      obtain ⟨r', g, rfl⟩ := h
      obtain ⟨h1, h2⟩ := ih g
      refine ⟨fun c hc => ?_, fun c hc => ?_⟩
      · simp only [List.mem_cons, not_or] at hc
        rw [h1 c hc.2, put_at, if_neg hc.1]
      · rcases List.mem_cons.1 hc with rfl | hc
        · exact List.mem_cons_self
        · exact List.mem_cons_of_mem _ (h2 c hc)
    · cases h

theorem ov_cons {b : Nat} {x : Slot} {W : List Nat} {A H H' : Heap} (hA : b ∉ W → A b = x) : ov W A (H'.put b x) = ov (b :: W) A H' := by
  funext c
  unfold ov
  by_cases h : c ∈ W
  · simp [h]
  · by_cases e : c = b
    · subst e; simp only [h, if_false, List.mem_cons_self, if_true, put_at]; exact (hA h).symm
    · simp [h, e, put_at]

theorem exec_local : ∀ {a : HAct} {H H' : Heap} {r : Res}, exec a H = some r → (∀ b ∈ r.touched, H' b = H b) → exec a H' = some { r with heap := ov r.written r.heap H' } := by
  intro a
  induction a with
  | fail => intro H H' r h _; cases h
  | ret v =>
    intro H H' r h _
    simp only [exec, Option.some.injEq] at h; subst h
    simp only [exec, Option.some.injEq, Res.mk.injEq, true_and, and_true]
    funext c; simp [ov]
  | dem b k ih => intro H H' r h ht; simp only [exec, Option.map_eq_some_iff] at h; obtain ⟨r', g, rfl⟩ := h; simp only [exec, ih g ht, Option.map_some]
  | pre p k ih => intro H H' r h ht; simp only [exec, Option.map_eq_some_iff] at h; obtain ⟨r', g, rfl⟩ := h; simp only [exec, ih g ht, Option.map_some]
  | look b k ih =>
    intro H H' r h ht
    simp only [exec] at h
    split at h
    · rename_i x hx
      simp only [Option.map_eq_some_iff] at h
      obtain ⟨r', g, rfl⟩ := h
      have hb : H' b = .live x := by rw [ht b (by simp), hx]
      simp only [exec, hb, ih _ g (fun c hc => ht c (by simp [hc])), Option.map_some]
    · cases h
  | put b x k ih =>
    intro H H' r h ht
    simp only [exec] at h
    split at h
    · rename_i y hx
      simp only [Option.map_eq_some_iff] at h
      obtain ⟨r', g, rfl⟩ := h
      have hb : H' b = .live y := by rw [ht b (by simp), hx]
      have := ih (H' := H'.put b (.live x)) g (fun c hc => by
        rw [put_at, put_at]
        by_cases e : c = b
        · simp [e]
        · simp only [if_neg e]; exact ht c (by simp [hc]))
      simp only [exec, hb, this, Option.map_some]
      rw [ov_cons (H := H) (fun hn => by rw [(exec_frame g).1 b hn, put_at, if_pos rfl])]
    · cases h
  | kill b k ih =>
    intro H H' r h ht
    simp only [exec] at h
    split at h
    · rename_i y hx
      simp only [Option.map_eq_some_iff] at h
      obtain ⟨r', g, rfl⟩ := h
      have hb : H' b = .live y := by rw [ht b (by simp), hx]
      have := ih (H' := H'.put b .dead) g (fun c hc => by
        rw [put_at, put_at]
        by_cases e : c = b
        · simp [e]
        · simp only [if_neg e]; exact ht c (by simp [hc]))
      simp only [exec, hb, this, Option.map_some]
      rw [ov_cons (H := H) (fun hn => by rw [(exec_frame g).1 b hn, put_at, if_pos rfl])]
    · cases h
  | new b x k ih =>
    intro H H' r h ht
    simp only [exec] at h
    split at h
    · rename_i hx
      simp only [Option.map_eq_some_iff] at h
      obtain ⟨r', g, rfl⟩ := h
      have hb : H' b = .fresh := by rw [ht b (by simp), hx]
      have := ih (H' := H'.put b (.live x)) g (fun c hc => by
        rw [put_at, put_at]
        by_cases e : c = b
        · simp [e]
        · simp only [if_neg e]; exact ht c (by simp [hc]))
      simp only [exec, hb, this, Option.map_some]
      rw [ov_cons (H := H) (fun hn => by rw [(exec_frame g).1 b hn, put_at, if_pos rfl])]
    · cases h

theorem disj_spec {a b : List Nat} (h : disj a b = true) : ∀ x ∈ a, x ∉ b := by
  intro x hx
  unfold disj at h
  rw [List.all_eq_true] at h
  have := h x hx
  simpa using this

/-- two, in the other order -/
theorem exec_swap {a b : HAct} {H : Heap} {ra rb : Res} (ha : exec a H = some ra) (hb : exec b ra.heap = some rb) (hd : apartF (ra.touched, ra.written) (rb.touched, rb.written) = true) :
    ∃ Hm, exec b H = some { rb with heap := Hm } ∧ exec a Hm = some { ra with heap := rb.heap } := by
  unfold apartF at hd
  simp only [Bool.and_eq_true] at hd
  have d1 := disj_spec hd.1
  have d2 := disj_spec hd.2
  obtain ⟨fa1, fa2⟩ := exec_frame ha
  obtain ⟨fb1, fb2⟩ := exec_frame hb
  have g1 := exec_local (H' := H) hb (fun c hc => (fa1 c (fun hw => d1 c hw hc)).symm)
  refine ⟨_, g1, ?_⟩
  have g2 := exec_local (H' := ov rb.written rb.heap H) ha (fun c hc => by
    unfold ov
    rw [if_neg (fun hw => d2 c hw hc)])
  rw [g2]
  congr 2
  funext c
  unfold ov
  by_cases h1 : c ∈ ra.written
  · rw [if_pos h1, fb1 c (fun hw => d2 c hw (fa2 c h1))]
  · rw [if_neg h1]
    by_cases h2 : c ∈ rb.written
    · rw [if_pos h2]
    · rw [if_neg h2, fb1 c h2, fa1 c h1]

/-! ## An operation hangs on its operands -/
section
variable {X : Cx} {e e' : Env}
theorem partsA_congr : ∀ (ps : List (Nat × Operand)), (∀ x ∈ ps.map (·.2), ev X e x = ev X e' x) → partsA X e ps = partsA X e' ps
  | [], _ => rfl
  | (i, x) :: ps, h => by
    have h1 : evA X e x = evA X e' x := by unfold evA; rw [h x (by simp)]
    simp only [partsA, h1, partsA_congr ps (fun y hy => h y (by simp at hy ⊢; exact .inr hy))]
theorem evL_congr : ∀ (xs : List Operand), (∀ x ∈ xs, ev X e x = ev X e' x) → evL X e xs = evL X e' xs
  | [], _ => rfl
  | x :: xs, h => by simp only [evL, h x (by simp), evL_congr xs (fun y hy => h y (by simp [hy]))]
theorem mapM_congr : ∀ (xs : List Operand), (∀ x ∈ xs, ev X e x = ev X e' x) → xs.mapM (evA X e) = xs.mapM (evA X e')
  | [], _ => rfl
  | x :: xs, h => by
    have h1 : evA X e x = evA X e' x := by unfold evA; rw [h x (by simp)]
    simp only [List.mapM_cons, h1, mapM_congr xs (fun y hy => h y (by simp [hy]))]
theorem opA_congr {nid : Nat} {op : Op} (h : ∀ x ∈ op.operands, ev X e x = ev X e' x) : opA X e nid op = opA X e' nid op := by
  have hA : ∀ x ∈ op.operands, evA X e x = evA X e' x := fun x hx => by unfold evA; rw [h x hx]
  cases op <;> simp only [Op.operands] at h hA <;> simp only [opA]
  case build t ps => rw [partsA_congr ps.toList fun x hx => h x (by simpa using hx)]
  case buildSlice t n ps => simp only [partsA_congr ps.toList fun x hx => h x (by simpa using hx)]
  case slice t x lo hi mx => cases lo <;> cases hi <;> cases mx <;> simp_all
  case makeSlice t l c => rw [hA l (by simp), hA c (by simp)]
  case call c =>
    cases hcl : c.callee with
    | builtin b =>
      have ha : ∀ x ∈ c.args.toList, ev X e x = ev X e' x := fun x hx => h x (by simp [Call.operands, hcl]; simpa using hx)
      have hb : ∀ x ∈ c.args.toList, evA X e x = evA X e' x := fun x hx => by unfold evA; rw [ha x hx]
      cases b <;> simp only
      case len =>
        split
        · rename_i t x h1 h2; rw [hb x (by rw [h2]; simp)]
        · rfl
      case min => rw [mapM_congr _ ha]
      case max => rw [mapM_congr _ ha]
      case append =>
        split
        · rename_i t t2 s x h1 h2
          rw [hb s (by rw [h2]; simp), hb x (by rw [h2]; simp)]
        · rfl
      case copy =>
        split
        · rename_i t ts s x h1 h2
          rw [hb s (by rw [h2]; simp), hb x (by rw [h2]; simp)]
        · rfl
    | value f =>
      simp only
      have ha : ∀ x ∈ c.args.toList, ev X e x = ev X e' x := fun x hx => h x (by simp [Call.operands, hcl]; right; simpa using hx)
      have hf : evA X e f = evA X e' f := hA f (by simp [Call.operands, hcl])
      rw [evL_congr _ ha, hf]
    | invoke _ _ => rfl
  all_goals (first | rfl | (simp_all; done))

theorem ev_putS {d : Option Tmp} {v : Option SV} {x : Operand} (h : ∀ t, d = some t → x ≠ .tmp t) : ev X (putS e d v) x = ev X e x := by
  cases d with
  | none => rfl
  | some t =>
    cases x with
    | tmp k =>
      have hne : k ≠ t := fun he => h t rfl (he ▸ rfl)
      have : Nat.beq k t = false := by cases hb : Nat.beq k t with | false => rfl | true => exact absurd (Nat.eq_of_beq_eq_true hb) hne
      simp [ev, putS, Env.set, this]
    | _ => rfl
theorem putS_comm {d d' : Option Tmp} {v v' : Option SV} (h : ∀ t, d = some t → d' ≠ some t) : putS (putS e d v) d' v' = putS (putS e d' v') d v := by
  cases d with
  | none => rfl
  | some t =>
    cases d' with
    | none => rfl
    | some t' =>
      have hne : t' ≠ t := fun he => h t rfl (he ▸ rfl)
      funext k
      simp only [putS, Env.set]
      by_cases h1 : k = t <;> by_cases h2 : k = t'
      · exact absurd (h2.symm.trans h1) hne
      · have : Nat.beq k t' = false := by cases hb : Nat.beq k t' with | false => rfl | true => exact absurd (Nat.eq_of_beq_eq_true hb) h2
        simp [this]
      · have : Nat.beq k t = false := by cases hb : Nat.beq k t with | false => rfl | true => exact absurd (Nat.eq_of_beq_eq_true hb) h1
        simp [this]
      · have a1 : Nat.beq k t = false := by cases hb : Nat.beq k t with | false => rfl | true => exact absurd (Nat.eq_of_beq_eq_true hb) h1
        have a2 : Nat.beq k t' = false := by cases hb : Nat.beq k t' with | false => rfl | true => exact absurd (Nat.eq_of_beq_eq_true hb) h2
        simp [a1, a2]
theorem Env.set_self {k : Nat} {v : Option SV} (h : e k = v) : e.set k v = e := by
  funext j
  unfold Env.set
  cases hb : Nat.beq j k with
  | true => have := Nat.eq_of_beq_eq_true hb; subst this; simp [h]
  | false => rfl
end

/-! ## A step -/
section
variable (X : Cx) (ops : Array Oper) (N base : Nat)
def wanted2 (e : Env) (o : Oper) : Option Bool :=
  match o.guard with
  | none => some true
  | some (g, want) => match gslot ops g with
    | none => none
    | some d => match e d with
      | some (.av (.val .bool b)) => some (b == want)
      | some (.tup []) => some false
      | _ => none
def StepS (j : Nat) (o : Oper) (s s' : St) (f : FP) : Prop :=
  fitsN N o.dst = true ∧ ((wanted2 ops s.env o = some true ∧ ∃ r, exec (opA X s.env (base + 8 * j) o.op) s.heap = some r ∧ r.dem ∧ s' = ⟨putS s.env o.dst r.val, r.heap, s.next⟩ ∧ f = (r.touched, r.written)) ∨
    (wanted2 ops s.env o = some false ∧ s' = ⟨putS s.env o.dst (some skipV), s.heap, s.next⟩ ∧ f = ([], [])))
def RunIx (fp : Nat → FP) : List Nat → St → St → Prop
  | [], s, s' => s = s'
  | i :: r, s, s' => ∃ o s1, ops[i]? = some o ∧ StepS X ops N base i o s s1 (fp i) ∧ RunIx fp r s1 s'
end
section
variable {X : Cx} {ops : Array Oper} {N base : Nat}
theorem looks_op {o : Oper} {d : Option Tmp} {v : Option SV} {e : Env} (h : ∀ t, d = some t → t ∉ o.looksAt ops) : (∀ nid, opA X (putS e d v) nid o.op = opA X e nid o.op) ∧ wanted2 ops (putS e d v) o = wanted2 ops e o := by
  refine ⟨fun nid => opA_congr fun x hx => ev_putS fun t ht hxt => h t ht (by
    subst hxt
    exact List.mem_append_left _ (List.mem_filterMap.2 ⟨.tmp t, by simpa using hx, rfl⟩)), ?_⟩
  unfold wanted2
  cases hg : o.guard with
  | none => rfl
  | some gw =>
    obtain ⟨g, want⟩ := gw
    simp only
    cases ht : gslot ops g with
    | none => rfl
    | some t =>
      simp only
      have : putS e d v t = e t := by
        have := ev_putS (X := X) (e := e) (d := d) (v := v) (x := .tmp t) (fun t' ht' he => h t' ht' (by
          have ht : (ops[g]?).bind (·.dst) = some t := ht
          cases he; simp [Oper.looksAt, hg, ht]))
        simpa [ev] using this
      rw [this]
theorem StepS.swap {i j : Nat} {x y : Oper} {s s1 s2 : St} {f g : FP} (h1 : StepS X ops N base i x s s1 f) (h2 : StepS X ops N base j y s1 s2 g) (ha : x.apart ops y = true) (hd : apartF f g = true) :
    ∃ s1', StepS X ops N base j y s s1' g ∧ StepS X ops N base i x s1' s2 f := by
  obtain ⟨p1, p2, p3⟩ := Oper.apart_spec ha
  obtain ⟨fx, h1⟩ := h1
  obtain ⟨fy, h2⟩ := h2
  have ly : ∀ v, (∀ nid, opA X (putS s.env x.dst v) nid y.op = opA X s.env nid y.op) ∧ wanted2 ops (putS s.env x.dst v) y = wanted2 ops s.env y := fun v => looks_op p1
  have lx : ∀ v, (∀ nid, opA X (putS s.env y.dst v) nid x.op = opA X s.env nid x.op) ∧ wanted2 ops (putS s.env y.dst v) x = wanted2 ops s.env x := fun v => looks_op p3
  rcases h1 with ⟨w1, r1, e1, d1, rfl, rfl⟩ | ⟨w1, rfl, rfl⟩ <;> rcases h2 with ⟨w2, r2, e2, d2, rfl, rfl⟩ | ⟨w2, rfl, rfl⟩
  · simp only at e2 w2 ⊢
    rw [(ly _).1] at e2
    rw [(ly _).2] at w2
    obtain ⟨Hm, g1, g2⟩ := exec_swap e1 e2 hd
    refine ⟨⟨putS s.env y.dst r2.val, Hm, s.next⟩, ⟨fy, .inl ⟨w2, _, g1, d2, rfl, rfl⟩⟩, ⟨fx, .inl ⟨by rw [(lx _).2]; exact w1, { r1 with heap := r2.heap }, by rw [(lx _).1]; exact g2, d1, ?_, rfl⟩⟩⟩
    rw [putS_comm p2]
  · simp only at w2 ⊢
    rw [(ly _).2] at w2
    refine ⟨⟨putS s.env y.dst (some skipV), s.heap, s.next⟩, ⟨fy, .inr ⟨w2, rfl, rfl⟩⟩, ⟨fx, .inl ⟨by rw [(lx _).2]; exact w1, r1, by rw [(lx _).1]; exact e1, d1, ?_, rfl⟩⟩⟩
    rw [putS_comm p2]
  · simp only at e2 w2 ⊢
    rw [(ly _).1] at e2
    rw [(ly _).2] at w2
    refine ⟨⟨putS s.env y.dst r2.val, r2.heap, s.next⟩, ⟨fy, .inl ⟨w2, r2, e2, d2, rfl, rfl⟩⟩, ⟨fx, .inr ⟨by rw [(lx _).2]; exact w1, ?_, rfl⟩⟩⟩
    rw [putS_comm p2]
  · simp only at w2 ⊢
    rw [(ly _).2] at w2
    refine ⟨⟨putS s.env y.dst (some skipV), s.heap, s.next⟩, ⟨fy, .inr ⟨w2, rfl, rfl⟩⟩, ⟨fx, .inr ⟨by rw [(lx _).2]; exact w1, ?_, rfl⟩⟩⟩
    rw [putS_comm p2]

/-- may y be done ahead of x? -/
def Free (ops : Array Oper) (fp : Nat → FP) (i j : Nat) : Prop := ∀ x y, ops[i]? = some x → ops[j]? = some y → x.apart ops y = true ∧ apartF (fp i) (fp j) = true
theorem RunIx.bubble {fp : Nat → FP} {i : Nat} : ∀ (pre post : List Nat) {s sf : St}, (∀ x ∈ pre, Free ops fp x i) → RunIx X ops N base fp (pre ++ i :: post) s sf → RunIx X ops N base fp (i :: (pre ++ post)) s sf
  | [], post, s, sf, _, h => h
  | x :: pre, post, s, sf, hp, h => by
    obtain ⟨ox, s1, hox, h1, h2⟩ := h
    have h3 := RunIx.bubble pre post (fun y hy => hp y (by simp [hy])) h2
    obtain ⟨oi, s2, hoi, h4, h5⟩ := h3
    obtain ⟨f1, f2⟩ := hp x (by simp) ox oi hox hoi
    obtain ⟨s1', g1, g2⟩ := h1.swap h4 f1 f2
    exact ⟨oi, s1', hoi, g1, ox, s2, hox, g2, h5⟩

theorem execK_sound : ∀ {a : HAct} {H : Heap} {K : Option SV → Heap → List Nat → List Nat → Prop}, execK a H K → ∃ r, exec a H = some r ∧ r.dem ∧ K r.val r.heap r.touched r.written := by
  intro a
  induction a with
  | fail => intro H K h; cases h
  | ret v => intro H K h; exact ⟨_, rfl, trivial, h⟩
  | dem b k ih =>
    intro H K h
    cases b with
    | false => cases h
    | true => obtain ⟨r, g1, g2, g3⟩ := ih h; exact ⟨{ r with dem := true = true ∧ r.dem }, by simp only [exec, g1, Option.map_some], ⟨rfl, g2⟩, g3⟩
  | pre p k ih => intro H K h; obtain ⟨r, g1, g2, g3⟩ := ih h.2; exact ⟨{ r with dem := p ∧ r.dem }, by simp only [exec, g1, Option.map_some], ⟨h.1, g2⟩, g3⟩
  | look b k ih =>
    intro H K h
    simp only [execK] at h
    split at h
    · rename_i x hx
      obtain ⟨r, g1, g2, g3⟩ := ih _ h
      exact ⟨{ r with touched := b :: r.touched }, by simp only [exec, hx, g1, Option.map_some], g2, g3⟩
    · cases h
  | put b x k ih =>
    intro H K h
    simp only [execK] at h
    split at h
    · rename_i y hx
      obtain ⟨r, g1, g2, g3⟩ := ih h
      exact ⟨{ r with touched := b :: r.touched, written := b :: r.written }, by simp only [exec, hx, g1, Option.map_some], g2, g3⟩
    · cases h
  | kill b k ih =>
    intro H K h
    simp only [execK] at h
    split at h
    · rename_i y hx
      obtain ⟨r, g1, g2, g3⟩ := ih h
      exact ⟨{ r with touched := b :: r.touched, written := b :: r.written }, by simp only [exec, hx, g1, Option.map_some], g2, g3⟩
    · cases h
  | new b x k ih =>
    intro H K h
    simp only [execK] at h
    split at h
    · rename_i hx
      obtain ⟨r, g1, g2, g3⟩ := ih h
      exact ⟨{ r with touched := b :: r.touched, written := b :: r.written }, by simp only [exec, hx, g1, Option.map_some], g2, g3⟩
    · cases h

theorem regK_sound {K : St → List FP → Prop} : ∀ (l : List Oper) (j : Nat) (s : St) (f : List FP), f.length = j → (∀ k o, l[k]? = some o → ops[j + k]? = some o) → regK X ops N base K l j s f →
    ∃ s' f', K s' (f ++ f') ∧ f'.length = l.length ∧ ∀ fp : Nat → FP, (∀ k x, (f ++ f')[k]? = some x → fp k = x) → RunIx X ops N base fp (List.range' j l.length) s s' := by
  intro l
  induction l with
  | nil => intro j s f hf _ h; exact ⟨s, [], by rw [List.append_nil]; exact h, rfl, fun _ _ => rfl⟩
  | cons o l ih =>
    intro j s f hf hl h
    have ho : ops[j]? = some o := by simpa using hl 0 o rfl
    have hl' : ∀ k o, l[k]? = some o → ops[j + 1 + k]? = some o := fun k o' hk => by
      have := hl (k + 1) o' (by simpa using hk)
      rw [Nat.add_assoc, Nat.add_comm 1 k]; exact this
    unfold regK at h
    cases hfit : fitsN N o.dst with
    | false => rw [hfit] at h; cases h
    | true =>
      rw [hfit] at h
      have h : (match o.guard with
        | none => _
        | some (g, want) => _) := h
      -- a step, then the rest
      have go : ∀ (s1 : St) (x : FP), StepS X ops N base j o s s1 x → regK X ops N base K l (j + 1) s1 (f ++ [x]) → ∃ s' f', K s' (f ++ f') ∧ f'.length = (o :: l).length ∧ ∀ fp : Nat → FP, (∀ k x, (f ++ f')[k]? = some x → fp k = x) → RunIx X ops N base fp (List.range' j (o :: l).length) s s' := by
        intro s1 x hst hr
        obtain ⟨s', f', k1, k2, k3⟩ := ih (j + 1) s1 (f ++ [x]) (by simp [hf]) hl' hr
        refine ⟨s', x :: f', by simpa using k1, by simp [k2], fun fp hfp => ?_⟩
        have hfj : fp j = x := hfp j x (by rw [List.getElem?_append_right (by omega), hf]; simp)
        simp only [List.length_cons, List.range'_succ]
        refine ⟨o, s1, ho, by rw [hfj]; exact hst, k3 fp (fun k x' hx' => hfp k x' (by simpa using hx'))⟩
      split at h
      · rename_i hg
        obtain ⟨r, g1, g2, g3⟩ := execK_sound h
        exact go _ _ ⟨hfit, .inl ⟨by unfold wanted2; rw [hg], r, g1, g2, rfl, rfl⟩⟩ g3
      · rename_i g want hg
        split at h
        · cases h
        · rename_i d hd
          split at h
          · rename_i hv
            exact go _ _ ⟨hfit, .inr ⟨by unfold wanted2; rw [hg]; simp only [hd, hv], rfl, rfl⟩⟩ h
          · rename_i b hv
            have hset : ∀ c, b = c → s.env.set d (some (boolV c)) = s.env := fun c hc => Env.set_self (by rw [hv, hc]; rfl)
            cases b with
            | true =>
              have h : (bif want then _ else _) := h
              rw [hset true rfl] at h
              cases want with
              | true =>
                obtain ⟨r, g1, g2, g3⟩ := execK_sound h
                exact go _ _ ⟨hfit, .inl ⟨by unfold wanted2; rw [hg]; simp only [hd, hv]; rfl, r, g1, g2, rfl, rfl⟩⟩ g3
              | false => exact go _ _ ⟨hfit, .inr ⟨by unfold wanted2; rw [hg]; simp only [hd, hv]; rfl, rfl, rfl⟩⟩ h
            | false =>
              have h : (bif want then _ else _) := h
              rw [hset false rfl] at h
              cases want with
              | false =>
                obtain ⟨r, g1, g2, g3⟩ := execK_sound h
                exact go _ _ ⟨hfit, .inl ⟨by unfold wanted2; rw [hg]; simp only [hd, hv]; rfl, r, g1, g2, rfl, rfl⟩⟩ g3
              | true => exact go _ _ ⟨hfit, .inr ⟨by unfold wanted2; rw [hg]; simp only [hd, hv]; rfl, rfl, rfl⟩⟩ h
          · cases h

theorem pairs_spec {ps : List (Nat × Nat)} (h : pairs ops = some ps) : (∀ j o, ops[j]? = some o → ∀ e ∈ o.after, Region.binds .any e = true → e.on < j) ∧
    ∀ i j x y, i < j → ops[i]? = some x → ops[j]? = some y → ((Region.before ops).getD j 0).testBit i = true ∨ ((i, j) ∈ ps ∧ x.apart ops y = true) := by
  unfold pairs at h
  have mem : ∀ j o, ops[j]? = some o → (o, j) ∈ ops.toList.zipIdx := by
    intro j o ho
    rw [List.mk_mem_zipIdx_iff_getElem?]; simpa using ho
  cases hf : (ops.toList.zipIdx.all fun (y, j) => y.after.toList.all (fun e => !Region.binds .any e || Nat.blt e.on j)) with
  | false => simp only [hf, cond_false] at h; cases h
  | true =>
    simp only [hf, cond_true] at h
    cases hp : (ops.toList.zipIdx.flatMap fun (y, j) => (ops.toList.zipIdx.filter fun (_, i) => Nat.blt i j && !((Region.before ops).getD j 0).testBit i).map fun (x, i) => (x, i, y, j)).all fun (x, _, y, _) => x.apart ops y with
    | false => rw [hp] at h; cases h
    | true =>
      rw [hp] at h
      simp only [cond_true, Option.some.injEq] at h
      subst h
      refine ⟨fun j o ho e he hb => ?_, fun i j x y hij hx hy => ?_⟩
      · rw [List.all_eq_true] at hf
        have := hf (o, j) (mem j o ho)
        simp only [List.all_eq_true] at this
        have := this e (by simpa using he)
        simpa [hb] using this
      · cases hbit : ((Region.before ops).getD j 0).testBit i with
        | true => exact .inl rfl
        | false =>
          right
          have hm : (x, i, y, j) ∈ (ops.toList.zipIdx.flatMap fun (y, j) => (ops.toList.zipIdx.filter fun (_, i) => Nat.blt i j && !((Region.before ops).getD j 0).testBit i).map fun (x, i) => (x, i, y, j)) := by
            refine List.mem_flatMap.2 ⟨(y, j), mem j y hy, ?_⟩
            refine List.mem_map.2 ⟨(x, i), List.mem_filter.2 ⟨mem i x hx, ?_⟩, rfl⟩
            simp only [hbit, Bool.not_false, Bool.and_true]
            simpa using hij
          refine ⟨List.mem_map.2 ⟨_, hm, rfl⟩, ?_⟩
          rw [List.all_eq_true] at hp
          exact hp _ hm
/-- what may be done in either order, by what was touched -/
theorem freeOk_spec {f : List FP} (h : freeOk ops f = true) {fp : Nat → FP} (hfp : ∀ k x, f[k]? = some x → fp k = x) : (∀ j o, ops[j]? = some o → ∀ e ∈ o.after, Region.binds .any e = true → e.on < j) ∧
    ∀ i j, i < j → i < ops.size → j < ops.size → ((Region.before ops).getD j 0).testBit i = true ∨ Free ops fp i j := by
  unfold freeOk at h
  split at h
  · rename_i ps hps
    obtain ⟨h1, h2⟩ := pairs_spec hps
    refine ⟨h1, fun i j hij hi hj => ?_⟩
    rcases h2 i j ops[i] ops[j] hij (by simp [hi]) (by simp [hj]) with hb | ⟨hb, ha⟩
    · exact .inl hb
    · right
      intro x y hx hy
      rw [List.all_eq_true] at h
      have := h _ hb
      simp only at this
      split at this
      · rename_i a b ha' hb'
        rw [hfp _ _ ha', hfp _ _ hb']
        have ex : x = ops[i] := by simpa [hi] using hx.symm
        have ey : y = ops[j] := by simpa [hj] using hy.symm
        subst ex; subst ey
        exact ⟨ha, this⟩
      · cases this
  · cases h
end
end Go.Ty
