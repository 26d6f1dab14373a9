import Derived.Test.YtninlahlmjhmhaaAbMem
namespace Go.Ab
section
variable {X : Cx} {C : Ctx} {ρ : Nat → Loc} {H : Heap} {n : Nat} {e : Env} {a : Act} {w : World}

theorem zerosN_get (z : List Value) : ∀ (m j : Nat), (zerosN z m)[j]? = if j < m * z.length then z[j % z.length]? else none := by
  intro m
  induction m with
  | zero => intro j; simp [zerosN]
  | succ m ih =>
    intro j
    simp only [zerosN]
    by_cases hj : j < z.length
    · rw [List.getElem?_append_left hj, Nat.mod_eq_of_lt hj, if_pos]
      rw [Nat.add_mul]; omega
    · rw [List.getElem?_append_right (by omega), ih, Nat.add_mul, Nat.one_mul]
      by_cases h2 : j < m * z.length + z.length
      · rw [if_pos h2, if_pos (by omega), ← Nat.mod_eq_sub_mod (a := j) (b := z.length) (by omega)]
      · rw [if_neg h2, if_neg (by omega)]
theorem zerosN_length (z : List Value) : ∀ m, (zerosN z m).length = m * z.length := by
  intro m; induction m with
  | zero => simp [zerosN]
  | succ m ih => simp [zerosN, ih, Nat.add_mul]; omega

/-- as many zeros as the model lays -/
theorem zerosN_rel {z : Value} {sz : Nat} (hsz : (vcells z).length = sz) (hpos : 0 < sz) (hpl : (vcells z).all plainC = true) (m : Nat) :
    ∀ (j : Nat) v, (zerosN (vcells z) m)[j]? = some v → ∃ v', ((Array.range (m * sz)).map (z.cells[· % z.cells.size]!))[j]? = some v' ∧ CRel ρ n v v' := by
  intro j v hj
  rw [zerosN_get] at hj
  split at hj
  · rename_i hlt
    refine ⟨v, ?_, .plain (List.all_eq_true.1 hpl v (List.mem_of_getElem? hj))⟩
    have hzs : z.cells.size = sz := by rw [vcells_size]; exact hsz
    have hzl : z.cells.toList = vcells z := by cases z <;> simp [Value.cells, vcells]
    rw [hsz] at hj hlt
    have hm : j % sz < z.cells.size := by rw [hzs]; exact Nat.mod_lt _ hpos
    have hget : z.cells[j % sz]? = some v := by rw [← Array.getElem?_toList, hzl]; exact hj
    simp only [Array.getElem?_map, hzs]
    have hr : (Array.range (m * sz))[j]? = some j := by simp [hlt]
    rw [hr]
    simp only [Option.map_some, Option.some.injEq]
    rw [getElem!_pos z.cells (j % sz) hm]
    rw [Array.getElem?_eq_getElem hm] at hget
    exact Option.some.inj hget
  · cases hj

theorem run_makeSlice {P : Program} {t el : TypeId} {l c : Int} {kl kc : IntKind} {sz by_ : Nat} {z : Value} (hu : P.underlying t = some (.slice el)) (hsz : szOf P el = some sz) (hby : bytesOf P el = some by_) (hz : zeroOf P el = some z)
    (h0 : 0 ≤ l) (h1 : l ≤ c) (h2 : c * by_ ≤ 2 ^ 47) (h3 : c < 2 ^ 63) :
    (Instr.makeSlice t (.int kl l) (.int kc c)).run P w = .ok (.slice (some ⟨w.heap.size, 0, none⟩) l.toNat c.toNat) (w.alloc (.cells ((Array.range (c.toNat * sz)).map (z.cells[· % z.cells.size]!)) el)) := by
  obtain ⟨ie, hie, hieb⟩ := bytesOf_some hby
  have hti : (typeInfo el).run P w = .ok ie w := by simp [typeInfo, hie]
  have wl : IntKind.i64.wrap l = l := by
    unfold IntKind.wrap IntKind.bits IntKind.signed; simp; omega
  have wc : IntKind.i64.wrap c = c := by
    unfold IntKind.wrap IntKind.bits IntKind.signed; simp; omega
  have big : ((by_ : Int) * c > 2 ^ 48) = False := by
    rw [Int.mul_comm]; simp; omega
  have hlt : (decide (c < 0) || decide ((by_ : Int) * c > 2 ^ 48) || decide (l < 0) || decide (l > c)) = false := by
    simp only [big, decide_false, Bool.or_false]; simp; omega
  have hnr : ∀ (cs : Array Value), (newRow el cs).run P w = .ok ⟨w.heap.size, 0, none⟩ (w.alloc (.cells cs el)) := fun _ => rfl
  have hasi : ∀ (k : IntKind) (i : Int), (asInt (.int k i)).run P w = .ok i w := fun _ _ => rfl
  simp only [Instr.makeSlice, Sem.run_bind, run_underlying' hu, Result.andThen_ok, hasi, hti, hieb, wl, wc]
  rw [if_neg (by rw [hlt]; decide)]
  simp only [Sem.run_bind, run_askRoom, Result.andThen_ok, run_sizeOf hsz]
  by_cases h0 : c.toNat * sz = 0
  · rw [if_pos h0]
    have e0 : ∀ f : Nat → Value, (Array.range 0).map f = #[] := fun f => by apply Array.ext'; simp
    simp only [Sem.run_bind, Sem.run_pure, Result.andThen_ok, hnr, h0, e0]
  · rw [if_neg h0]
    simp only [Sem.run_bind, Sem.run_pure, Result.andThen_ok, hnr, run_zeroValue hz]

theorem run_buildSlice {P : Program} {t el : TypeId} {sz len : Nat} {z : Value} {parts : Array (Nat × Value)} {cs : Array Value} (hu : P.underlying t = some (.slice el)) (hsz : szOf P el = some sz) (hz : zeroOf P el = some z) (hbig : len * sz ≤ 2 ^ 24)
    (hf : Instr.fill (fun i => some (i * sz, sz)) ((Array.range (len * sz)).map ((if len * sz = 0 then #[] else z.cells)[· % (if len * sz = 0 then #[] else z.cells).size]!)) parts.toList = some cs) :
    (Instr.buildSlice t len parts).run P w = .ok (.slice (some ⟨w.heap.size, 0, none⟩) len len) (w.alloc (.cells cs el)) := by
  have hnr : ∀ (cs : Array Value), (newRow el cs).run P w = .ok ⟨w.heap.size, 0, none⟩ (w.alloc (.cells cs el)) := fun _ => rfl
  simp only [Instr.buildSlice, Sem.run_bind, run_underlying' hu, Result.andThen_ok, run_sizeOf hsz]
  rw [if_neg (by omega)]
  by_cases h0 : len * sz = 0
  · simp only [h0, if_true] at hf ⊢
    simp only [Sem.run_bind, Sem.run_pure, Result.andThen_ok, hf, hnr]
  · simp only [h0, if_false] at hf ⊢
    simp only [Sem.run_bind, Sem.run_pure, Result.andThen_ok, run_zeroValue hz, hf, hnr]

/-- what an operation does that may look at memory: a value and a world, or a call -/
theorem av_sound {hc : HOrc} (hs : Sim X C ρ H w) (he : ERel ρ H.length e a.tmps) {o : Oper} {r : Option Value} {H' : Heap} (h : av X hc e H o.op = some (r, H')) :
    (∃ nx ρ' w', (execOp a.eval o).run X.P w = .ok nx w' ∧ (∀ i, i < H.length → ρ' i = ρ i) ∧ Sim X C ρ' H' w' ∧ H.length ≤ H'.length ∧
      ((∃ v v', nx = .value v' ∧ r = some v ∧ TRel ρ' H'.length v v') ∨ (nx = .skip ∧ r = none))) ∨
    (∃ f l l' v, hc f l H = some (v, H') ∧ r = some v ∧ LRel (TRel ρ H.length) l l' ∧ execOp a.eval o = callFunc f ⟨l'⟩) := by
  unfold av at h
  split at h
  · rename_i t x ho
    left
    simp only [Option.bind_eq_some_iff, Option.map_eq_some_iff, Prod.mk.injEq] at h
    obtain ⟨vx, hx, v, hv, rfl, rfl⟩ := h
    obtain ⟨p, hp, v', g1, g2⟩ := ald_sound hs hv (evo_sound he hx)
    refine ⟨.value v', ρ, w, ?_, fun _ _ => rfl, hs, Nat.le_refl _, .inl ⟨v, v', rfl, rfl, .of_V g2⟩⟩
    simp only [execOp, ho, hp, Instr.loadAt, Instr.sureAddr, Sem.run_bind, Sem.run_pure, Result.andThen_ok, g1]
  · rename_i t ho
    left
    simp only [Option.bind_eq_some_iff] at h
    obtain ⟨z, hz, k, hk, h⟩ := h
    cases hpl : (vcells z).all plainC with
    | false => simp [hpl] at h
    | true =>
      simp only [hpl, cond_true, Option.some.injEq, Prod.mk.injEq] at h
      obtain ⟨rfl, rfl⟩ := h
      have hzr : VRel ρ H.length z z := by
        cases z with
        | tuple vs => simp [vcells, plainC] at hpl
        | agg cs => exact ⟨cs, rfl, .plain (by simpa [vcells] using hpl)⟩
        | _ => exact VRel.plain (by simpa [vcells, plainV] using hpl)
      obtain ⟨ρ', w', g1, g2, g3, g4⟩ := newVar_sound hs (t := t) (es := k) hzr
      refine ⟨_, ρ', w', ?_, g2, g3, by simp, .inl ⟨_, _, rfl, rfl, by simpa using g4⟩⟩
      simp only [execOp, ho, Instr.alloc, Sem.run_bind, run_zeroValue hz, Result.andThen_ok, g1, Sem.run_pure]
  · rename_i t x ho
    left
    simp only [Option.bind_eq_some_iff] at h
    obtain ⟨vx, hx, k, hk, h⟩ := h
    have hnt : ∀ vs, vx ≠ .tuple vs := by rintro vs rfl; simp at h
    have h2 : some (some (.pointer (some ⟨H.length, 0, none⟩)), H ++ [some { cells := vcells vx, own := true, es := k }]) = some (r, H') := by
      cases vx <;> first | exact h | exact absurd rfl (hnt _)
    simp only [Option.some.injEq, Prod.mk.injEq] at h2
    obtain ⟨rfl, rfl⟩ := h2
    obtain ⟨ρ', w', g1, g2, g3, g4⟩ := newVar_sound hs (t := t) (es := k) ((evo_sound he hx).V hnt)
    refine ⟨_, ρ', w', ?_, g2, g3, by simp, .inl ⟨_, _, rfl, rfl, by simpa using g4⟩⟩
    simp only [execOp, ho, Instr.box, Sem.run_bind, Result.andThen_ok, g1, Sem.run_pure]
  · rename_i t x y ho
    left
    simp only [Option.bind_eq_some_iff, Option.map_eq_some_iff, Prod.mk.injEq] at h
    obtain ⟨vx, hx, vy, hy, H2, hst, rfl, rfl⟩ := h
    obtain ⟨w', g1, g2, g3⟩ := ast_sound hs hst (evo_sound he hx) (evo_sound he hy)
    refine ⟨.skip, ρ, w', ?_, fun _ _ => rfl, g2, by omega, .inr ⟨rfl, rfl⟩⟩
    simp only [execOp, ho, Sem.run_bind, g1, Result.andThen_ok, Sem.run_pure]
  · rename_i t len parts ho
    left
    split at h
    · rename_i el hu
      simp only [Option.bind_eq_some_iff] at h
      obtain ⟨sz, hsz, z, hz, ps, hps, cs, hcs, h⟩ := h
      split at h
      · rename_i hc
        obtain ⟨c1, c2, c3, c4⟩ := hc
        simp only [Option.some.injEq, Prod.mk.injEq] at h
        obtain ⟨rfl, rfl⟩ := h
        obtain ⟨p1, p2⟩ := parts_sound he hps
        have hz0 : LRel (CRel ρ H.length) (zerosN (vcells z) len) ((Array.range (len * sz)).map ((if len * sz = 0 then #[] else z.cells)[· % (if len * sz = 0 then #[] else z.cells).size]!)).toList := by
          refine ⟨by simp [zerosN_length, c3], fun j v hj => ?_⟩
          have hne : len * sz ≠ 0 := by
            have := (List.getElem?_eq_some_iff.1 hj).1
            rw [zerosN_length, c3] at this; omega
          simp only [hne, if_false]
          obtain ⟨v', a1, a2⟩ := zerosN_rel (ρ := ρ) (n := H.length) c3 c2 c4 len j v hj
          exact ⟨v', by rw [Array.getElem?_toList]; exact a1, a2⟩
        obtain ⟨cs', f1, f2⟩ := fill_sound _ _ _ _ _ _ hcs hz0 p1 p2
        have hrun := run_buildSlice (w := w) hu hsz hz c1 f1
        obtain ⟨a1, a2⟩ := f2.ahead (z := #[])
        have hsim := hs.alloc (es := sz) (t := el) (l := cs) (cs := cs') (by simpa using a1) (by simpa using a2)
        refine ⟨_, _, _, ?_, upd_lt, hsim, by simp, .inl ⟨_, .slice (some ⟨w.heap.size, 0, none⟩) len len, rfl, rfl, ?_⟩⟩
        · simp only [execOp, ho, Sem.run_bind, hrun, Result.andThen_ok, Sem.run_pure]
        · simp only [TRel, VRel, CRel]
          refine ⟨fun _ => by simp, _, _, rfl, ?_⟩
          have hlt : len < capU := by
            have : len ≤ len * sz := Nat.le_mul_of_pos_right _ c2
            unfold capU; omega
          simp only [capRel, if_neg (by omega : ¬ len = capU)]
          exact ⟨by simp [locA, upd_same], trivial, hlt⟩
      · cases h
    · cases h
  · rename_i t l c ho
    left
    split at h
    · rename_i el hu
      simp only [Option.bind_eq_some_iff] at h
      obtain ⟨sz, hsz, by_, hby, z, hz, li, ⟨lv, hlv, hli⟩, ci, ⟨cv, hcv, hci⟩, h⟩ := h
      split at h
      · rename_i hcnd
        obtain ⟨c1, c2, c3, c4, c5, c6, c7⟩ := hcnd
        simp only [Option.some.injEq, Prod.mk.injEq] at h
        obtain ⟨rfl, rfl⟩ := h
        obtain ⟨kl, el1⟩ := aint_sound hli (evo_sound he hlv)
        obtain ⟨kc, ec1⟩ := aint_sound hci (evo_sound he hcv)
        have hrun := run_makeSlice (w := w) (kl := kl) (kc := kc) hu hsz hby hz c1 c2 c3 c4
        have hsim := hs.alloc (es := sz) (t := el) (l := zerosN (vcells z) ci.toNat) (cs := (Array.range (ci.toNat * sz)).map (z.cells[· % z.cells.size]!)) (by simp [zerosN_length, c6]) (zerosN_rel c6 c5 c7 ci.toNat)
        refine ⟨_, _, _, ?_, upd_lt, hsim, by simp, .inl ⟨_, .slice (some ⟨w.heap.size, 0, none⟩) li.toNat ci.toNat, rfl, rfl, ?_⟩⟩
        · simp only [execOp, ho, Sem.run_bind, el1, ec1, hrun, Result.andThen_ok, Sem.run_pure]
        · simp only [TRel, VRel, CRel]
          refine ⟨fun _ => by simp, _, _, rfl, ?_⟩
          have hlt : ci.toNat < capU := by unfold capU; omega
          simp only [capRel, if_neg (by omega : ¬ ci.toNat = capU)]
          exact ⟨by simp [locA, upd_same], trivial, hlt⟩
      · cases h
    · cases h
  · rename_i c ho
    split at h
    · rename_i hcl
      left
      split at h
      · rename_i t t2 s x hts hxs
        split at h
        · rename_i e2 hu2
          simp only [Option.bind_eq_some_iff, Option.map_eq_some_iff, Prod.mk.injEq, Prod.exists] at h
          obtain ⟨vs, hvs, vx, hvx, v, H2, hap, rfl, rfl⟩ := h
          have e1 : c.args.map a.eval = #[a.eval s, a.eval x] := by apply Array.ext'; simp [hxs]
          obtain ⟨ρ', w', v', g1, g2, g3, g4, g5⟩ := aappend_sound hs hap (evo_sound he hvs) (evo_sound he hvx) c.argTypes o.type (by rw [← Array.getElem?_toList, hts]; rfl) (by rw [← Array.getElem?_toList, hts]; rfl) hu2 (.inl ⟨e2, rfl⟩)
          refine ⟨.value v', ρ', w', ?_, g2, g3, g4, .inl ⟨v, v', rfl, rfl, g5⟩⟩
          rw [execOp_builtin ho hcl, e1]
          simp only [builtin, Sem.run_bind, g1, Result.andThen_ok, Sem.run_pure]
        · rename_i hu2
          simp only [Option.bind_eq_some_iff, Option.map_eq_some_iff, Prod.mk.injEq, Prod.exists] at h
          obtain ⟨vs, hvs, vx, hvx, v, H2, hap, rfl, rfl⟩ := h
          have e1 : c.args.map a.eval = #[a.eval s, a.eval x] := by apply Array.ext'; simp [hxs]
          obtain ⟨ρ', w', v', g1, g2, g3, g4, g5⟩ := aappend_sound hs hap (evo_sound he hvs) (evo_sound he hvx) c.argTypes o.type (by rw [← Array.getElem?_toList, hts]; rfl) (by rw [← Array.getElem?_toList, hts]; rfl) hu2 (.inr rfl)
          refine ⟨.value v', ρ', w', ?_, g2, g3, g4, .inl ⟨v, v', rfl, rfl, g5⟩⟩
          rw [execOp_builtin ho hcl, e1]
          simp only [builtin, Sem.run_bind, g1, Result.andThen_ok, Sem.run_pure]
        · cases h
      · cases h
    · rename_i hcl
      left
      split at h
      · rename_i t ts s x hts hxs
        simp only [Option.bind_eq_some_iff, Option.map_eq_some_iff, Prod.mk.injEq, Prod.exists] at h
        obtain ⟨vs, hvs, vx, hvx, v, H2, hap, rfl, rfl⟩ := h
        have e1 : c.args.map a.eval = #[a.eval s, a.eval x] := by apply Array.ext'; simp [hxs]
        obtain ⟨w', g1, g2, g3, g4⟩ := acopy_sound hs hap (evo_sound he hvs) (evo_sound he hvx) c.argTypes o.type (by rw [← Array.getElem?_toList, hts]; rfl)
        refine ⟨.value v, ρ, w', ?_, fun _ _ => rfl, g2, by omega, .inl ⟨v, v, rfl, rfl, g4⟩⟩
        rw [execOp_builtin ho hcl, e1]
        simp only [builtin, Sem.run_bind, g1, Result.andThen_ok, Sem.run_pure]
      · cases h
    · rename_i f hcl
      right
      simp only [Option.bind_eq_some_iff, Option.map_eq_some_iff, Prod.mk.injEq, Prod.exists] at h
      obtain ⟨l, hl, v, H2, hcall, rfl, rfl⟩ := h
      refine ⟨f, l, c.args.toList.map a.eval, v, hcall, rfl, evArgs_sound he _ _ hl, ?_⟩
      rw [execOp_func ho hcl (f := f) rfl]
      congr 1
      apply Array.ext'; simp
    · cases h
  · cases h

/-- an operation, one step of the walk -/
theorem aop_sound {hc : HOrc} (horc : OrcOK X) (hhc : HOK X hc) (hs : Sim X C ρ H w) (he : ERel ρ H.length e a.tmps) {o : Oper} {r : Option Value} {H' : Heap} (h : aop X hc e H o.op = some (r, H'))
    {K : Act → World → Prop} {Q : Exit → Act → World → Prop} (hK : ∀ ρ' w' x, (∀ i, i < H.length → ρ' i = ρ i) → H.length ≤ H'.length → Sim X C ρ' H' w' → (∀ v, r = some v → TRel ρ' H'.length v x) → K (a.put o.dst x) w') :
    o.wp X.P a w K Q := by
  unfold aop at h
  cases hp : isPure X.pf o.op with
  | true =>
    simp only [hp, cond_true, Option.map_eq_some_iff, Prod.mk.injEq] at h
    obtain ⟨v, hv, rfl, rfl⟩ := h
    rcases pv_sound (w := w) he hv with ⟨v', g1, g2⟩ | ⟨f, l, l', g1, g2, g3⟩
    · unfold Oper.wp
      rw [g1]
      exact hK ρ w v' (fun _ _ => rfl) (Nat.le_refl _) hs (fun u hu => by cases hu; exact g2)
    · obtain ⟨c1, c2, ⟨⟨fn, c3, c4, c5⟩, c6⟩ | c6⟩ := horc f l v g1
      · have el : l' = l := LRel.eq_of (fun u hu u' r => TRel.plain_eq (List.all_eq_true.1 c1 u hu) r) g2
        unfold Oper.wp
        rw [g3, run_callFunc c3 c4 c5, el]
        refine (c6 w hs.globOK).mono fun en w' ⟨e1, e2⟩ => ?_
        subst e1
        exact hK ρ w' v (fun _ _ => rfl) (Nat.le_refl _) (hs.below e2) (fun u hu => by cases hu; exact .plain c2)
      · have el : l' = l := LRel.eq_of (fun u hu u' r => TRel.plain_eq (List.all_eq_true.1 c1 u hu) r) g2
        unfold Oper.wp
        rw [g3, el, c6 w]
        exact hK ρ w v (fun _ _ => rfl) (Nat.le_refl _) hs (fun u hu => by cases hu; exact .plain c2)
  | false =>
    simp only [hp, cond_false] at h
    rcases av_sound hs he h with ⟨nx, ρ', w', g1, g2, g3, g4, g5⟩ | ⟨f, l, l', v, g1, g2, g3, g4⟩
    · unfold Oper.wp
      rw [g1]
      rcases g5 with ⟨v, v', rfl, rfl, g6⟩ | ⟨rfl, rfl⟩
      · exact hK ρ' w' v' g2 g4 g3 (fun u hu => by cases hu; exact g6)
      · exact hK ρ' w' undef g2 g4 g3 (fun u hu => by cases hu)
    · obtain ⟨⟨fn, c3, c4, c5⟩, c6⟩ := hhc f l H v H' g1
      unfold Oper.wp
      rw [g4, run_callFunc c3 c4 c5]
      refine (c6 C ρ w l' g3 hs).mono fun en w' ⟨v', ρ', e1, e2, e3, e4, e5⟩ => ?_
      subst e1
      exact hK ρ' w' v' e3 e4 e5 (fun u hu => by rw [g2] at hu; cases hu; exact e2)

end
end Go.Ab
