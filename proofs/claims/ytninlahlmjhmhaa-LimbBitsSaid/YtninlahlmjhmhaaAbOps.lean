import Derived.Test.YtninlahlmjhmhaaAbSim
import Derived.Laws.StructEq
namespace Go.Ab

section
variable {X : Cx} {C : Ctx} {ρ : Nat → Loc} {n : Nat} {e : Env} {a : Act} {w : World} {P : Program}

theorem szOf_some {t : TypeId} {n : Nat} (h : szOf P t = some n) : ∃ i, P.info? t = some i ∧ i.size = n := by
  simpa [szOf] using h
theorem run_sizeOf {t : TypeId} {n : Nat} (h : szOf P t = some n) : (sizeOf t).run P w = .ok n w := by
  obtain ⟨i, h1, h2⟩ := szOf_some h
  simp [sizeOf, typeInfo, h1, h2]
theorem run_underlying' {t : TypeId} {d : TypeDesc} (h : P.underlying t = some d) : (underlying t).run P w = .ok d w := by
  simp [underlying, h]
theorem run_isAgg {t : TypeId} {d : TypeDesc} (h : P.underlying t = some d) : (isAgg t).run P w = .ok (aggT d) w := by
  cases d <;> simp [isAgg, underlying, h, aggT]
theorem zeroOf_raw {t : TypeId} {z : Value} (h : zeroOf P t = some z) : (P.info? t).bind (·.zero) = some z := by
  simp only [zeroOf] at h
  obtain ⟨u, hu, h⟩ := Option.bind_eq_some_iff.1 h
  cases hb : (vcells u).all wfcB <;> simp only [hb, cond_true, cond_false] at h
  · cases h
  · injection h with h; subst h; exact hu
theorem run_zeroValue {t : TypeId} {z : Value} (h : zeroOf P t = some z) : (zeroValue t).run P w = .ok z w := by
  replace h := zeroOf_raw h
  cases hi : P.info? t with
  | none => simp [hi] at h
  | some i => simp [hi] at h; simp [zeroValue, typeInfo, hi, h]

theorem evo_sound (he : ERel ρ n e a.tmps) {x : Operand} {v : Value} (h : evo e x = some v) : TRel ρ n v (a.eval x) := by
  cases x with
  | tmp t =>
    obtain ⟨v', h1, h2⟩ := he t v h
    simpa [Act.eval, h1] using h2
  | const c =>
    simp only [evo] at h
    cases hp : plainV c
    · simp [hp] at h
    · cases hb : (vcells c).all wfcB
      · simp only [hp, hb, Bool.true_and, cond_false] at h; cases h
      · simp only [hp, hb, Bool.true_and, cond_true, Option.some.injEq] at h
        subst h
        exact .plain (plainT_of_V hp)
  | global g =>
    simp only [evo] at h; cases h
    exact ⟨by simp, rfl⟩
  | func f => simp only [evo] at h; cases h; exact rfl

theorem part_sound {t : TypeId} {cs : List Value} {cs' : Array Value} {off : Nat} {v : Value} (h : apart P t cs off = some v) (r : LRel (CRel ρ n) cs cs'.toList) :
    ∃ v', (part t cs' off).run P w = .ok v' w ∧ VRel ρ n v v' := by
  unfold apart at h
  split at h
  · rename_i d k hd hk
    split at h
    · rename_i hagg
      cases hb : Nat.ble (off + k) cs.length <;> simp [hb] at h
      subst h
      refine ⟨.agg (cs'.extract off (off + k)), ?_, cs'.extract off (off + k), rfl, ?_⟩
      · simp [part, run_isAgg hd, hagg, run_sizeOf hk]
      · have := (r.drop off).take k
        simpa [Array.toList_extract, List.extract_eq_take_drop] using this
    · rename_i hagg
      obtain ⟨v', h1, h2⟩ := r.2 off v h
      have h3 : cs'[off]? = some v' := by simpa using h1
      exact ⟨v', by simp [part, run_isAgg hd, hagg, h3], .of_C h2⟩
  · cases h

theorem TRel.V {v v' : Value} (h : TRel ρ n v v') (hv : ∀ vs, v ≠ .tuple vs) : VRel ρ n v v' := by
  cases v with
  | tuple vs => exact absurd rfl (hv vs)
  | _ => exact h

theorem TRel.int {k : IntKind} {i : Int} {v' : Value} (h : TRel ρ n (.int k i) v') : v' = .int k i := h
theorem TRel.bool {b : Bool} {v' : Value} (h : TRel ρ n (.bool b) v') : v' = .bool b := h
theorem TRel.str {s : ByteArray} {v' : Value} (h : TRel ρ n (.string s) v') : v' = .string s := h
theorem TRel.agg {cs : Array Value} {v' : Value} (h : TRel ρ n (.agg cs) v') : ∃ cs', v' = .agg cs' ∧ LRel (CRel ρ n) cs.toList cs'.toList := h
theorem TRel.ptr {p : Addr} {v' : Value} (h : TRel ρ n (.pointer (some p)) v') : (p.spot = none → p.block < n) ∧ v' = .pointer (some (locA ρ p)) := h
theorem TRel.slc {p : Addr} {l c : Nat} {v' : Value} (h : TRel ρ n (.slice (some p) l c) v') : (p.spot = none → p.block < n) ∧ ∃ a' c', v' = .slice (some a') l c' ∧ capRel ρ p l c a' c' := h
theorem TRel.slcnil {l c : Nat} {v' : Value} (h : TRel ρ n (.slice none l c) v') : l = 0 ∧ c = 0 ∧ v' = .slice none l c := h

/-! equality -/
theorem forIn_list_all {α : Type} (l : List α) (w : World) (g : α → Sem (ForInStep (Option Bool × Unit))) (f : α → Option Bool)
    (hg : ∀ x ∈ l, ∀ b, f x = some b → (g x).run P w = .ok (if b then .yield (none, ()) else .done (some false, ())) w) : ∀ b, allB (l.map f) = some b →
    (forIn (m := Sem) l ((none, ()) : Option Bool × Unit) fun x _ => g x).run P w = .ok (if b then (none, ()) else (some false, ())) w := by
  induction l with
  | nil => intro b h; simp [allB] at h; subst h; simp
  | cons x l ih =>
    intro b h
    simp only [List.map_cons, allB] at h
    cases hx : f x with
    | none => simp [hx] at h
    | some b0 =>
      simp only [hx, Option.bind_some] at h
      have h0 := hg x (by simp) b0 hx
      simp only [List.forIn_cons, Sem.run_bind, h0, Result.andThen_ok]
      cases hr : allB (l.map f) with
      | none => simp [hr] at h
      | some c =>
        simp only [hr, Option.map_some, Option.some.injEq] at h
        subst h
        cases b0 with
        | false => simp
        | true =>
          simp only [if_true, Bool.true_and]
          exact ih (fun y hy => hg y (by simp [hy])) c hr

theorem aeqIn_sound (d : Nat) : ∀ (dd : Nat) (t : TypeId) (x y x' y' : Value) (b : Bool), d ≤ dd → aeqIn P d t x y = some b → VRel ρ n x x' → VRel ρ n y y' → (Op.equalIn dd t x' y').run P w = .ok b w := by
  induction d with
  | zero => intro dd t x y x' y' b _ h; simp [aeqIn] at h
  | succ d ih =>
    intro dd t x y x' y' b hd h hx hy
    obtain ⟨dd, rfl⟩ : ∃ m, dd = m + 1 := ⟨dd - 1, by omega⟩
    unfold aeqIn at h
    split at h
    · rename_i ht
      have ex := TRel.bool (TRel.of_V hx); have ey := TRel.bool (TRel.of_V hy); subst ex; subst ey
      injection h with h; subst h
      exact run_equalIn_bool' w dd t _ _ ht
    · rename_i k0 k a k' b' ht
      have ex := TRel.int (TRel.of_V hx); have ey := TRel.int (TRel.of_V hy); subst ex; subst ey
      split at h
      · rename_i e; subst e; injection h with h; subst h
        exact run_equalIn_int w dd t k k0 _ _ ht
      · cases h
    · rename_i fs xs ys ht
      obtain ⟨xs', rfl, rx⟩ := TRel.agg (TRel.of_V hx)
      obtain ⟨ys', rfl, ry⟩ := TRel.agg (TRel.of_V hy)
      by_cases hst0 : P.stoodInHeld t = true
      · simp only [hst0, cond_true] at h; cases h
      have hst : P.stoodInHeld t = false := by simpa using hst0
      simp only [hst, cond_false] at h
      simp only [Op.equalIn, Sem.run_bind, run_underlying' ht, Result.andThen_ok, run_program, hst, Bool.false_eq_true, if_false]
      rw [← Array.forIn_toList]
      rw [forIn_list_all fs.toList w _ _ ?_ b h]
      · cases b <;> simp
      · intro f _ b0 hb
        by_cases hname : f.name = "_"
        · simp [hname] at hb; subst hb; simp [hname]
        · simp only [ne_eq, hname, not_false_eq_true, if_true] at hb ⊢
          cases hp : apart P f.type xs.toList f.offset with
          | none => simp [hp] at hb
          | some u =>
            simp only [hp, Option.bind_some] at hb
            cases hq : apart P f.type ys.toList f.offset with
            | none => simp [hq] at hb
            | some v =>
              simp only [hq, Option.bind_some] at hb
              obtain ⟨u', r1, v1⟩ := part_sound (w := w) hp rx
              obtain ⟨v', r2, v2⟩ := part_sound (w := w) hq ry
              have r3 := ih dd f.type u v u' v' b0 (by omega) hb v1 v2
              simp only [Sem.run_bind, r1, Result.andThen_ok, r2, r3]
              cases b0 <;> simp
    · rename_i len el xs ys ht
      obtain ⟨xs', rfl, rx⟩ := TRel.agg (TRel.of_V hx)
      obtain ⟨ys', rfl, ry⟩ := TRel.agg (TRel.of_V hy)
      cases hsz : szOf P el with
      | none => simp [hsz] at h
      | some k =>
        simp only [hsz, Option.bind_some] at h
        simp only [Op.equalIn, Sem.run_bind, run_underlying' ht, Result.andThen_ok, run_sizeOf hsz]
        rw [Std.Legacy.Range.forIn_eq_forIn_range']
        simp only [Std.Legacy.Range.size, Nat.sub_zero, Nat.add_sub_cancel, Nat.div_one]
        rw [forIn_list_all (List.range' 0 len) w _ _ ?_ b h]
        · cases b <;> simp
        · intro i _ b0 hb
          cases hp : apart P el xs.toList (i * k) with
          | none => simp [hp] at hb
          | some u =>
            simp only [hp, Option.bind_some] at hb
            cases hq : apart P el ys.toList (i * k) with
            | none => simp [hq] at hb
            | some v =>
              simp only [hq, Option.bind_some] at hb
              obtain ⟨u', r1, v1⟩ := part_sound (w := w) hp rx
              obtain ⟨v', r2, v2⟩ := part_sound (w := w) hq ry
              have r3 := ih dd el u v u' v' b0 (by omega) hb v1 v2
              simp only [Sem.run_bind, r1, Result.andThen_ok, r2, r3]
              cases b0 <;> simp
    · cases h

/-- a comparison or a sum -/
theorem abin_sound {op : BinOp} {t : TypeId} {x y v x' y' : Value} {ox oy : Operand} (h : abin P op t x y = some v) (hx : TRel ρ n x x') (hy : TRel ρ n y y') :
    ∃ v', (do eqGuard op t ox oy x' y'; binOp op t x' y' : Sem Value).run P w = .ok v' w ∧ TRel ρ n v v' := by
  unfold abin at h
  split at h
  · rename_i k a0 k1 b0
    have ex := TRel.int hx; have ey := TRel.int hy; subst ex; subst ey
    refine ⟨v, ?_, ?_⟩
    · unfold ishift at h
      split at h
      · cases h
      · rename_i hb; simp only [Option.some.injEq] at h; subst h
        simp [eqGuard, binOp, Op.shift, hb]
    · unfold ishift at h
      split at h
      · cases h
      · simp only [Option.some.injEq] at h; subst h; rfl
  · rename_i k a0 k1 b0
    have ex := TRel.int hx; have ey := TRel.int hy; subst ex; subst ey
    refine ⟨v, ?_, ?_⟩
    · unfold ishift at h
      split at h
      · cases h
      · rename_i hb; simp only [Option.some.injEq] at h; subst h
        simp [eqGuard, binOp, Op.shift, hb]
    · unfold ishift at h
      split at h
      · cases h
      · simp only [Option.some.injEq] at h; subst h; rfl
  · rename_i k a0 k' b0 hne1 hne2
    have ex := TRel.int hx; have ey := TRel.int hy; subst ex; subst ey
    split at h
    · rename_i e; subst e
      cases op <;> simp only [ibin] at h <;> first
        | (simp at h; done)
        | (injection h with h; subst h; exact ⟨_, by simp [eqGuard, binOp, Op.intArith, Op.intBits, Op.intCmp], rfl⟩)
        | (by_cases hz : b0 = 0
           · rw [if_pos hz] at h; cases h
           · rw [if_neg hz] at h; injection h with h; subst h; exact ⟨_, by simp [eqGuard, binOp, Op.intDiv, hz], rfl⟩)
    · cases h
  · simp only [Option.map_eq_some_iff] at h
    obtain ⟨b, hb, rfl⟩ := h
    unfold aeq at hb
    split at hb
    · rename_i hne
      exact (hne _ _ _ _ rfl rfl).elim
    · have ex := TRel.bool hx; have ey := TRel.bool hy; subst ex; subst ey
      have := aeqIn_sound (ρ := ρ) (n := n) (w := w) 20 10000 t _ _ _ _ b (by omega) hb (VRel.plain rfl) (VRel.plain rfl)
      exact ⟨.bool b, by simp [eqGuard, binOp, Op.equal, Op.maxDepth, this], rfl⟩
    · obtain ⟨xs', rfl, rx⟩ := TRel.agg hx
      obtain ⟨ys', rfl, ry⟩ := TRel.agg hy
      cases hg : P.eqGuardType P.depth t <;> simp only [hg, cond_true, cond_false] at hb
      · have := aeqIn_sound (w := w) 20 10000 t _ _ _ _ b (by omega) hb (TRel.V hx (by simp)) (TRel.V hy (by simp))
        exact ⟨.bool b, by simp only [Sem.run_bind, run_eqGuard_agg w _ _ _ _ _ _ hg, Result.andThen_ok, run_eql_struct, this], rfl⟩
      · cases hb
    · cases hb
  · simp only [Option.map_eq_some_iff] at h
    obtain ⟨b, hb, rfl⟩ := h
    unfold aeq at hb
    split at hb
    · rename_i hne
      exact (hne _ _ _ _ rfl rfl).elim
    · have ex := TRel.bool hx; have ey := TRel.bool hy; subst ex; subst ey
      have := aeqIn_sound (ρ := ρ) (n := n) (w := w) 20 10000 t _ _ _ _ b (by omega) hb (VRel.plain rfl) (VRel.plain rfl)
      exact ⟨.bool !b, by simp [eqGuard, binOp, Op.equal, Op.maxDepth, this], rfl⟩
    · obtain ⟨xs', rfl, rx⟩ := TRel.agg hx
      obtain ⟨ys', rfl, ry⟩ := TRel.agg hy
      cases hg : P.eqGuardType P.depth t <;> simp only [hg, cond_true, cond_false] at hb
      · have := aeqIn_sound (w := w) 20 10000 t _ _ _ _ b (by omega) hb (TRel.V hx (by simp)) (TRel.V hy (by simp))
        exact ⟨.bool !b, by simp only [Sem.run_bind, run_eqGuard_agg w _ _ _ _ _ _ hg, Result.andThen_ok, run_neq_struct, this], rfl⟩
      · cases hb
    · cases hb
  · cases h


theorem aun_sound {op : UnOp} {x v x' : Value} (h : aun op x = some v) (hx : TRel ρ n x x') : (Op.unary op x').run P w = .ok v w ∧ TRel ρ n v v := by
  unfold aun at h
  split at h
  · have ex := TRel.int hx; subst ex; injection h with h; subst h; exact ⟨by simp [Op.unary, Op.intArith], rfl⟩
  · have ex := TRel.int hx; subst ex; injection h with h; subst h; exact ⟨by simp [Op.unary, Op.intBits], rfl⟩
  · have ex := TRel.bool hx; subst ex; injection h with h; subst h; exact ⟨by simp [Op.unary], rfl⟩
  · cases h

theorem aconv_sound {src dst : TypeId} {x v x' : Value} (hsrc : ∃ d, P.underlying src = some d) (h : aconv P dst x = some v) (hx : TRel ρ n x x') : (convert src dst x').run P w = .ok v w ∧ TRel ρ n v v := by
  obtain ⟨d, hd⟩ := hsrc
  unfold aconv at h
  split at h
  · rename_i hk
    have ex := TRel.int hx; subst ex; injection h with h; subst h
    refine ⟨?_, rfl⟩
    simp only [convert, Sem.run_bind, run_underlying' hd, run_underlying' hk, Result.andThen_ok, Conv.intToInt]
    rfl
  · cases h

theorem aint_sound {x x' : Value} {i : Int} (h : aint x = some i) (hx : TRel ρ n x x') : ∃ k, x' = .int k i := by
  cases x <;> simp [aint] at h
  subst h; exact ⟨_, hx⟩
theorem run_asIntOf (k : IntKind) (i : Int) : (asIntOf (.int k i)).run P w = .ok (k, i) w := rfl

theorem add_locA {p : Addr} {m : Nat} : (locA ρ p).add m = locA ρ (addA p m) := by
  unfold Addr.add locA addA
  cases p.spot <;> simp <;> split <;> simp_all <;> omega

theorem evOpt {x : Option Operand} (he : ERel ρ n e a.tmps) : ∀ v, (x.map (evo e)) = some (some v) → ∃ o v', x = some o ∧ (x.map a.eval) = some v' ∧ TRel ρ n v v' := by
  intro v h
  cases x with
  | none => cases h
  | some o => simp at h; exact ⟨o, a.eval o, rfl, rfl, evo_sound he h⟩

/-- a bound of a slice expression -/
theorem bound_sound {o : Operand} (he : ERel ρ n e a.tmps) {m i : Nat} (h : abound m (evo e o) = some i) (code : BoundsCode) :
    i ≤ m ∧ ∀ m' : Nat, m ≤ m' → (Instr.sliceBound (a.eval o) m' code).run P w = .ok i w := by
  unfold abound at h
  cases hv : evo e o with
  | none => simp [hv] at h
  | some v =>
    simp only [hv, Option.bind_some] at h
    cases hi : aint v with
    | none => simp [hi] at h
    | some k =>
      simp only [hi, Option.bind_some] at h
      split at h
      · rename_i hk
        injection h with h; subst h
        obtain ⟨kk, hk'⟩ := aint_sound hi (evo_sound he hv)
        refine ⟨by omega, fun m' hm => ?_⟩
        have hk2 : 0 ≤ k ∧ k ≤ (m' : Int) := ⟨hk.1, by omega⟩
        simp [Instr.sliceBound, hk', run_asIntOf, hk2]
      · cases h

/-- the bounds of a slice expression; 'cap'' the real capacity -/
theorem bounds_sound (he : ERel ρ n e a.tmps) {lo hi mx : Option Operand} {len cap cap' l h m : Nat} (isS : Bool)
    (hb : abounds len cap (lo.map (evo e)) (hi.map (evo e)) (mx.map (evo e)) = some (l, h, m)) (hlen : len ≤ cap) (hcap : cap ≤ cap') :
    l ≤ h ∧ h ≤ m ∧ m ≤ cap ∧ (mx = none → m = cap) ∧ (Instr.sliceBounds isS len cap' (lo.map a.eval) (hi.map a.eval) (mx.map a.eval)).run P w = .ok (l, h, if mx.isSome then m else cap') w := by
  unfold abounds at hb
  cases mx with
  | none =>
    simp only [Option.map_none, Option.bind_some] at hb
    cases hi with
    | none =>
      simp only [Option.map_none, Option.bind_some] at hb
      cases lo with
      | none =>
        simp only [Option.map_none, Option.bind_some, Option.some.injEq, Prod.mk.injEq] at hb
        obtain ⟨rfl, rfl, rfl⟩ := hb
        exact ⟨by omega, hlen, Nat.le_refl _, fun _ => rfl, by simp [Instr.sliceBounds]⟩
      | some o =>
        simp only [Option.map_some] at hb
        cases hx : abound len (evo e o) with
        | none => simp [hx] at hb
        | some i =>
          simp only [hx, Option.bind_some, Option.some.injEq, Prod.mk.injEq] at hb
          obtain ⟨rfl, rfl, rfl⟩ := hb
          obtain ⟨h1, h2⟩ := bound_sound (P := P) (w := w) he hx .sliceB
          exact ⟨h1, hlen, Nat.le_refl _, fun _ => rfl, by simp [Instr.sliceBounds, h2 len (Nat.le_refl _)]⟩
    | some oh =>
      simp only [Option.map_some] at hb
      cases hy : abound cap (evo e oh) with
      | none => simp [hy] at hb
      | some j =>
        simp only [hy, Option.bind_some] at hb
        obtain ⟨g1, g2⟩ := bound_sound (P := P) (w := w) he hy (if isS then .sliceAcap else .sliceAlen)
        cases lo with
        | none =>
          simp only [Option.map_none, Option.bind_some, Option.some.injEq, Prod.mk.injEq] at hb
          obtain ⟨rfl, rfl, rfl⟩ := hb
          exact ⟨by omega, g1, Nat.le_refl _, fun _ => rfl, by simp [Instr.sliceBounds, g2 cap' hcap]⟩
        | some o =>
          simp only [Option.map_some] at hb
          cases hx : abound j (evo e o) with
          | none => simp [hx] at hb
          | some i =>
            simp only [hx, Option.bind_some, Option.some.injEq, Prod.mk.injEq] at hb
            obtain ⟨rfl, rfl, rfl⟩ := hb
            obtain ⟨h1, h2⟩ := bound_sound (P := P) (w := w) he hx .sliceB
            exact ⟨h1, g1, Nat.le_refl _, fun _ => rfl, by simp [Instr.sliceBounds, g2 cap' hcap, h2 j (Nat.le_refl _)]⟩
  | some om =>
    simp only [Option.map_some] at hb
    cases hz : abound cap (evo e om) with
    | none => simp [hz] at hb
    | some k =>
      simp only [hz, Option.bind_some] at hb
      obtain ⟨f1, f2⟩ := bound_sound (P := P) (w := w) he hz (if isS then .slice3Acap else .slice3Alen)
      cases hi with
      | none => simp at hb
      | some oh =>
        simp only [Option.map_some] at hb
        cases hy : abound k (evo e oh) with
        | none => simp [hy] at hb
        | some j =>
          simp only [hy, Option.bind_some] at hb
          obtain ⟨g1, g2⟩ := bound_sound (P := P) (w := w) he hy .slice3B
          cases lo with
          | none =>
            simp only [Option.map_none, Option.bind_some, Option.some.injEq, Prod.mk.injEq] at hb
            obtain ⟨rfl, rfl, rfl⟩ := hb
            exact ⟨by omega, g1, f1, (fun h => by cases h), by simp [Instr.sliceBounds, f2 cap' hcap, g2 k (Nat.le_refl _)]⟩
          | some o =>
            simp only [Option.map_some] at hb
            cases hx : abound j (evo e o) with
            | none => simp [hx] at hb
            | some i =>
              simp only [hx, Option.bind_some, Option.some.injEq, Prod.mk.injEq] at hb
              obtain ⟨rfl, rfl, rfl⟩ := hb
              obtain ⟨h1, h2⟩ := bound_sound (P := P) (w := w) he hx .slice3C
              exact ⟨h1, g1, f1, (fun h => by cases h), by simp [Instr.sliceBounds, f2 cap' hcap, g2 k (Nat.le_refl _), h2 j (Nat.le_refl _)]⟩


theorem run_sliceAt_slice {t el : TypeId} {sz len c' l h m : Nat} {A : Option Addr} {LO HI MX : Option Value} (ht : P.underlying t = some (.slice el)) (hsz : szOf P el = some sz)
    (hb : (Instr.sliceBounds true len c' LO HI MX).run P w = .ok (l, h, m) w) : (Instr.sliceAt t (.slice A len c') LO HI MX).run P w = .ok (.slice (if m = l then A else A.map (·.add (l * sz))) (h - l) (m - l)) w := by
  simp only [Instr.sliceAt, Sem.run_bind, run_underlying' ht, Result.andThen_ok, Instr.slice, hb, run_sizeOf hsz, Sem.run_pure]

theorem run_sliceAt_array {t el : TypeId} {sz k l h m : Nat} {p : Addr} {LO HI MX : Option Value} (ht : P.underlying t = some (.array k el)) (hsz : szOf P el = some sz)
    (hb : (Instr.sliceBounds false k k LO HI MX).run P w = .ok (l, h, m) w) : (Instr.sliceAt t (.pointer (some p)) LO HI MX).run P w = .ok (.slice (some (if m = l then p else p.add (l * sz))) (h - l) (m - l)) w := by
  simp only [Instr.sliceAt, Sem.run_bind, run_underlying' ht, Result.andThen_ok, Instr.sureAddr, hb, run_sizeOf hsz, Sem.run_pure]

theorem locA_if {p : Addr} {l m sz : Nat} : (if m = l then locA ρ p else (locA ρ p).add (l * sz)) = locA ρ (if m = l then p else addA p (l * sz)) := by
  split
  · rfl
  · exact add_locA
theorem spot_if {p : Addr} {l m sz : Nat} : (if m = l then p else addA p (l * sz)).spot = p.spot := by split <;> rfl
theorem block_if {p : Addr} {l m sz : Nat} : (if m = l then p else addA p (l * sz)).block = p.block := by split <;> rfl

theorem aslice_sound (he : ERel ρ n e a.tmps) {t : TypeId} {x v x' : Value} {lo hi mx : Option Operand} (h : aslice P t x (lo.map (evo e)) (hi.map (evo e)) (mx.map (evo e)) = some v) (hx : TRel ρ n x x') :
    ∃ v', (Instr.sliceAt t x' (lo.map a.eval) (hi.map a.eval) (mx.map a.eval)).run P w = .ok v' w ∧ TRel ρ n v v' := by
  unfold aslice at h
  split at h
  · rename_i el sa len cap ht
    cases hsz : szOf P el with
    | none => simp [hsz] at h
    | some sz =>
      simp only [hsz, Option.bind_some] at h
      cases sa with
      | none =>
        obtain ⟨rfl, rfl, rfl⟩ := TRel.slcnil hx
        have hu : Nat.beq 0 capU = false := by decide
        have hu2 : Nat.ble 0 0 = true := by decide
        simp only [hu, hu2, cond_false, cond_true] at h
        cases hb : abounds 0 0 (lo.map (evo e)) (hi.map (evo e)) (mx.map (evo e)) with
        | none => simp [hb] at h
        | some q =>
          obtain ⟨l, hh, m⟩ := q
          simp only [hb, Option.bind_some, Option.some.injEq] at h
          obtain ⟨b1, b2, b3, b4, b5⟩ := bounds_sound (P := P) (w := w) (cap' := 0) he true hb (Nat.le_refl _) (Nat.le_refl _)
          obtain rfl : m = 0 := by omega
          obtain rfl : hh = 0 := by omega
          obtain rfl : l = 0 := by omega
          simp only [ite_self] at b5
          subst h
          refine ⟨.slice none 0 0, by rw [run_sliceAt_slice ht hsz b5]; rfl, ?_⟩
          simp [TRel, VRel, CRel]
      | some p =>
        obtain ⟨hp, a', c', rfl, hc⟩ := TRel.slc hx
        cases hu : Nat.beq cap capU with
        | true =>
          have hcap : cap = capU := by simpa using hu
          simp only [hu, cond_true] at h
          simp only [capRel, hcap, if_true] at hc
          obtain ⟨c1, c2, c3, c4⟩ := hc
          cases mx with
          | none =>
            simp only [Option.map_none] at h
            cases hb : abounds len len (lo.map (evo e)) (hi.map (evo e)) none with
            | none => simp [hb] at h
            | some q =>
              obtain ⟨l, hh, m⟩ := q
              simp only [hb, Option.bind_some, Option.some.injEq] at h
              obtain ⟨b1, b2, b3, b4, b5⟩ := bounds_sound (P := P) (w := w) (mx := none) (cap' := c') he true hb (Nat.le_refl _) c2
              subst h
              simp only [Option.isSome_none, Bool.false_eq_true, if_false] at b5
              refine ⟨_, run_sliceAt_slice ht hsz b5, ?_⟩
              have hlc : l ≤ c' := by omega
              simp only [Option.map_some, TRel, VRel, CRel]
              refine ⟨by simpa [addA] using hp, if c' = l then a' else a'.add (l * sz), c' - l, by split <;> rfl, ?_⟩
              simp only [capRel, if_true]
              refine ⟨?_, by omega, by omega, ?_⟩
              · rcases c1 with rfl | ⟨c1, c5⟩
                · split
                  · rename_i hcl
                    by_cases hz : l * sz = 0
                    · left; simp [addA, hz]
                    · right; exact ⟨by omega, by simp [addA]; omega⟩
                  · left; exact add_locA
                · right; exact ⟨by omega, by simp [addA]; omega⟩
              · intro hs h0
                simp only [addA] at hs h0 ⊢
                have := c4 hs (by omega)
                exact Nat.le_trans (Nat.mul_le_mul_right _ (by omega)) this
          | some om =>
            simp only [Option.map_some] at h
            by_cases hpos0 : Nat.blt 0 len = true
            · have hpos : 0 < len := by simpa using hpos0
              simp only [hpos0, cond_true] at h
              cases hb : abounds len len (lo.map (evo e)) (hi.map (evo e)) (some (evo e om)) with
              | none => simp [hb] at h
              | some q =>
                obtain ⟨l, hh, m⟩ := q
                simp only [hb, Option.bind_some, Option.some.injEq] at h
                obtain ⟨b1, b2, b3, b4, b5⟩ := bounds_sound (P := P) (w := w) (mx := some om) (cap' := c') he true hb (Nat.le_refl _) c2
                subst h
                simp only [Option.isSome_some, if_true] at b5
                have ea : a' = locA ρ p := by rcases c1 with h | ⟨h, _⟩; exact h; omega
                subst ea
                refine ⟨_, run_sliceAt_slice ht hsz b5, ?_⟩
                have hU : m - l ≠ capU := by unfold capU; omega
                have : (if m = l then some p else some (addA p (l * sz))) = some (if m = l then p else addA p (l * sz)) := by split <;> rfl
                simp only [this, TRel, VRel, CRel]
                refine ⟨by rw [spot_if, block_if]; exact hp, if m = l then locA ρ p else (locA ρ p).add (l * sz), m - l, ?_, ?_⟩
                · rw [show (if m = l then some (locA ρ p) else Option.map (fun x => x.add (l * sz)) (some (locA ρ p))) = some (if m = l then locA ρ p else (locA ρ p).add (l * sz)) from by split <;> rfl]
                · simp only [capRel, hU, if_false]
                  exact ⟨locA_if, trivial, by unfold capU; omega⟩
            · simp only [Bool.not_eq_true] at hpos0; simp only [hpos0, cond_false] at h; cases h
        | false =>
          have hcap : cap ≠ capU := by intro h; subst h; simp at hu
          simp only [hu, cond_false] at h
          simp only [capRel, hcap, if_false] at hc
          obtain ⟨rfl, rfl, hltU⟩ := hc
          by_cases hle0 : Nat.ble len c' = true
          · have hle : len ≤ c' := by simpa using hle0
            simp only [hle0, cond_true] at h
            cases hb : abounds len c' (lo.map (evo e)) (hi.map (evo e)) (mx.map (evo e)) with
            | none => simp [hb] at h
            | some q =>
              obtain ⟨l, hh, m⟩ := q
              simp only [hb, Option.bind_some, Option.some.injEq] at h
              obtain ⟨b1, b2, b3, b4, b5⟩ := bounds_sound (P := P) (w := w) (cap' := c') he true hb hle (Nat.le_refl _)
              have em : (if mx.isSome then m else c') = m := by cases mx <;> simp; exact (b4 rfl).symm
              rw [em] at b5
              subst h
              refine ⟨_, run_sliceAt_slice ht hsz b5, ?_⟩
              have hU : m - l ≠ capU := by omega
              have : (if m = l then some p else Option.map (fun x => addA x (l * sz)) (some p)) = some (if m = l then p else addA p (l * sz)) := by split <;> rfl
              simp only [this, TRel, VRel, CRel]
              refine ⟨by rw [spot_if, block_if]; exact hp, if m = l then locA ρ p else (locA ρ p).add (l * sz), m - l, ?_, ?_⟩
              · rw [show (if m = l then some (locA ρ p) else Option.map (fun x => x.add (l * sz)) (some (locA ρ p))) = some (if m = l then locA ρ p else (locA ρ p).add (l * sz)) from by split <;> rfl]
              · simp only [capRel, hU, if_false]
                exact ⟨locA_if, trivial, by omega⟩
          · simp only [Bool.not_eq_true] at hle0; simp only [hle0, cond_false] at h; cases h
  · rename_i k el p ht
    obtain ⟨hp, rfl⟩ := TRel.ptr hx
    cases hsz : szOf P el with
    | none => simp [hsz] at h
    | some sz =>
      simp only [hsz, Option.bind_some] at h
      by_cases hlt0 : Nat.blt k capU = true
      · have hlt : k < capU := by simpa using hlt0
        simp only [hlt0, cond_true] at h
        cases hb : abounds k k (lo.map (evo e)) (hi.map (evo e)) (mx.map (evo e)) with
        | none => simp [hb] at h
        | some q =>
          obtain ⟨l, hh, m⟩ := q
          simp only [hb, Option.bind_some, Option.some.injEq] at h
          obtain ⟨b1, b2, b3, b4, b5⟩ := bounds_sound (P := P) (w := w) (cap' := k) he false hb (Nat.le_refl _) (Nat.le_refl _)
          have em : (if mx.isSome then m else k) = m := by cases mx <;> simp; exact (b4 rfl).symm
          rw [em] at b5
          subst h
          refine ⟨_, run_sliceAt_array ht hsz b5, ?_⟩
          have hU : m - l ≠ capU := by omega
          simp only [TRel, VRel, CRel]
          refine ⟨by rw [spot_if, block_if]; exact hp, _, _, rfl, ?_⟩
          simp only [capRel, hU, if_false]
          exact ⟨locA_if, trivial, by omega⟩
      · simp only [Bool.not_eq_true] at hlt0; simp only [hlt0, cond_false] at h; cases h
  · cases h


theorem aindexAddr_sound {t : TypeId} {x i v x' i' : Value} (h : aindexAddr P t x i = some v) (hx : TRel ρ n x x') (hi : TRel ρ n i i') :
    ∃ v', (Instr.indexAt t x' i').run P w = .ok v' w ∧ TRel ρ n v v' := by
  unfold aindexAddr at h
  split at h
  · rename_i len el p k ht hk
    obtain ⟨hp, rfl⟩ := TRel.ptr hx
    obtain ⟨kk, rfl⟩ := aint_sound hk hi
    cases hsz : szOf P el with
    | none => simp [hsz] at h
    | some sz =>
      simp only [hsz, Option.bind_some] at h
      split at h
      · rename_i hr
        injection h with h; subst h
        refine ⟨.pointer (some ((locA ρ p).add (k.toNat * sz))), ?_, ?_⟩
        · simp [Instr.indexAt, run_asIntOf, run_underlying' ht, Instr.sureAddr, hr, run_sizeOf hsz]
        · exact ⟨by simpa [addA] using hp, by rw [add_locA]⟩
      · cases h
  · rename_i el p len cap k ht hk
    obtain ⟨hp, a', c', rfl, hc⟩ := TRel.slc hx
    obtain ⟨kk, rfl⟩ := aint_sound hk hi
    cases hsz : szOf P el with
    | none => simp [hsz] at h
    | some sz =>
      simp only [hsz, Option.bind_some] at h
      split at h
      · rename_i hr
        injection h with h; subst h
        have ea : a' = locA ρ p := by
          unfold capRel at hc
          split at hc
          · rcases hc.1 with h | ⟨h, _⟩
            · exact h
            · omega
          · exact hc.1
        subst ea
        refine ⟨.pointer (some ((locA ρ p).add (k.toNat * sz))), ?_, ?_⟩
        · simp [Instr.indexAt, run_asIntOf, run_underlying' ht, hr, run_sizeOf hsz]
        · exact ⟨by simpa [addA] using hp, by rw [add_locA]⟩
      · cases h
  · cases h

theorem aindex_sound {t : TypeId} {x i v x' i' : Value} (h : aindex P t x i = some v) (hx : TRel ρ n x x') (hi : TRel ρ n i i') :
    ∃ v', (Instr.index t x' i').run P w = .ok v' w ∧ TRel ρ n v v' := by
  unfold aindex at h
  split at h
  · rename_i len el cs k ht hk
    obtain ⟨cs', rfl, r⟩ := TRel.agg hx
    obtain ⟨kk, rfl⟩ := aint_sound hk hi
    cases hsz : szOf P el with
    | none => simp [hsz] at h
    | some sz =>
      simp only [hsz, Option.bind_some] at h
      split at h
      · rename_i hr
        obtain ⟨v', h1, h2⟩ := part_sound (w := w) h r
        exact ⟨v', by simp [Instr.index, run_asIntOf, run_underlying' ht, hr, run_sizeOf hsz, h1], .of_V h2⟩
      · cases h
  · rename_i s k ht hk
    have ex := TRel.str hx; subst ex
    obtain ⟨kk, rfl⟩ := aint_sound hk hi
    split at h
    · rename_i hr
      injection h with h; subst h
      have hlt : k.toNat < s.size := by omega
      refine ⟨_, ?_, rfl⟩
      have : s[k.toNat]? = some s[k.toNat] := by simp [hlt]
      simp only [Instr.index, Sem.run_bind, run_asIntOf, Result.andThen_ok, run_underlying' ht, if_pos hr.1, this, Sem.run_pure]
      congr 2
      simp only [List.getD_eq_getElem?_getD]
      have : s.data.toList[k.toNat]? = some s[k.toNat] := by
        have hl : k.toNat < s.data.toList.length := by simpa using hlt
        rw [List.getElem?_eq_getElem hl]; rfl
      rw [this]; rfl
    · cases h
  · cases h

theorem afieldAddr_sound {t : TypeId} {x v x' : Value} {f : Nat} (h : afieldAddr P t x f = some v) (hx : TRel ρ n x x') :
    ∃ v', (Instr.fieldAt t x' f).run P w = .ok v' w ∧ TRel ρ n v v' := by
  unfold afieldAddr at h
  split at h
  · rename_i fs p ht
    obtain ⟨hp, rfl⟩ := TRel.ptr hx
    cases hf : fs.toList[f]? with
    | none => simp [hf] at h
    | some fd =>
      simp only [hf, Option.bind_some] at h
      cases hsz : szOf P fd.type with
      | none => simp [hsz] at h
      | some sz =>
        simp only [hsz, Option.bind_some] at h
        split at h
        · cases h
        · rename_i hz
          injection h with h; subst h
          have hf' : fs[f]? = some fd := by simpa using hf
          refine ⟨.pointer (some ((locA ρ p).add fd.offset)), ?_, ?_⟩
          · simp [Instr.fieldAt, run_underlying' ht, hf', Instr.sureAddr, fieldPlace, run_sizeOf hsz, hz]
          · exact ⟨by simpa [addA] using hp, by rw [add_locA]⟩
  · cases h

theorem afield_sound {t : TypeId} {x v x' : Value} {f : Nat} (h : afield P t x f = some v) (hx : TRel ρ n x x') :
    ∃ v', (Instr.field t x' f).run P w = .ok v' w ∧ TRel ρ n v v' := by
  unfold afield at h
  split at h
  · rename_i fs cs ht
    obtain ⟨cs', rfl, r⟩ := TRel.agg hx
    cases hf : fs.toList[f]? with
    | none => simp [hf] at h
    | some fd =>
      simp only [hf, Option.bind_some] at h
      have hf' : fs[f]? = some fd := by simpa using hf
      obtain ⟨v', h1, h2⟩ := part_sound (w := w) h r
      exact ⟨v', by simp [Instr.field, run_underlying' ht, hf', asAgg, h1], .of_V h2⟩
  · cases h


/-! literals -/
theorem foldl_set (vs : List Value) : ∀ (k : Nat) (cells : Array Value) (off : Nat), off + k + vs.length ≤ cells.size →
    ((vs.zipIdx k).foldl (fun cs (x : Value × Nat) => cs.setIfInBounds (off + x.2) x.1) cells).toList = cells.toList.take (off + k) ++ vs ++ cells.toList.drop (off + k + vs.length) := by
  induction vs with
  | nil => intro k cells off h; simp
  | cons v rest ih =>
    intro k cells off h
    simp only [List.length_cons] at h
    simp only [List.zipIdx_cons, List.foldl_cons]
    rw [ih (k + 1) (cells.setIfInBounds (off + k) v) off (by simp; omega)]
    have e := list_seg_step cells.toList (off + k) v rest (by simp; omega)
    simpa [Array.toList_setIfInBounds, Nat.add_assoc] using e

theorem fill_step {v v' : Value} {cells : List Value} {cells' : Array Value} {off size : Nat} (hv : VRel ρ n v v') (r : LRel (CRel ρ n) cells cells'.toList) (h1 : (vcells v).length = size) (h2 : off + size ≤ cells.length) :
    v'.cells.size = size ∧ off + size ≤ cells'.size ∧ LRel (CRel ρ n) (splice cells off (vcells v)) (v'.cells.zipIdx.foldl (fun cs (x : Value × Nat) => cs.setIfInBounds (off + x.2) x.1) cells').toList := by
  have hc := hv.cells
  have e1 : v'.cells.size = size := by have := hc.1; simp at this; omega
  have e2 : cells.length = cells'.size := by simpa using r.1
  refine ⟨e1, by omega, ?_⟩
  rw [← Array.foldl_toList, Array.toList_zipIdx, foldl_set _ _ _ _ (by simp; omega), Nat.add_zero, ← splice_eq _ _ _ (by simp; omega)]
  exact r.splice off hc (by omega)

theorem fill_sound (place : Nat → Option (Nat × Nat)) : ∀ (parts parts' : List (Nat × Value)) (cells : List Value) (cells' : Array Value) (cs : List Value),
    afill place cells parts = some cs → LRel (CRel ρ n) cells cells'.toList → parts.length = parts'.length → (∀ (j i : Nat) (v : Value), parts[j]? = some (i, v) → ∃ v', parts'[j]? = some (i, v') ∧ TRel ρ n v v') →
    ∃ cs', Instr.fill place cells' parts' = some cs' ∧ LRel (CRel ρ n) cs cs'.toList := by
  intro parts
  induction parts with
  | nil =>
    intro parts' cells cells' cs h r hl _
    cases parts' with
    | nil => simp only [afill, Option.some.injEq] at h; subst h; exact ⟨cells', by simp [Instr.fill], r⟩
    | cons _ _ => simp at hl
  | cons p rest ih =>
    intro parts' cells cells' cs h r hl hp
    obtain ⟨i, v⟩ := p
    cases parts' with
    | nil => simp at hl
    | cons p' rest' =>
      obtain ⟨v', hv', hv⟩ := hp 0 i v (by simp)
      simp only [List.getElem?_cons_zero, Option.some.injEq] at hv'
      subst hv'
      simp only [afill] at h
      cases hpl : place i with
      | none => simp [hpl] at h
      | some q =>
        obtain ⟨off, size⟩ := q
        simp only [hpl, Option.bind_some] at h
        split at h
        · rename_i hh
          obtain ⟨f1, f2, f3⟩ := fill_step (hv.V (by intro vs e; subst e; simp [isTup] at hh)) r hh.2.1 hh.2.2
          obtain ⟨cs', g1, g2⟩ := ih rest' _ _ cs h f3 (by simpa using hl) (fun j i v hj => by simpa using hp (j + 1) i v (by simpa using hj))
          refine ⟨cs', ?_, g2⟩
          simp only [Instr.fill, hpl]
          rw [if_neg (by simp; omega)]
          exact g1
        · cases h

theorem evParts_sound (he : ERel ρ n e a.tmps) : ∀ (parts : List (Nat × Operand)) (ps : List (Nat × Value)), evParts e parts = some ps →
    (∀ (j i : Nat) (v : Value), ps[j]? = some (i, v) → ∃ v', (parts.map fun x => (x.1, a.eval x.2))[j]? = some (i, v') ∧ TRel ρ n v v') ∧ ps.length = parts.length := by
  intro parts
  induction parts with
  | nil => intro ps h; simp only [evParts, Option.some.injEq] at h; subst h; simp
  | cons p rest ih =>
    intro ps h
    obtain ⟨i, x⟩ := p
    simp only [evParts] at h
    cases hx : evo e x with
    | none => simp [hx] at h
    | some v =>
      simp only [hx, Option.bind_some] at h
      cases hr : evParts e rest with
      | none => simp [hr] at h
      | some l =>
        simp only [hr, Option.map_some, Option.some.injEq] at h
        subst h
        obtain ⟨h1, h2⟩ := ih l hr
        refine ⟨fun j i' v' hj => ?_, by simp [h2]⟩
        cases j with
        | zero => simp at hj; obtain ⟨rfl, rfl⟩ := hj; exact ⟨_, by simp, evo_sound he hx⟩
        | succ j => simpa using h1 j i' v' (by simpa using hj)


theorem parts_sound (he : ERel ρ n e a.tmps) {parts : Array (Nat × Operand)} {ps : List (Nat × Value)} (h : evParts e parts.toList = some ps) :
    ps.length = (parts.map fun (i, x) => (i, a.eval x)).toList.length ∧ ∀ (j i : Nat) (v : Value), ps[j]? = some (i, v) → ∃ v', (parts.map fun (i, x) => (i, a.eval x)).toList[j]? = some (i, v') ∧ TRel ρ n v v' := by
  obtain ⟨h1, h2⟩ := evParts_sound he _ _ h
  refine ⟨by simp [h2], fun j i v hj => ?_⟩
  obtain ⟨v', a1, a2⟩ := h1 j i v hj
  exact ⟨v', by simpa using a1, a2⟩

theorem abuild_sound (he : ERel ρ n e a.tmps) {t : TypeId} {parts : Array (Nat × Operand)} {ps : List (Nat × Value)} {v : Value} (hp : evParts e parts.toList = some ps) (h : abuild P t ps = some v) :
    ∃ v', (Instr.build t (parts.map fun (i, x) => (i, a.eval x))).run P w = .ok v' w ∧ TRel ρ n v v' := by
  obtain ⟨p1, p2⟩ := parts_sound he hp
  unfold abuild at h
  have hz0 : ∀ z, zeroOf P t = some z → ∃ it, P.info? t = some it ∧ it.zero = some z := by
    intro z hz
    replace hz := zeroOf_raw hz
    cases hi : P.info? t with
    | none => simp [hi] at hz
    | some it => exact ⟨it, rfl, by simpa [hi] using hz⟩
  have hzc : ∀ z, (vcells z).all plainC = true → LRel (CRel ρ n) (vcells z) z.cells.toList := by
    intro z hz
    cases z with
    | agg cs => exact .plain (by simpa [vcells] using hz)
    | _ => exact LRel.plain (l := [_]) hz
  split at h
  · rename_i fs z ht hz
    obtain ⟨it, hi, hz1⟩ := hz0 z hz
    by_cases hpl : (vcells z).all plainC = true
    · simp only [hpl, Bool.not_true, cond_false] at h
      cases hpm : fs.toList.mapM (fun f => (P.info? f.type).map fun i => (f.offset, i.size)) with
      | none => simp [hpm] at h
      | some places =>
        simp only [hpm, Option.bind_some, Option.map_eq_some_iff] at h
        obtain ⟨cs, hcs, rfl⟩ := h
        obtain ⟨cs', g1, g2⟩ := fill_sound _ _ _ _ z.cells _ hcs (hzc z hpl) p1 p2
        refine ⟨.agg cs', run_build w t _ cs' ?_, cs', rfl, g2⟩
        simp only [Program.built, hi, ht, hz1, hpm]; exact g1
    · simp only [Bool.not_eq_true] at hpl; simp only [hpl, Bool.not_false, cond_true] at h; cases h
  · rename_i len el z ht hz
    obtain ⟨it, hi, hz1⟩ := hz0 z hz
    by_cases hpl : (vcells z).all plainC = true
    · simp only [hpl, Bool.not_true, cond_false] at h
      cases hsz : szOf P el with
      | none => simp [hsz] at h
      | some sz =>
        obtain ⟨ie, hie, hies⟩ := szOf_some hsz
        simp only [hsz, Option.bind_some, Option.map_eq_some_iff] at h
        obtain ⟨cs, hcs, rfl⟩ := h
        obtain ⟨cs', g1, g2⟩ := fill_sound _ _ _ _ z.cells _ hcs (hzc z hpl) p1 p2
        refine ⟨.agg cs', run_build w t _ cs' ?_, cs', rfl, g2⟩
        simp only [Program.built, hi, ht, hz1, hie, hies]; exact g1
    · simp only [Bool.not_eq_true] at hpl; simp only [hpl, Bool.not_false, cond_true] at h; cases h
  · cases h

theorem evArgs_sound (he : ERel ρ n e a.tmps) : ∀ (xs : List Operand) (l : List Value), evArgs e xs = some l → LRel (TRel ρ n) l (xs.map a.eval) := by
  intro xs
  induction xs with
  | nil => intro l h; simp only [evArgs, Option.some.injEq] at h; subst h; exact .nil
  | cons x xs ih =>
    intro l h
    simp only [evArgs] at h
    cases hx : evo e x with
    | none => simp [hx] at h
    | some v =>
      simp only [hx, Option.bind_some] at h
      cases hr : evArgs e xs with
      | none => simp [hr] at h
      | some r =>
        simp only [hr, Option.map_some, Option.some.injEq] at h
        subst h
        exact .cons (evo_sound he hx) (ih r hr)

theorem alen_sound {t : TypeId} {x v x' : Value} (ty : TypeId) (h : alen P t x = some v) (hx : TRel ρ n x x') : ∀ ts : Array TypeId, ts[0]? = some t → (Builtin.len_ ts ty #[x']).run P w = .ok v w ∧ TRel ρ n v v := by
  intro ts hts
  unfold alen at h
  split at h
  · rename_i s ht
    have ex := TRel.str hx; subst ex
    injection h with h; subst h
    exact ⟨by simp [Builtin.len_, hts, run_underlying' ht, goInt], rfl⟩
  · rename_i k el ht
    injection h with h; subst h
    exact ⟨by simp [Builtin.len_, hts, run_underlying' ht, goInt], rfl⟩
  · rename_i el sa len cap ht
    injection h with h; subst h
    cases sa with
    | none => obtain ⟨rfl, rfl, rfl⟩ := TRel.slcnil hx; exact ⟨by simp [Builtin.len_, hts, run_underlying' ht, goInt], rfl⟩
    | some p => obtain ⟨_, a', c', rfl, _⟩ := TRel.slc hx; exact ⟨by simp [Builtin.len_, hts, run_underlying' ht, goInt], rfl⟩
  · cases h

theorem mfold_sound (f : Int → Int → Int) (g : Value → Value → Sem Value) (hg : ∀ k k' x y w, (g (.int k x) (.int k' y)).run P w = .ok (.int k (f x y)) w) : ∀ (r r' : List Value) (k : IntKind) (x : Int) (v : Value),
    r.foldl (mstep f) (some (.int k x)) = some v → LRel (TRel ρ n) r r' → (r'.foldlM g (.int k x)).run P w = .ok v w ∧ TRel ρ n v v := by
  intro r
  induction r with
  | nil =>
    intro r' k x v h l
    cases r' with
    | nil => simp at h; subst h; exact ⟨rfl, rfl⟩
    | cons _ _ => have := l.1; simp at this
  | cons y r ih =>
    intro r' k x v h l
    cases r' with
    | nil => have := l.1; simp at this
    | cons y' r' =>
      simp only [List.foldl_cons] at h
      obtain ⟨u, hu, hr⟩ := l.2 0 y (by simp)
      simp only [List.getElem?_cons_zero, Option.some.injEq] at hu
      subst hu
      have l' : LRel (TRel ρ n) r r' := ⟨by have := l.1; simpa using this, fun j v hj => by simpa using l.2 (j + 1) v (by simpa using hj)⟩
      cases y with
      | int k' b =>
        have e := TRel.int hr; subst e
        have hno : ∀ r : List Value, r.foldl (mstep f) none = none := by intro r; induction r <;> simp [mstep, *]
        by_cases hk : k = k'
        · simp only [mstep, if_pos hk] at h
          obtain ⟨h1, h2⟩ := ih r' k (f x b) v h l'
          exact ⟨by simp only [List.foldlM_cons, Sem.run_bind, hg, Result.andThen_ok, h1], h2⟩
        · simp only [mstep, if_neg hk, hno] at h
          cases h
      | _ =>
        exfalso
        simp only [mstep] at h
        have : ∀ r : List Value, r.foldl (mstep f) none = none := by intro r; induction r <;> simp [mstep, *]
        rw [this] at h; cases h


theorem target_sound (he : ERel ρ n e a.tmps) {x : Operand} {f : FuncId} (h : target e x = some f) : a.eval x = .func (.func f) #[] #[] := by
  simp only [target] at h
  split at h
  · rename_i f' hx
    injection h with h; subst h
    have := evo_sound he hx
    exact this
  · cases h

theorem execOp_builtin {o : Oper} {c : Call} {b : Builtin} (ho : o.op = .call c) (hc : c.callee = .builtin b) :
    execOp a.eval o = builtin b c.argTypes o.type (c.args.map fun | .const _ => true | _ => false) (c.args.map a.eval) := by
  unfold execOp
  simp only [ho, resolve, hc]
  rfl

theorem execOp_func {o : Oper} {c : Call} {x : Operand} {f : FuncId} (ho : o.op = .call c) (hc : c.callee = .value x) (hf : a.eval x = .func (.func f) #[] #[]) :
    execOp a.eval o = callFunc f (c.args.map a.eval) := by
  unfold execOp
  simp only [ho, resolve, hc, hf, Deferred.ofValue]
  show callFunc f (#[] ++ c.args.map a.eval ++ #[]) = _
  simp

/-- an operation that looks at no memory: a value, or a call -/
theorem pv_sound (he : ERel ρ n e a.tmps) {o : Oper} {v : Value} (h : pv X e o.op = some v) :
    (∃ v', (execOp a.eval o).run X.P w = .ok (.value v') w ∧ TRel ρ n v v') ∨
    (∃ f l l', X.orc f l = some v ∧ LRel (TRel ρ n) l l' ∧ execOp a.eval o = callFunc f ⟨l'⟩) := by
  unfold pv at h
  split at h
  · rename_i x ho
    left; exact ⟨_, by simp [execOp, ho], evo_sound he h⟩
  · rename_i x ho
    left; exact ⟨_, by simp [execOp, ho], evo_sound he h⟩
  · rename_i c x y ho
    left
    split at h
    · rename_i hc
      have := TRel.bool (evo_sound he hc)
      exact ⟨_, by simp [execOp, ho, this, asBool], evo_sound he h⟩
    · rename_i hc
      have := TRel.bool (evo_sound he hc)
      exact ⟨_, by simp [execOp, ho, this, asBool], evo_sound he h⟩
    · cases h
  · rename_i t parts ho
    left
    simp only [Option.bind_eq_some_iff] at h
    obtain ⟨ps, h1, h2⟩ := h
    obtain ⟨v', g1, g2⟩ := abuild_sound (w := w) he h1 h2
    exact ⟨v', by simp only [execOp, ho, Sem.run_bind, g1, Result.andThen_ok, Sem.run_pure], g2⟩
  · rename_i x ho
    left
    split at h
    · rename_i p hx
      injection h with h; subst h
      have hx' := evo_sound he hx
      obtain ⟨h1, h2⟩ := TRel.ptr hx'
      exact ⟨.pointer (some (locA ρ p)), by simp [execOp, ho, h2], by rw [← h2]; exact hx'⟩
    · cases h
  · rename_i op t x y ty ho
    left
    simp only [Option.bind_eq_some_iff] at h
    obtain ⟨vx, hx, vy, hy, h⟩ := h
    obtain ⟨v', g1, g2⟩ := abin_sound (w := w) (ox := x) (oy := y) h (evo_sound he hx) (evo_sound he hy)
    refine ⟨v', ?_, g2⟩
    have : execOp a.eval o = (do pure (.value (← (do eqGuard op t x y (a.eval x) (a.eval y); binOp op t (a.eval x) (a.eval y)))) : Sem Next) := by unfold execOp; simp only [ho]
    rw [this, Sem.run_bind, g1]; rfl
  · rename_i op t x ho
    left
    simp only [Option.bind_eq_some_iff] at h
    obtain ⟨vx, hx, h⟩ := h
    obtain ⟨g1, g2⟩ := aun_sound (w := w) (P := X.P) h (evo_sound he hx)
    exact ⟨v, by simp [execOp, ho, g1], g2⟩
  · rename_i src dst x ho
    left
    simp only [Option.bind_eq_some_iff] at h
    obtain ⟨d, hd, vx, hx, h⟩ := h
    obtain ⟨g1, g2⟩ := aconv_sound (w := w) (P := X.P) ⟨d, hd⟩ h (evo_sound he hx)
    exact ⟨v, by simp [execOp, ho, g1], g2⟩
  · rename_i t x lo hi mx ho
    left
    simp only [Option.bind_eq_some_iff] at h
    obtain ⟨vx, hx, h⟩ := h
    obtain ⟨v', g1, g2⟩ := aslice_sound (w := w) he h (evo_sound he hx)
    exact ⟨v', by simp only [execOp, ho, Sem.run_bind, g1, Result.andThen_ok, Sem.run_pure], g2⟩
  · rename_i t x f ho
    left
    simp only [Option.bind_eq_some_iff] at h
    obtain ⟨vx, hx, h⟩ := h
    obtain ⟨v', g1, g2⟩ := afieldAddr_sound (w := w) h (evo_sound he hx)
    exact ⟨v', by simp only [execOp, ho, Sem.run_bind, g1, Result.andThen_ok, Sem.run_pure], g2⟩
  · rename_i t x f ho
    left
    simp only [Option.bind_eq_some_iff] at h
    obtain ⟨vx, hx, h⟩ := h
    obtain ⟨v', g1, g2⟩ := afield_sound (w := w) h (evo_sound he hx)
    exact ⟨v', by simp only [execOp, ho, Sem.run_bind, g1, Result.andThen_ok, Sem.run_pure], g2⟩
  · rename_i t x i ho
    left
    simp only [Option.bind_eq_some_iff] at h
    obtain ⟨vx, hx, vi, hi, h⟩ := h
    obtain ⟨v', g1, g2⟩ := aindexAddr_sound (w := w) h (evo_sound he hx) (evo_sound he hi)
    exact ⟨v', by simp only [execOp, ho, Sem.run_bind, g1, Result.andThen_ok, Sem.run_pure], g2⟩
  · rename_i t x i ho
    left
    simp only [Option.bind_eq_some_iff] at h
    obtain ⟨vx, hx, vi, hi, h⟩ := h
    obtain ⟨v', g1, g2⟩ := aindex_sound (w := w) h (evo_sound he hx) (evo_sound he hi)
    exact ⟨v', by simp only [execOp, ho, Sem.run_bind, g1, Result.andThen_ok, Sem.run_pure], g2⟩
  · rename_i x i ho
    left
    split at h
    · rename_i vs hx
      obtain ⟨vs', e', r⟩ := (show ∃ vs', a.eval x = .tuple vs' ∧ LRel (VRel ρ n) vs.toList vs'.toList from evo_sound he hx)
      obtain ⟨v', g1, g2⟩ := r.2 i v h
      have g3 : vs'[i]? = some v' := by simpa using g1
      exact ⟨v', by simp [execOp, ho, e', Instr.extract, g3], .of_V g2⟩
    · cases h
  · rename_i c ho
    split at h
    · rename_i hc
      left
      split at h
      · rename_i t x ht hx
        simp only [Option.bind_eq_some_iff] at h
        obtain ⟨vx, hvx, h⟩ := h
        have e1 : c.args.map a.eval = #[a.eval x] := by
          apply Array.ext'; simp [hx]
        obtain ⟨g1, g2⟩ := alen_sound (w := w) o.type h (evo_sound he hvx) c.argTypes (by rw [← Array.getElem?_toList, ht]; rfl)
        refine ⟨v, ?_, g2⟩
        rw [execOp_builtin ho hc, e1]
        simp only [builtin, Sem.run_bind, g1, Result.andThen_ok, Sem.run_pure]
      · cases h
    · rename_i hc
      left
      simp only [Option.bind_eq_some_iff] at h
      obtain ⟨l, hl, h⟩ := h
      have hr := evArgs_sound he _ _ hl
      unfold amin at h
      split at h
      · rename_i k x r
        cases hm : c.args.toList.map a.eval with
        | nil => rw [hm] at hr; have := hr.1; simp at this
        | cons y' r' =>
          rw [hm] at hr
          obtain ⟨u, hu, hru⟩ := hr.2 0 (.int k x) (by simp)
          simp only [List.getElem?_cons_zero, Option.some.injEq] at hu
          subst hu
          have := TRel.int hru; subst this
          obtain ⟨g1, g2⟩ := mfold_sound (P := X.P) (w := w) _ Builtin.min2 (fun k k' x y w => rfl) r r' k x v h ⟨by have := hr.1; simpa using this, fun j v hj => by simpa using hr.2 (j + 1) v (by simpa using hj)⟩
          refine ⟨v, ?_, g2⟩
          rw [execOp_builtin ho hc]
          simp only [builtin, Builtin.min_, Array.toList_map, hm, Sem.run_bind, g1, Result.andThen_ok, Sem.run_pure]
      · cases h
    · rename_i hc
      left
      simp only [Option.bind_eq_some_iff] at h
      obtain ⟨l, hl, h⟩ := h
      have hr := evArgs_sound he _ _ hl
      unfold amax at h
      split at h
      · rename_i k x r
        cases hm : c.args.toList.map a.eval with
        | nil => rw [hm] at hr; have := hr.1; simp at this
        | cons y' r' =>
          rw [hm] at hr
          obtain ⟨u, hu, hru⟩ := hr.2 0 (.int k x) (by simp)
          simp only [List.getElem?_cons_zero, Option.some.injEq] at hu
          subst hu
          have := TRel.int hru; subst this
          obtain ⟨g1, g2⟩ := mfold_sound (P := X.P) (w := w) _ Builtin.max2 (fun k k' x y w => rfl) r r' k x v h ⟨by have := hr.1; simpa using this, fun j v hj => by simpa using hr.2 (j + 1) v (by simpa using hj)⟩
          refine ⟨v, ?_, g2⟩
          rw [execOp_builtin ho hc]
          simp only [builtin, Builtin.max_, Array.toList_map, hm, Sem.run_bind, g1, Result.andThen_ok, Sem.run_pure]
      · cases h
    · rename_i x hc
      right
      simp only [Option.bind_eq_some_iff] at h
      obtain ⟨f, hf, l, hl, h⟩ := h
      refine ⟨f, l, c.args.toList.map a.eval, h, evArgs_sound he _ _ hl, ?_⟩
      rw [execOp_func ho hc (target_sound he hf)]
      congr 1
      apply Array.ext'; simp
    · cases h
  · cases h

end
end Go.Ab
