import Derived.Test.YtninlahlmjhmhaaTyOps
namespace Go.Ty
open Go.Ab (vcells plainC capU szOf zeroOf aggT apart)

/-! ## Paths, one behind the other -/
theorem subS_app : ∀ {p q : Path} {s u : Sh}, subS s p = some u → subS s (p ++ q) = subS u q
  | [], _, s, u, h => by
    have : s = u := by cases s <;> simpa [subS] using h
    rw [this]; rfl
  | st :: p, q, s, u, h => by
    cases s <;> cases st <;> simp only [subS, reduceCtorEq, List.cons_append] at h ⊢ <;> exact subS_app h
theorem offS_app : ∀ {p q : Path} {s u : Sh}, subS s p = some u → offS s (p ++ q) = offS s p + offS u q
  | [], _, s, u, h => by
    have : s = u := by cases s <;> simpa [subS] using h
    rw [this, show offS u [] = 0 by cases u <;> rfl]; simp
  | st :: p, q, s, u, h => by
    cases s <;> cases st <;> simp only [subS, reduceCtorEq] at h
    · simp only [List.cons_append, offS]; exact offS_app h
    · simp only [List.cons_append, offS]; rw [offS_app h, Nat.add_assoc]
    · simp only [List.cons_append, offS]; rw [offS_app h, Nat.add_assoc]
theorem inP_app : ∀ {p q : Path} {s u : Sh}, subS s p = some u → inP s p → inP u q → inP s (p ++ q)
  | [], _, s, u, h, _, k => by
    have : s = u := by cases s <;> simpa [subS] using h
    rw [this]; exact k
  | st :: p, q, s, u, h, hi, k => by
    cases s <;> cases st <;> simp only [subS, reduceCtorEq] at h
    · exact inP_app (p := p) h hi k
    · exact inP_app (p := p) h hi k
    · exact ⟨hi.1, inP_app (p := p) h hi.2 k⟩
theorem subL_app {p q : Path} {r : Lay} {u : Sh} (h : subL r p = some u) : subL r (p ++ q) = subS u q := by
  cases r with
  | one s => exact subS_app h
  | row s =>
    cases p with
    | nil => simp [subL] at h
    | cons st p => cases st <;> simp only [subL, reduceCtorEq] at h; exact subS_app h
theorem offL_app {p q : Path} {r : Lay} {u : Sh} (h : subL r p = some u) : offL r (p ++ q) = offL r p + offS u q := by
  cases r with
  | one s => exact offS_app h
  | row s =>
    cases p with
    | nil => simp [subL] at h
    | cons st p =>
      cases st <;> simp only [subL, reduceCtorEq] at h
      simp only [List.cons_append, offL]; rw [offS_app h, Nat.add_assoc]
theorem inL_app {ln : Nat} {p q : Path} {r : Lay} {u : Sh} (h : subL r p = some u) (hi : inL ln r p) (k : inP u q) : inL ln r (p ++ q) := by
  cases r with
  | one s => exact inP_app h hi k
  | row s =>
    cases p with
    | nil => simp [subL] at h
    | cons st p =>
      cases st <;> simp only [subL, reduceCtorEq] at h
      exact ⟨hi.1, inP_app h hi.2 k⟩
theorem okSub_eq {r : Lay} {p : Path} {s : Sh} (h : okSub r p s = true) : subL r p = some s := by
  unfold okSub at h
  split at h
  · rename_i u hu; rw [hu, Sh.eq_of_beq h]
  · cases h
theorem inP_nil (s : Sh) : inP s [] := by cases s <;> trivial
theorem inP_field : ∀ {f : Nat} {s u : Sh}, subS s (fieldP f) = some u → inP s (fieldP f)
  | 0, s, u, h => by cases s <;> simp [fieldP, subS] at h; exact inP_nil _
  | n + 1, s, u, h => by
    cases s <;> simp [fieldP, subS] at h
    exact inP_field (f := n) h
theorem offS_nil (s : Sh) : offS s [] = 0 := by cases s <;> rfl
theorem subS_nil (s : Sh) : subS s [] = some s := by cases s <;> rfl

section
variable {X : Cx} {M : Lk} {H H' : Heap} {e : Env} {e1 : Ab.Env} {v : Option SV}

theorem VR.as {a : AV} {u : Value} {s : Sh} {y : s.T} (h : VR (gl1 X) M a u) (ha : a.as s = some y) : VR (gl1 X) M (.val s y) u := by
  obtain ⟨t, cs, h1, h2⟩ := h
  refine ⟨s, cs, ⟨rfl, h1.as ha⟩, ?_⟩
  rw [h2, h1.agg_of (AV.as_conf ha)]

/-- what a pure operation comes to -/
def PureOk (X : Cx) (M : Lk) (H : Heap) (v : Option SV) (H' : Heap) (o : Option Value) : Prop := H' = H ∧ ∃ u v1, v = some u ∧ o = some v1 ∧ SVR (gl1 X) M u v1
theorem PureOk.av {u : AV} {v1 : Value} {o : Option Value} (ho : o = some v1) (h : VR (gl1 X) M u v1) (hv : v = some (.av u)) (hH : H' = H) : PureOk X M H v H' o := ⟨hH, _, v1, hv, ho, h⟩

theorem PureOk.to {u : AV} {v1 : Value} {o : Option Value} (h : VR (gl1 X) M u v1) (ho : o = some v1) : PureOk X M H (some (.av u)) H o := ⟨rfl, _, v1, rfl, ho, h⟩
theorem VR.mkptr {b i : Nat} {r : Lay} {p : Path} {u : Value} (h1 : M.mu b = some i) (h2 : inL (M.ln b) r p) (h3 : u = .pointer (some ⟨i, offL r p, none⟩)) : VR (gl1 X) M (.cell (.ptr b r p)) u := .mkcell ⟨i, h1, h2, h3⟩
theorem VR.mkfptr {s : Sh} {x : s.T} {a : Addr} {ds : List Value} (h1 : Row (gl1 X) M.H1 a ds) (h2 : Cells (gl1 X) M.H1 s x ds) : VR (gl1 X) M (.cell (.fptr s x)) (.pointer (some a)) := .mkcell ⟨a, ds, rfl, h1, h2⟩
theorem binN_sound {op : BinOp} {t : TypeId} {k j : IntKind} {x : IT k} {y : IT j} (h : Ex (binN op k x j y) H v H') : PureOk X M H v H' (Ab.abin X.P op t (.int k (toI k x)) (.int j (toI j y))) := by
  have notsh : ∀ {op : BinOp} {y' : IT k}, op ≠ .shl → op ≠ .shr → toI j y = toI k y' → j = k → Ab.abin X.P op t (.int k (toI k x)) (.int j (toI j y)) = Ab.ibin op k (toI k x) (toI k y') := by
    intro op y' h1 h2 h3 h4
    subst h4
    unfold Ab.abin
    cases op <;> simp_all
  have arith : ∀ {op : BinOp}, op ≠ .shl → op ≠ .shr → (∀ y' : IT k, op = .quo ∨ op = .rem → toI j y = toI k y' → tnz k y' = true) → ∀ {y' z}, castTo (.int j) (.int k) y = some y' → tar op k x y' = some z → v = some (.av (.val (.int k) z)) → H' = H →
      PureOk X M H v H' (Ab.abin X.P op t (.int k (toI k x)) (.int j (toI j y))) := by
    intro op h1 h2 h3 y' z hc hz hv hH
    obtain ⟨c1, c2⟩ := castI hc
    exact .av (by rw [notsh h1 h2 c2 c1, tar_sound hz (fun ho => h3 y' ho c2)]) .ofint hv hH
  unfold binN at h
  split at h
  · simp only [Ex_dem, Ex_ofO, Ex_pure] at h
    obtain ⟨h1, z, h2, h3, h4⟩ := h
    refine .av (v1 := .int k (toI k z)) ?_ .ofint h3 h4
    have := tsh_sound h2
    rw [tcnt_eq h1] at this
    exact this
  · simp only [Ex_dem, Ex_ofO, Ex_pure] at h
    obtain ⟨h1, z, h2, h3, h4⟩ := h
    refine .av (v1 := .int k (toI k z)) ?_ .ofint h3 h4
    have := tsh_sound h2
    rw [tcnt_eq h1] at this
    exact this
  · simp only [Ex_dem, Ex_ofO, Ex_pure] at h
    obtain ⟨y', hc, h1, z, h2, h3, h4⟩ := h
    exact arith (by simp) (by simp) (fun y2 _ e2 => by have := (castI hc).2; rw [this] at e2; rw [← toI_inj e2]; exact h1) hc h2 h3 h4
  · simp only [Ex_dem, Ex_ofO, Ex_pure] at h
    obtain ⟨y', hc, h1, z, h2, h3, h4⟩ := h
    exact arith (by simp) (by simp) (fun y2 _ e2 => by have := (castI hc).2; rw [this] at e2; rw [← toI_inj e2]; exact h1) hc h2 h3 h4
  iterate 6
    · simp only [Ex_ofO, Ex_pure] at h
      obtain ⟨y', hc, b, h2, h3, h4⟩ := h
      obtain ⟨c1, c2⟩ := castI hc
      exact .av (by rw [notsh (by simp) (by simp) c2 c1, tcm_sound h2]) .ofbool h3 h4
  · rename_i n1 n2 n3 n4 n5 n6 n7 n8 n9 n10
    simp only [Ex_ofO, Ex_pure] at h
    obtain ⟨y', hc, z, h2, h3, h4⟩ := h
    exact arith (fun e => n1 e) (fun e => n2 e) (fun _ ho => (ho.elim (fun e => (n3 e).elim) (fun e => (n4 e).elim))) hc h2 h3 h4

theorem cmpA_sound (hX : XOK X) {neg : Bool} {t : TypeId} {s : Sh} {x : s.T} {y : AV} {u w : Value} (h : Ex (cmpA X neg t s x y) H v H') (hx : VR (gl1 X) M (.val s x) u) (hy : VR (gl1 X) M y w) :
    PureOk X M H v H' (Ab.abin X.P (bif neg then .neq else .eql) t u w) := by
  unfold cmpA at h
  simp only [Ex_ofO, Ex_bif, Ex_pure, Ex_fail, and_false, or_false, Bool.and_eq_true, Nat.blt_eq] at h
  obtain ⟨s', hs, ⟨h1, h2, h0, h3, h4, h5⟩, y', hy', hv, hH⟩ := h
  have h1 := Sh.eq_of_beq h1
  subst h1
  obtain ⟨cx, hcx, rfl⟩ := hx.val
  obtain ⟨cy, hcy, rfl⟩ := (hy.as hy').val
  have key := (aeqIn_both (X := X) (M := M) s').1 t 20 x y' cx cy (by omega) (hX.sh t s' hs) h4 h2 hcx hcy
  have fin : Ab.aeq X.P t (mkV s'.isAgg cx) (mkV s'.isAgg cy) = some (teq s' x y') → (∀ k n, mkV s'.isAgg cx ≠ .int k n) → PureOk X M H v H' (Ab.abin X.P (bif neg then .neq else .eql) t (mkV s'.isAgg cx) (mkV s'.isAgg cy)) := by
    intro ha hn
    refine .av (v1 := .bool (bif neg then !teq s' x y' else teq s' x y')) ?_ .ofbool hv hH
    cases neg with
    | true =>
      show Ab.abin X.P .neq t _ _ = _
      unfold Ab.abin
      split <;> first | (rename_i h1 _; exact absurd h1 (hn _ _)) | (simp_all; done) | skip
      all_goals simp_all
    | false =>
      show Ab.abin X.P .eql t _ _ = _
      unfold Ab.abin
      split <;> first | (rename_i h1 _; exact absurd h1 (hn _ _)) | (simp_all; done) | skip
      all_goals simp_all
  cases s' with
  | int k => simp [Sh.isNum] at h0
  | bool =>
    have hcx : cx = [.bool x] := hcx
    have hcy : cy = [.bool y'] := hcy
    subst hcx; subst hcy
    exact fin key (by simp [mkV, Sh.isAgg])
  | pair a b =>
    simp only [Sh.isAgg, Bool.true_and, Bool.not_eq_true'] at h3
    refine fin ?_ (by simp [mkV, Sh.isAgg])
    show (bif X.P.eqGuardType X.P.depth t then none else Ab.aeqIn X.P 20 t _ _) = _
    rw [h3]; exact key
  | arr n s =>
    simp only [Sh.isAgg, Bool.true_and, Bool.not_eq_true'] at h3
    refine fin ?_ (by simp [mkV, Sh.isAgg])
    show (bif X.P.eqGuardType X.P.depth t then none else Ab.aeqIn X.P 20 t _ _) = _
    rw [h3]; exact key
  | unit => simp [eqChk] at h4
  | _ => simp [Sh.cmp] at h2

theorem binA_sound (hX : XOK X) {op : BinOp} {t : TypeId} {x y : AV} {u w : Value} (h : Ex (binA X op t x y) H v H') (hx : VR (gl1 X) M x u) (hy : VR (gl1 X) M y w) : PureOk X M H v H' (Ab.abin X.P op t u w) := by
  unfold binA at h
  split at h
  · have hx := hx.int; have hy := hy.int; subst hx; subst hy
    exact binN_sound h
  · split at h
    · exact cmpA_sound hX h hx hy
    · exact cmpA_sound hX h hx hy
    · simp at h
  · simp at h

theorem unA_sound {op : UnOp} {x : AV} {u : Value} (h : Ex (unA op x) H v H') (hx : VR (gl1 X) M x u) : PureOk X M H v H' (Ab.aun op u) := by
  unfold unA at h
  split at h
  · have hx := hx.int; subst hx
    rw [Ex_pure] at h
    exact .av tneg_sound .ofint h.1 h.2
  · have hx := hx.int; subst hx
    rw [Ex_pure] at h
    exact .av tnot_sound .ofint h.1 h.2
  · have hx := hx.bool; subst hx
    rw [Ex_pure] at h
    exact .av rfl .ofbool h.1 h.2
  · simp at h

theorem convA_sound (hX : XOK X) {t : TypeId} {x : AV} {u : Value} (h : Ex (convA X t x) H v H') (hx : VR (gl1 X) M x u) : PureOk X M H v H' (Ab.aconv X.P t u) := by
  unfold convA at h
  split at h
  · rename_i k j x hs
    have hx := hx.int; subst hx
    rw [Ex_pure] at h
    refine .av (v1 := .int k (toI k (tto j x k))) ?_ .ofint h.1 h.2
    unfold Ab.aconv
    rw [shChk_int (hX.sh _ _ hs)]
    simp only [tto_sound]
  · simp at h

/-! ### Indices and bounds -/
theorem idxA_sound {i : AV} {u : Value} {n : Nat} {k : Nat → HAct} (h : Ex (idxA i n k) H v H') (hi : VR (gl1 X) M i u) : ∃ m : Nat, m < n ∧ Ab.aint u = some (m : Int) ∧ Ex (k m) H v H' := by
  unfold idxA at h
  split at h
  · rename_i z
    have hi := hi.int; subst hi
    simp only [Ex_dem, Bool.and_eq_true, decide_eq_true_eq] at h
    refine ⟨Int.toNat z, (Int.toNat_lt h.1.1).2 h.1.2, ?_, h.2⟩
    show some z = _
    rw [Int.toNat_of_nonneg h.1.1]
  all_goals first
    | (have hi := hi.int; subst hi
       simp only [Ex_dem, Nat.blt_eq] at h
       exact ⟨_, h.1, rfl, h.2⟩)
    | simp at h

theorem bndA_sound (hX : XOK X) (he : ER X M e e1) {o : Option Operand} {d : Nat} {k : Nat → HAct} (h : Ex (bndA (o.map (evA X e)) d k) H v H') :
    ∃ m : Nat, Ex (k m) H v H' ∧ ((o.map (Ab.evo e1) = none ∧ m = d) ∨ ∃ w, o.map (Ab.evo e1) = some w ∧ ∀ cap, m ≤ cap → Ab.abound cap w = some m) := by
  have key : ∀ {x : Operand} {j : IntKind} {z : IT j} {m : Nat}, evA X e x = some (.val (.int j) z) → toI j z = (m : Int) → ∀ cap, m ≤ cap → Ab.abound cap (Ab.evo e1 x) = some m := by
    intro x j z m hx hz cap hm
    obtain ⟨v1, g1, g2⟩ := evA_sound hX he hx
    have g2 := g2.int; subst g2
    rw [g1]
    show (if 0 ≤ toI j z ∧ toI j z ≤ (cap : Int) then some (toI j z).toNat else none) = some m
    rw [hz, if_pos (by omega)]; simp
  cases o with
  | none => exact ⟨d, h, .inl ⟨rfl, rfl⟩⟩
  | some x =>
    simp only [Option.map_some, bndA] at h ⊢
    split at h
    · rename_i hz; cases hz
    · rename_i z hz
      injection hz with hz
      simp only [Ex_dem, decide_eq_true_eq] at h
      exact ⟨Int.toNat z, h.2, .inr ⟨_, rfl, key hz (Int.toNat_of_nonneg h.1).symm⟩⟩
    · rename_i z hz
      injection hz with hz
      exact ⟨_, h, .inr ⟨_, rfl, key hz rfl⟩⟩
    · rename_i z hz
      injection hz with hz
      exact ⟨_, h, .inr ⟨_, rfl, key hz rfl⟩⟩
    · simp at h

theorem elemT_arr {t : TypeId} {isA : Bool} {n : Nat} {s : Sh} (h : elemT X t = some (isA, n, s)) : (isA = true ∧ X.sh t = some (.arr n s)) ∨ (isA = false ∧ X.sh t = some (.sl s)) := by
  unfold elemT at h
  split at h
  · rename_i n' s' hs; injection h with h; injection h with h1 h2; injection h2 with h2 h3; subst h1; subst h2; subst h3; exact .inl ⟨rfl, hs⟩
  · rename_i s' hs; injection h with h; injection h with h1 h2; injection h2 with h2 h3; subst h1; subst h3; exact .inr ⟨rfl, hs⟩
  · cases h

theorem Row.part {G : Nat → Option (List Value)} {H1 : Ab.Heap} {a : Addr} {cs : List Value} (h : Row G H1 a cs) {o n : Nat} (hn : o + n ≤ cs.length) : Row G H1 (Ab.addA a o) ((cs.drop o).take n) := by
  obtain ⟨B, h1, h2, h3⟩ := h
  have hl : ((cs.drop o).take n).length = n := by rw [List.length_take, List.length_drop]; omega
  refine ⟨B, h1, ?_, ?_⟩
  · rw [hl]; show a.off + o + n ≤ _; omega
  · rw [hl]
    show ((B.drop (a.off + o)).take n) = _
    rw [← List.drop_drop]
    have : ((B.drop a.off).drop o).take n = (((B.drop a.off).take cs.length).drop o).take n := by
      rw [List.drop_take, List.take_take, Nat.min_eq_left (by omega)]
    rw [this, h3]

theorem indexAddrA_sound (hX : XOK X) {t : TypeId} {x i : AV} {u w : Value} (h : Ex (indexAddrA X t x i) H v H') (hx : VR (gl1 X) M x u) (hi : VR (gl1 X) M i w) : PureOk X M H v H' (Ab.aindexAddr X.P t u w) := by
  unfold indexAddrA at h
  simp only [Ex_ofO] at h
  obtain ⟨⟨isA, n, s⟩, het, h⟩ := h
  rcases elemT_arr het with ⟨rfl, hs⟩ | ⟨rfl, hs⟩
  · obtain ⟨el, hu, hse⟩ := shChk_arr (hX.sh _ _ hs)
    split at h
    · rename_i b r p
      simp only [Bool.true_and, Ex_bif, Ex_fail, and_false, or_false] at h
      obtain ⟨hok, h⟩ := h
      obtain ⟨m, hm, hw, h⟩ := idxA_sound h hi
      rw [Ex_pure] at h
      obtain ⟨rfl, rfl⟩ := h
      obtain ⟨q, q1, q2, rfl⟩ := hx.cell
      have hsub := okSub_eq hok
      refine .to (v1 := .pointer (some (Ab.addA ⟨q, offL r p, none⟩ (m * s.size)))) (.mkptr q1 (inL_app hsub q2 ⟨hm, inP_nil _⟩) ?_) ?_
      rotate_left
      · unfold Ab.aindexAddr
        simp only [hu, hw, shChk_sz hse, Option.bind_some]
        rw [if_pos (by omega)]; simp
      · rw [offL_app hsub]; simp [offS, offS_nil, Ab.addA]
    · rename_i m' s' xs
      simp only [Bool.true_and, Ex_bif, Ex_fail, and_false, or_false, Bool.and_eq_true] at h
      obtain ⟨⟨h1, h2⟩, h⟩ := h
      have h1 := Nat.eq_of_beq_eq_true h1; have h2 := Sh.eq_of_beq h2
      subst h1; subst h2
      obtain ⟨m, hm, hw, h⟩ := idxA_sound h hi
      rw [Ex_pure] at h
      obtain ⟨a, ds, rfl, hr, hc1, hc2⟩ := hx.cell
      obtain ⟨g1, g2⟩ := hc2.nth (fun _ _ h => h.length) (rd_of (k := m) (by rw [hc1]; exact hm))
      obtain ⟨rfl, rfl⟩ := h
      refine .to (v1 := .pointer (some (Ab.addA a (m * s'.size)))) (.mkfptr (hr.part g2) g1) ?_
      unfold Ab.aindexAddr
      simp only [hu, hw, shChk_sz hse, Option.bind_some]
      rw [if_pos (by omega)]; simp
    · simp at h
    · simp at h
    · simp at h
  · obtain ⟨el, hu, hse⟩ := shChk_sl (hX.sh _ _ hs)
    split at h
    · simp at h
    · simp at h
    · rename_i s' xs
      simp only [Bool.not_false, Bool.true_and, Ex_bif, Ex_fail, and_false, or_false] at h
      obtain ⟨h2, h⟩ := h
      have h2 := Sh.eq_of_beq h2
      subst h2
      obtain ⟨m, hm, hw, h⟩ := idxA_sound h hi
      rw [Ex_pure] at h
      obtain ⟨cs, hc, rfl⟩ := hx.val
      rcases hc with ⟨_, rfl⟩ | ⟨a, c, rfl, hcap, hr⟩
      · simp at hm
      · rcases hr with rfl | ⟨ds, hr, hds⟩
        · simp at hm
        · obtain ⟨g1, g2⟩ := hds.nth (fun _ _ h => h.length) (rd_of (k := m) hm)
          obtain ⟨rfl, rfl⟩ := h
          refine .to (v1 := .pointer (some (Ab.addA a (m * s'.size)))) (.mkfptr (hr.part g2) g1) ?_
          unfold Ab.aindexAddr
          simp only [hu, hw, mkV, Sh.isAgg, cond_false, List.headD_cons, shChk_sz hse, Option.bind_some]
          rw [if_pos (by omega)]; simp
    · rename_i b r p e' off len cap
      simp only [Bool.not_false, Bool.true_and, Ex_bif, Ex_fail, and_false, or_false] at h
      obtain ⟨h2, h⟩ := h
      have h2 := Sh.eq_of_beq h2
      subst h2
      obtain ⟨m, hm, hw, h⟩ := idxA_sound h hi
      rw [Ex_pure] at h
      obtain ⟨q, c, o, q1, q2, rfl, q3, q4, q5⟩ := hx.cell
      have ho : o = offL r p + off * e'.size := by
        rcases q4 with q4 | q4
        · exact q4
        · exfalso
          rcases q2 with ⟨n, c', k1, k2, k3, k4, k5⟩ | ⟨k1, k2, k3, k4⟩
          · subst k3
            simp only [capIs] at q5
            omega
          · cases cap with
            | none => rcases q5 with q5 | q5
                      · rw [q5] at q4; simp [capU] at q4
                      · omega
            | some c' =>
              have := k4 c' rfl
              simp only [capIs] at q5
              omega
      obtain ⟨rfl, rfl⟩ := h
      refine .to (v1 := .pointer (some (Ab.addA ⟨q, o, none⟩ (m * e'.size)))) (.mkptr q1 ?_ ?_) ?_
      rotate_left 2
      · unfold Ab.aindexAddr
        simp only [hu, hw, shChk_sz hse, Option.bind_some]
        rw [if_pos (by omega)]; simp
      · rcases q2 with ⟨n, c', k1, k2, k3, k4, k5⟩ | ⟨k1, k2, k3, k4⟩
        · exact inL_app k1 k2 ⟨by omega, inP_nil _⟩
        · subst k1; subst k2
          exact ⟨by omega, inP_nil _⟩
      · rw [ho]
        rcases q2 with ⟨n, c', k1, k2, k3, k4, k5⟩ | ⟨k1, k2, k3, k4⟩
        · rw [offL_app k1]
          simp [offS, offS_nil, Ab.addA, Nat.add_mul, Nat.add_assoc]
        · subst k1; subst k2
          simp [offL, offS_nil, Ab.addA, Nat.add_mul]
    · simp at h

theorem mkV_part {s : Sh} {cs : List Value} {t : TypeId} (hs : shChk X.P s (.inl t) = true) {o : Nat} (hl : o + s.size ≤ cs.length) : apart X.P t cs o = some (mkV s.isAgg ((cs.drop o).take s.size)) := apart_mk hs hl

theorem strOf_size (x : List (BitVec 8)) : (strOf x).size = x.length := by simp [strOf, ByteArray.size]
theorem strOf_list (x : List (BitVec 8)) : (strOf x).data.toList = x.map UInt8.ofBitVec := by simp [strOf]

theorem indexA_sound (hX : XOK X) {t : TypeId} {x i : AV} {u w : Value} (h : Ex (indexA X t x i) H v H') (hx : VR (gl1 X) M x u) (hi : VR (gl1 X) M i w) : PureOk X M H v H' (Ab.aindex X.P t u w) := by
  unfold indexA at h
  split at h
  · rename_i n s m s' xs hs
    simp only [Ex_bif, Ex_fail, and_false, or_false, Bool.and_eq_true] at h
    obtain ⟨⟨h1, h2⟩, h⟩ := h
    have h1 := Nat.eq_of_beq_eq_true h1; have h2 := Sh.eq_of_beq h2
    subst h1; subst h2
    obtain ⟨el, hu, hse⟩ := shChk_arr (hX.sh _ _ hs)
    obtain ⟨m, hm, hw, h⟩ := idxA_sound h hi
    rw [Ex_pure] at h
    obtain ⟨cs, ⟨hc1, hc2⟩, rfl⟩ := hx.val
    obtain ⟨g1, g2⟩ := hc2.nth (fun _ _ h => h.length) (rd_of (k := m) (by rw [hc1]; exact hm))
    refine .av ?_ (.mkval g1) h.1 h.2
    unfold Ab.aindex
    simp only [hu, hw, mkV, Sh.isAgg, cond_true, shChk_sz hse, Option.bind_some]
    rw [if_pos (by omega)]
    exact apart_mk hse g2
  · rename_i xs hs
    obtain ⟨m, hm, hw, h⟩ := idxA_sound h hi
    rw [Ex_pure] at h
    have hx := hx.str; subst hx
    refine .av (v1 := .int .u8 (toI .u8 (xs.getD m 0#8))) ?_ .ofint h.1 h.2
    unfold Ab.aindex
    simp only [shChk_str (hX.sh _ _ hs), hw, strOf_size]
    rw [if_pos (by omega)]
    simp only [strOf_list, Int.toNat_natCast]
    rw [List.getD_eq_getElem?_getD, List.getElem?_map, List.getD_eq_getElem?_getD]
    rw [List.getElem?_eq_getElem hm]
    rfl
  · simp at h

theorem fieldA_sound (hX : XOK X) {t : TypeId} {x : AV} {u : Value} {f : Nat} {s : Sh} {y : AV} (hs : X.sh t = some s) (hc : x.conf s = true) (hg : getA x (fieldP f) = some y) (hx : VR (gl1 X) M x u) : ∃ v1, Ab.afield X.P t u f = some v1 ∧ VR (gl1 X) M y v1 := by
  obtain ⟨cs, h1, rfl⟩ := hx.conf hc
  have hin : inP s (fieldP f) ∧ ∃ sf, subS s (fieldP f) = some sf := by
    clear hx hs hc
    induction f generalizing x s cs with
    | zero =>
      cases x with
      | val s' z =>
        obtain ⟨rfl, h1⟩ := h1
        cases s' <;> simp [fieldP, getA, getP] at hg
        exact ⟨inP_nil _, _, subS_nil _⟩
      | two a b =>
        obtain ⟨s1, s2, rfl, _⟩ := h1
        exact ⟨inP_nil _, _, subS_nil _⟩
      | cell q => simp [fieldP, getA] at hg
    | succ n ih =>
      cases x with
      | val s' z =>
        obtain ⟨rfl, h1⟩ := h1
        cases s' <;> simp [fieldP, getA, getP] at hg
        rename_i a b
        obtain ⟨c, d, _, _, h2⟩ := h1
        exact ih (x := .val b z.2) (s := b) (cs := d) (by
          cases n <;> exact hg) ⟨rfl, h2⟩
      | two a b =>
        obtain ⟨s1, s2, rfl, c, d, _, _, h2⟩ := h1
        exact ih (x := b) (s := s2) (cs := d) hg h2
      | cell q => simp [fieldP, getA] at hg
  obtain ⟨hin, sf, hsf⟩ := hin
  obtain ⟨fs, fld, g1, g2, g3, g4⟩ := field_of (hX.sh _ _ hs) hsf
  obtain ⟨t', k1, k2, k3⟩ := getA_cells (fieldP f) h1 hin hg
  rw [hsf] at k1; cases k1
  refine ⟨_, ?_, .of k3⟩
  unfold Ab.afield
  have hagg : s.isAgg = true := by
    obtain ⟨d, e1, e2⟩ := shChk_und (hX.sh _ _ hs)
    rw [g1] at e1; cases e1; rw [← e2]; rfl
  simp only [g1, hagg, mkV, cond_true, g2, Option.bind_some]
  rw [g3]
  exact apart_mk g4 k2

theorem lenA_sound (hX : XOK X) {t : TypeId} {x y : AV} {u : Value} (h : lenA X t x = some y) (hx : VR (gl1 X) M x u) : ∃ v1, Ab.alen X.P t u = some v1 ∧ VR (gl1 X) M y v1 := by
  unfold lenA at h
  split at h
  · rename_i xs hs
    injection h with h; subst h
    have hx := hx.str; subst hx
    refine ⟨.int .i64 ((List.length xs : Nat) : Int), ?_, .ofint (k := .i64)⟩
    simp only [Ab.alen, shChk_str (hX.sh _ _ hs), strOf_size]
  · rename_i n s hs
    injection h with h; subst h
    obtain ⟨el, hu, _⟩ := shChk_arr (hX.sh _ _ hs)
    exact ⟨.int .i64 (n : Int), by simp only [Ab.alen, hu], .ofint (k := .i64)⟩
  · rename_i s s' xs hs
    cases hb : s.beq s' with
    | false => rw [hb] at h; cases h
    | true =>
      rw [hb] at h
      injection h with h; subst h
      have hb := Sh.eq_of_beq hb; subst hb
      obtain ⟨el, hu, _⟩ := shChk_sl (hX.sh _ _ hs)
      obtain ⟨cs, hc, rfl⟩ := hx.val
      refine ⟨.int .i64 ((List.length xs : Nat) : Int), ?_, .ofint (k := .i64)⟩
      rcases hc with ⟨rfl, rfl⟩ | ⟨a, c, rfl, _⟩ <;> simp [Ab.alen, hu, mkV, Sh.isAgg]
  · rename_i s hs
    injection h with h; subst h
    obtain ⟨el, hu, _⟩ := shChk_sl (hX.sh _ _ hs)
    have hx := hx.cell
    have hx : u = .slice none 0 0 := hx
    subst hx
    exact ⟨.int .i64 0, by simp [Ab.alen, hu], .ofint (k := .i64)⟩
  · rename_i s b r p e' off len cap hs
    injection h with h; subst h
    obtain ⟨el, hu, _⟩ := shChk_sl (hX.sh _ _ hs)
    obtain ⟨q, c, o, q1, q2, rfl, q3, q4, q5⟩ := hx.cell
    exact ⟨.int .i64 (len : Int), by simp only [Ab.alen, hu], .ofint (k := .i64)⟩
  · cases h
end
end Go.Ty
