import Derived.Test.YtninlahlmjhmhaaTyMake
namespace Go.Ty
open Go.Ab (vcells plainC capU szOf zeroOf bytesOf aggT apart splice blkAt cellsAt)
section
variable {X : Cx} {M : Lk} {H H' : Heap} {v : Option SV} {e : Env} {e1 : Ab.Env}

theorem OpR.pureAt {op : Op} (hp : Ab.isPure (x1 X).pf op = true) {H1f : Ab.Heap} {Hm : Heap} (hf : FrzLe M.H1 H1f) (h : PureOk X ⟨H1f, M.mu, M.ln⟩ Hm v H' (Ab.pv (x1 X) e1 op)) (hH : HR (gl1 X) ⟨H1f, M.mu, M.ln⟩ Hm) (hx : Ext M H ⟨H1f, M.mu, M.ln⟩ Hm) : OpR X M H e1 op v H' := by
  obtain ⟨rfl, u, v1, rfl, h1, h2⟩ := h
  refine ⟨H1f, some v1, H1f, M.mu, M.ln, hf, ?_, fun u' hu => ?_, hH, hx⟩
  · unfold Ab.aop; rw [hp, h1]; rfl
  · injection hu with hu; subst hu; exact ⟨v1, rfl, h2⟩

theorem norm_vr {a : AV} {s : Sh} {u : Value} {cs : List Value} (h : CellsA (gl1 X) M a s cs) (hu : u = mkV s.isAgg cs) : VR (gl1 X) M (a.norm s) u := by
  have hc : a.conf s = true → VR (gl1 X) M (a.norm s) u := by
    intro _
    have : ∀ {a : AV} {s : Sh} {cs : List Value}, CellsA (gl1 X) M a s cs → CellsA (gl1 X) M (a.norm s) s cs := by
      intro a
      induction a with
      | val t x => intro s cs h; have e : (AV.val t x).norm s = .val t x := by cases s <;> rfl
                   rw [e]; exact h
      | two a b iha ihb =>
        intro s cs h
        obtain ⟨s1, s2, rfl, c, d, e, h1, h2⟩ := h
        simp only [AV.norm]
        have ka := iha h1
        have kb := ihb h2
        split
        · rename_i x y hx hy
          exact ⟨rfl, c, d, e, ka.as hx, kb.as hy⟩
        · exact ⟨s1, s2, rfl, c, d, e, ka, kb⟩
      | cell q =>
        intro s cs h
        cases q with
        | nilS =>
          cases s with
          | sl s =>
            obtain ⟨_, u, rfl, hu⟩ := h
            have hu : u = .slice none 0 0 := hu
            subst hu
            exact ⟨rfl, .inl ⟨rfl, rfl⟩⟩
          | _ => exact h
        | ptr _ _ _ => cases s <;> exact h
        | fptr _ _ => cases s <;> exact h
        | ref _ _ _ _ _ _ _ => cases s <;> exact h
        | fn _ => cases s <;> exact h
    exact ⟨s, cs, this h, hu⟩
  have hconf : a.conf s = true := by
    clear hc hu
    induction a generalizing s cs with
    | val t x => obtain ⟨rfl, _⟩ := h; simp only [AV.conf]; exact (by
        have : ∀ t : Sh, t.beq t = true := by
          intro t
          induction t with
          | int k => simp [Sh.beq]
          | non k => simp [Sh.beq]
          | pair a b iha ihb => simp [Sh.beq, iha, ihb]
          | arr n s ih => simp [Sh.beq, ih]
          | sl s ih => simp [Sh.beq, ih]
          | _ => rfl
        exact this _)
    | two a b iha ihb =>
      obtain ⟨s1, s2, rfl, c, d, e, h1, h2⟩ := h
      simp only [AV.conf, iha h1, ihb h2, Bool.and_self]
    | cell q => simp only [AV.conf, h.1, Bool.not_false]
  exact hc hconf

theorem build_struct {P : Program} {s : Sh} {l : List Field} (h : shChk P s (.inr (l, 0)) = true) : ∃ places, (l.mapM fun f => (P.info? f.type).map fun i => (f.offset, i.size)) = some places ∧ ∀ i sf, subS s (fieldP i) = some sf → (places.toArray)[i]? = some (offS s (fieldP i), sf.size) := by
  have hinfo : ∀ {sf : Sh} {t : TypeId}, shChk P sf (.inl t) = true → ∃ i, P.info? t = some i ∧ i.size = sf.size := fun h => Ab.szOf_some (shChk_sz h)
  have key : ∀ (s : Sh) (l : List Field) (off : Nat), shChk P s (.inr (l, off)) = true → ∃ places, (l.mapM fun f => (P.info? f.type).map fun i => (f.offset, i.size)) = some places ∧ ∀ i sf, subS s (fieldP i) = some sf → places[i]? = some (off + offS s (fieldP i), sf.size) := by
    intro s
    induction s with
    | unit =>
      intro l off h
      cases l with
      | nil => exact ⟨[], rfl, fun i sf hs => by cases i <;> simp [fieldP, subS] at hs⟩
      | cons f r => simp [shChk] at h
    | pair a b iha ihb =>
      intro l off h
      cases l with
      | nil => simp [shChk] at h
      | cons f r =>
        simp only [shChk, Bool.and_eq_true] at h
        obtain ⟨i, h1, h2⟩ := hinfo h.2.1
        obtain ⟨places, g1, g2⟩ := ihb r (off + a.size) h.2.2
        refine ⟨(f.offset, i.size) :: places, by simp [h1, g1], fun j sf hs => ?_⟩
        cases j with
        | zero =>
          simp [fieldP, subS] at hs
          subst hs
          simp [fieldP, offS, h2, Nat.eq_of_beq_eq_true h.1]
        | succ j =>
          have hs : subS b (fieldP j) = some sf := by simpa [fieldP, subS] using hs
          have := g2 j sf hs
          simp only [List.getElem?_cons_succ, this, fieldP, offS, Option.some.injEq, Prod.mk.injEq, and_true]
          omega
    | _ => intro l off h; simp [shChk] at h
  obtain ⟨places, g1, g2⟩ := key s l 0 h
  exact ⟨places, g1, fun i sf hs => by have := g2 i sf hs; simpa using this⟩

theorem buildA_sound (hX : XOK X) {t : TypeId} {ps : List (Nat × AV)} {l : List (Nat × Value)} (h : Ex (buildA X t ps) H v H') (hp : PartsR X M ps l) (hH : HR (gl1 X) M H) :
    ∃ Hm H1m, FrzLe M.H1 H1m ∧ HR (gl1 X) ⟨H1m, M.mu, M.ln⟩ Hm ∧ Ext M H ⟨H1m, M.mu, M.ln⟩ Hm ∧ PureOk X ⟨H1m, M.mu, M.ln⟩ Hm v H' (Ab.abuild X.P t l) := by
  unfold buildA at h
  obtain ⟨ps', Hm, H1m, g1, g2, g3, g4, g5⟩ := frzP_sound h hp hH
  refine ⟨Hm, H1m, g2, g4, g5, ?_⟩
  split at g1
  · rename_i n s hs
    have hse := hX.sh _ _ hs
    obtain ⟨el, hu, hel⟩ := shChk_arr hse
    simp only [Ex_ofO, Ex_pure] at g1
    obtain ⟨xs, hxs, rfl, rfl⟩ := g1
    obtain ⟨z, z1, z2, z3⟩ := zero_cells hse
    have hz0 : AllC (Cells (gl1 X) H1m s) (List.replicate n s.dft) (zcells (.arr n s)) := .replicate (Cells.zero s) n
    obtain ⟨cs, f1, f2, f3⟩ := elems_fill (M := ⟨H1m, M.mu, M.ln⟩) hxs g3 hz0
    rw [List.length_replicate] at f3
    refine .to (v1 := mkV true cs) (VR.mkval (s := .arr n s) ⟨f3, f2⟩) ?_
    unfold Ab.abuild
    rw [hu, z1]
    rw [z2] at z3
    simp only [z2, z3, Bool.not_true, cond_false, shChk_sz hel, Option.bind_some, f1, Option.map_some]
    rfl
  · rename_i s hnarr hs
    have hse := hX.sh _ _ hs
    simp only [Ex_bif, Ex_ofO, Ex_pure, Ex_fail, and_false, or_false] at g1
    obtain ⟨hagg, w, hw, rfl, rfl⟩ := g1
    obtain ⟨z, z1, z2, z3⟩ := zero_cells hse
    have hstruct : ∃ fs, X.P.underlying t = some (.struct fs) ∧ shChk X.P s (.inr (fs.toList, 0)) = true := by
      cases s with
      | pair a b => exact shChk_pair hse
      | unit => exact ⟨#[], shChk_unit hse, rfl⟩
      | arr n s => exact (hnarr n s rfl).elim
      | _ => simp [Sh.isAgg] at hagg
    obtain ⟨fs, hu, hfs⟩ := hstruct
    obtain ⟨places, p1, p2⟩ := build_struct hfs
    obtain ⟨cs, f1, f2⟩ := struct_fill (M := ⟨H1m, M.mu, M.ln⟩) p2 hw g3 (CellsA.zero s)
    refine .to (v1 := mkV true cs) (norm_vr f2 (by rw [hagg])) ?_
    unfold Ab.abuild
    rw [hu, z1]
    rw [z2] at z3
    simp only [z2, z3, Bool.not_true, cond_false]
    rw [p1]
    simp only [Option.bind_some, f1, Option.map_some]
    rfl
  · simp at g1

theorem getP_field : ∀ {f : Nat} {s sf : Sh} {y : s.T} {z : sf.T}, getP s (fieldP f) y = some (.val sf z) → subS s (fieldP f) = some sf ∧ inP s (fieldP f)
  | 0, s, sf, y, z, h => by
    cases s <;> simp [fieldP, getP] at h
    exact ⟨by simp [fieldP, subS, h.1], inP_nil _⟩
  | n + 1, s, sf, y, z, h => by
    cases s <;> simp [fieldP, getP] at h
    exact getP_field (f := n) h
theorem fieldAddr_sound (hX : XOK X) (he : ER X M e e1) {t : TypeId} {x : Operand} {f nid : Nat} (h : Ex (opA X e nid (.fieldAddr t x f)) H v H') : PureOk X M H v H' (Ab.pv (x1 X) e1 (.fieldAddr t x f)) := by
  unfold opA at h
  simp only [Ex_ofO] at h
  obtain ⟨a, ha, s, hs, h⟩ := h
  obtain ⟨u, g1, g2⟩ := evA_sound hX he ha
  have hse := hX.sh _ _ hs
  have hpv : Ab.pv (x1 X) e1 (.fieldAddr t x f) = Ab.afieldAddr X.P t u f := by
    show (Ab.evo e1 x).bind _ = _
    rw [g1]; rfl
  rw [hpv]
  split at h
  · rename_i b r p
    simp only [Ex_ofO, Ex_bif, Ex_fail, Ex_pure, and_false, false_or, Bool.or_eq_false_iff, Bool.not_eq_false'] at h
    obtain ⟨sf, hsf, ⟨hz, hok⟩, rfl, rfl⟩ := h
    have hsub := okSub_eq hok
    obtain ⟨i, q1, q2, rfl⟩ := g2.cell
    obtain ⟨fs, fld, k1, k2, k3, k4⟩ := field_of hse hsf
    refine .to (v1 := .pointer (some (Ab.addA ⟨i, offL r p, none⟩ fld.offset))) (.mkptr q1 (inL_app hsub q2 (inP_field hsf)) ?_) ?_
    · rw [offL_app hsub, k3]; rfl
    · unfold Ab.afieldAddr
      simp only [k1, k2, Option.bind_some, shChk_sz k4]
      rw [if_neg (fun h0 => by rw [h0] at hz; simp at hz)]
  · rename_i s' y
    simp only [Ex_ofO, Ex_bif, Ex_fail, and_false, or_false] at h
    obtain ⟨hb, w, hw, h⟩ := h
    have hb := Sh.eq_of_beq hb; subst hb
    obtain ⟨a, ds, rfl, hr, hds⟩ := g2.cell
    split at h
    · rename_i sf z
      simp only [Ex_bif, Ex_fail, Ex_pure, and_false, false_or] at h
      obtain ⟨hz, rfl, rfl⟩ := h
      have hsf := getP_field hw
      obtain ⟨hsf, hin⟩ := hsf
      obtain ⟨fs, fld, k1, k2, k3, k4⟩ := field_of hse hsf
      obtain ⟨t', y', e1', e2', e3', e4'⟩ := getP_cells (fieldP f) hds hin hw
      rw [hsf] at e2'; cases e2'
      injection e1' with e5 e6
      subst e6
      refine .to (v1 := .pointer (some (Ab.addA a fld.offset))) (by rw [k3]; exact .mkfptr (hr.part e3') e4') ?_
      unfold Ab.afieldAddr
      simp only [k1, k2, Option.bind_some, shChk_sz k4]
      rw [if_neg (fun h0 => by rw [h0] at hz; simp at hz)]
    · simp at h
  · simp at h

theorem mapM_sound (hX : XOK X) (he : ER X M e e1) : ∀ {xs : List Operand} {l : List AV}, xs.mapM (evA X e) = some l → ∃ l1, Ab.evArgs e1 xs = some l1 ∧ l.length = l1.length ∧ ∀ (j : Nat) a, l[j]? = some a → ∃ u, l1[j]? = some u ∧ VR (gl1 X) M a u
  | [], l, h => by simp at h; subst h; exact ⟨[], rfl, rfl, by simp⟩
  | x :: r, l, h => by
    simp only [List.mapM_cons, Option.bind_eq_bind, Option.bind_eq_some_iff, Option.pure_def, Option.some.injEq] at h
    obtain ⟨a, ha, l', hl, rfl⟩ := h
    obtain ⟨u, g1, g2⟩ := evA_sound hX he ha
    obtain ⟨l1, k1, k2, k3⟩ := mapM_sound hX he hl
    refine ⟨u :: l1, by simp [Ab.evArgs, g1, k1], by simp [k2], fun j b hb => ?_⟩
    cases j with
    | zero => simp at hb; subst hb; exact ⟨u, by simp, g2⟩
    | succ j => simpa using k3 j b (by simpa using hb)
theorem mmA_sound {isMax : Bool} : ∀ {l : List AV} {l1 : List Value} {a z : Int}, mmA isMax a l = some z → l.length = l1.length → (∀ (j : Nat) a, l[j]? = some a → ∃ u, l1[j]? = some u ∧ VR (gl1 X) M a u) →
    l1.foldl (Ab.mstep (fun x y => mm isMax x y)) (some (.int .i64 a)) = some (.int .i64 z)
  | [], l1, a, z, h, hl, _ => by
    have : l1 = [] := List.length_eq_zero_iff.1 hl.symm
    subst this
    simp only [mmA, Option.some.injEq] at h; subst h; rfl
  | b :: l, l1, a, z, h, hl, hr => by
    cases l1 with
    | nil => simp at hl
    | cons u l1 =>
      obtain ⟨u', h1, h2⟩ := hr 0 b rfl
      simp at h1; subst h1
      unfold mmA at h
      split at h
      · rename_i hh; cases hh
      · rename_i y r hh
        injection hh with hh1 hh2
        subst hh1; subst hh2
        have h2 := h2.int; subst h2
        simp only [List.foldl_cons, Ab.mstep, if_true]
        exact mmA_sound h (by simpa using hl) (fun j a hj => by simpa using hr (j + 1) a (by simpa using hj))
      · cases h
theorem mm_false : (fun x y : Int => mm false x y) = fun x y => if y < x then y else x := by
  funext x y
  simp only [mm, cond_false]
  by_cases h : y < x <;> simp [h]
theorem mm_true : (fun x y : Int => mm true x y) = fun x y => if y > x then y else x := by
  funext x y
  simp only [mm, cond_true]
  by_cases h : y > x <;> simp [h]

def isCallV : Op → Bool
  | .call c => match c.callee with
    | .value _ => true
    | _ => false
  | _ => false

theorem opA_sound (hX : XOK X) (he : ER X M e e1) {nid : Nat} {op : Op} (h : Ex (opA X e nid op) H v H') (hc : isCallV op = false) (hH : HR (gl1 X) M H) : OpR X M H e1 op v H' := by
  cases op with
  | move x =>
    refine .pure rfl ?_ hH
    simp only [opA, Ex_ofO, Ex_ret] at h
    obtain ⟨u, hu, rfl, rfl⟩ := h
    obtain ⟨v1, g1, g2⟩ := ev_sound hX he hu
    exact ⟨rfl, u, v1, rfl, g1, g2⟩
  | assign x =>
    refine .pure rfl ?_ hH
    simp only [opA, Ex_ofO, Ex_ret] at h
    obtain ⟨u, hu, rfl, rfl⟩ := h
    obtain ⟨v1, g1, g2⟩ := ev_sound hX he hu
    exact ⟨rfl, u, v1, rfl, g1, g2⟩
  | pick c a b =>
    refine .pure rfl ?_ hH
    simp only [opA, Ex_ofO] at h
    obtain ⟨cv, hcv, h⟩ := h
    split at h
    · rename_i c'
      obtain ⟨uc, c1, c2⟩ := evA_sound hX he hcv
      have c2 := c2.bool; subst c2
      split at h
      · rename_i av bv hav hbv
        simp only [Ex_ofO, Ex_pure] at h
        obtain ⟨w, hw, rfl, rfl⟩ := h
        obtain ⟨ua, a1, a2⟩ := evA_sound hX he hav
        obtain ⟨ub, b1, b2⟩ := evA_sound hX he hbv
        unfold mergeT at hw
        split at hw
        · rename_i s x
          simp only [Option.map_eq_some_iff] at hw
          obtain ⟨y, hy, rfl⟩ := hw
          cases c' with
          | true => exact .to (v1 := ua) a2 (by simp only [Ab.pv, c1, a1])
          | false => exact .to (v1 := ub) (b2.as hy) (by simp only [Ab.pv, c1, b1])
        · cases hw
      · rename_i av hav hbv
        simp only [Ex_dem, Ex_pure] at h
        obtain ⟨rfl, rfl, rfl⟩ := h
        obtain ⟨ua, a1, a2⟩ := evA_sound hX he hav
        exact .to (v1 := ua) a2 (by simp only [Ab.pv, c1, a1])
      · rename_i bv hav hbv
        simp only [Ex_dem, Ex_pure, Bool.not_eq_true'] at h
        obtain ⟨rfl, rfl, rfl⟩ := h
        obtain ⟨ub, b1, b2⟩ := evA_sound hX he hbv
        exact .to (v1 := ub) b2 (by simp only [Ab.pv, c1, b1])
      · simp at h
    · simp at h
  | build t parts =>
    simp only [opA, Ex_ofO] at h
    obtain ⟨ps, hps, h⟩ := h
    obtain ⟨l, hl, hp⟩ := partsA_sound hX he hps
    obtain ⟨Hm, H1m, g1, g2, g3, g4⟩ := buildA_sound hX h hp hH
    refine .pureAt rfl g1 ?_ g2 g3
    show PureOk X _ Hm v H' ((Ab.evParts e1 parts.toList).bind (Ab.abuild X.P t))
    rw [hl]; exact g4
  | nilCheck x =>
    refine .pure rfl ?_ hH
    simp only [opA, Ex_ofO] at h
    obtain ⟨a, ha, h⟩ := h
    obtain ⟨u, g1, g2⟩ := evA_sound hX he ha
    split at h
    · rw [Ex_pure] at h
      obtain ⟨rfl, rfl⟩ := h
      have g3 := g2
      obtain ⟨i, q1, q2, rfl⟩ := g2.cell
      exact .to g3 (by simp only [Ab.pv, g1])
    · rw [Ex_pure] at h
      obtain ⟨rfl, rfl⟩ := h
      have g3 := g2
      obtain ⟨a, ds, rfl, _⟩ := g2.cell
      exact .to g3 (by simp only [Ab.pv, g1])
    · simp at h
  | binOp op t x y ty =>
    refine .pure rfl ?_ hH
    simp only [opA, Ex_ofO] at h
    obtain ⟨a, ha, b, hb, h⟩ := h
    obtain ⟨u, g1, g2⟩ := evA_sound hX he ha
    obtain ⟨w, k1, k2⟩ := evA_sound hX he hb
    show PureOk X M H v H' ((Ab.evo e1 x).bind fun x => (Ab.evo e1 y).bind fun y => Ab.abin X.P op t x y)
    rw [g1, k1]
    exact binA_sound hX h g2 k2
  | unOp op t x =>
    refine .pure rfl ?_ hH
    simp only [opA, Ex_ofO] at h
    obtain ⟨a, ha, h⟩ := h
    obtain ⟨u, g1, g2⟩ := evA_sound hX he ha
    show PureOk X M H v H' ((Ab.evo e1 x).bind fun x => Ab.aun op x)
    rw [g1]
    exact unA_sound h g2
  | convert src dst x =>
    refine .pure rfl ?_ hH
    simp only [opA, Ex_ofO] at h
    obtain ⟨s, hs, a, ha, h⟩ := h
    obtain ⟨u, g1, g2⟩ := evA_sound hX he ha
    obtain ⟨d, hd, _⟩ := shChk_und (hX.sh _ _ hs)
    show PureOk X M H v H' ((X.P.underlying src).bind fun _ => (Ab.evo e1 x).bind fun x => Ab.aconv X.P dst x)
    rw [hd, g1]
    exact convA_sound hX h g2
  | slice t x lo hi mx =>
    refine .pure rfl ?_ hH
    simp only [opA, Ex_ofO] at h
    obtain ⟨a, ha, h⟩ := h
    obtain ⟨u, g1, g2⟩ := evA_sound hX he ha
    show PureOk X M H v H' ((Ab.evo e1 x).bind fun x => Ab.aslice X.P t x _ _ _)
    rw [g1]
    exact sliceA_sound hX he h g2
  | fieldAddr t x f => exact .pure rfl (fieldAddr_sound hX he h) hH
  | field t x f =>
    refine .pure rfl ?_ hH
    simp only [opA, Ex_ofO, Ex_bif, Ex_fail, Ex_pure, and_false, or_false] at h
    obtain ⟨a, ha, s, hs, hconf, w, hw, rfl, rfl⟩ := h
    obtain ⟨u, g1, g2⟩ := evA_sound hX he ha
    obtain ⟨v1, k1, k2⟩ := fieldA_sound hX hs hconf hw g2
    refine .to k2 ?_
    show ((Ab.evo e1 x).bind fun x => Ab.afield X.P t x f) = _
    rw [g1]; exact k1
  | indexAddr t x i =>
    refine .pure rfl ?_ hH
    simp only [opA, Ex_ofO] at h
    obtain ⟨a, ha, b, hb, h⟩ := h
    obtain ⟨u, g1, g2⟩ := evA_sound hX he ha
    obtain ⟨w, k1, k2⟩ := evA_sound hX he hb
    show PureOk X M H v H' ((Ab.evo e1 x).bind fun x => (Ab.evo e1 i).bind fun y => Ab.aindexAddr X.P t x y)
    rw [g1, k1]
    exact indexAddrA_sound hX h g2 k2
  | index t x i =>
    refine .pure rfl ?_ hH
    simp only [opA, Ex_ofO] at h
    obtain ⟨a, ha, b, hb, h⟩ := h
    obtain ⟨u, g1, g2⟩ := evA_sound hX he ha
    obtain ⟨w, k1, k2⟩ := evA_sound hX he hb
    show PureOk X M H v H' ((Ab.evo e1 x).bind fun x => (Ab.evo e1 i).bind fun y => Ab.aindex X.P t x y)
    rw [g1, k1]
    exact indexA_sound hX h g2 k2
  | extract x i =>
    refine .pure rfl ?_ hH
    simp only [opA, Ex_ofO, Ex_pure] at h
    obtain ⟨a, ha, w, hw, rfl, rfl⟩ := h
    obtain ⟨u, g1, g2⟩ := ev_sound hX he ha
    unfold extA at hw
    split at hw
    · rename_i l
      obtain ⟨us, rfl, h1, h2⟩ := g2
      obtain ⟨u', k1, k2⟩ := h2 i w hw
      refine .to k2 ?_
      simp only [Ab.pv, g1]
      simpa using k1
    · cases hw
  | load t a =>
    simp only [opA, Ex_ofO] at h
    obtain ⟨av, ha, h⟩ := h
    obtain ⟨u, g1, g2⟩ := evA_sound hX he ha
    obtain ⟨rfl, w, v1, rfl, k1, k2⟩ := loadA_sound hX h g2 hH
    refine .mem (r1 := some v1) (H1' := M.H1) (mu' := M.mu) (ln' := M.ln) rfl (.refl _) ?_ (fun u' hu => ?_) hH .refl
    · show ((Ab.evo e1 a).bind fun a => (Ab.ald (x1 X) M.H1 t a).map fun v => (some v, M.H1)) = _
      rw [g1]; simp only [Option.bind_some, k1, Option.map_some]
    · injection hu with hu; subst hu; exact ⟨v1, rfl, k2⟩
  | store t a x =>
    simp only [opA, Ex_ofO] at h
    obtain ⟨av, ha, xv, hx, h⟩ := h
    obtain ⟨u, g1, g2⟩ := evA_sound hX he ha
    obtain ⟨w, k1, k2⟩ := evA_sound hX he hx
    obtain ⟨rfl, H1', z1, z2, z3⟩ := storeA_sound hX h g2 k2 hH
    refine .mem (r1 := none) rfl (.refl _) ?_ (fun u' hu => by cases hu) z2 z3
    show ((Ab.evo e1 a).bind fun a => (Ab.evo e1 x).bind fun x => (Ab.ast X.P M.H1 t a x).map fun H => (none, H)) = _
    rw [g1, k1]; simp only [Option.bind_some, z1, Option.map_some]
  | alloc t =>
    simp only [opA, Ex_ofO, Ex_new, Ex_pure] at h
    obtain ⟨s, hs, hf, rfl, rfl⟩ := h
    exact allocA_sound hX hs hf hH
  | box t x =>
    simp only [opA, Ex_ofO, Ex_bif, Ex_new, Ex_fail, Ex_pure, and_false, or_false] at h
    obtain ⟨s, hs, a, ha, hconf, hf, rfl, rfl⟩ := h
    obtain ⟨u, g1, g2⟩ := evA_sound hX he ha
    exact boxA_sound hX hs g1 g2 hconf hf hH
  | buildSlice t len parts => exact buildSliceA_sound hX he h hH
  | makeSlice t l c => exact makeSliceA_sound hX he h hH
  | call c =>
    obtain ⟨callee, args, argTypes⟩ := c
    cases callee with
    | value f => simp [isCallV] at hc
    | invoke r m => simp [opA] at h
    | builtin b =>
      cases b with
      | len =>
        refine .pure rfl ?_ hH
        simp only [opA] at h
        split at h
        · rename_i t x hts has
          simp only [Ex_ofO, Ex_pure] at h
          obtain ⟨a, ha, w, hw, rfl, rfl⟩ := h
          obtain ⟨u, g1, g2⟩ := evA_sound hX he ha
          obtain ⟨v1, k1, k2⟩ := lenA_sound hX hw g2
          refine .to k2 ?_
          simp only [Ab.pv, hts, has, g1, Option.bind_some]
          exact k1
        · simp at h
      | min =>
        refine .pure rfl ?_ hH
        simp only [opA, Ex_ofO] at h
        obtain ⟨l, hl, h⟩ := h
        split at h
        · rename_i x r
          simp only [Ex_ofO, Ex_pure] at h
          obtain ⟨z, hz, rfl, rfl⟩ := h
          obtain ⟨l1, g1, g2, g3⟩ := mapM_sound hX he hl
          obtain ⟨u, k1, k2⟩ := g3 0 _ rfl
          have k2 := k2.int
          subst k2
          refine .to (v1 := .int .i64 z) (.ofint (k := .i64)) ?_
          simp only [Ab.pv, g1, Option.bind_some]
          cases l1 with
          | nil => simp at g2
          | cons u l1 =>
            simp at k1; subst k1
            have := mmA_sound (X := X) (M := M) hz (l1 := l1) (by simpa using g2) (fun j a hj => by simpa using g3 (j + 1) a (by simpa using hj))
            rw [mm_false] at this
            exact this
        · simp at h
      | max =>
        refine .pure rfl ?_ hH
        simp only [opA, Ex_ofO] at h
        obtain ⟨l, hl, h⟩ := h
        split at h
        · rename_i x r
          simp only [Ex_ofO, Ex_pure] at h
          obtain ⟨z, hz, rfl, rfl⟩ := h
          obtain ⟨l1, g1, g2, g3⟩ := mapM_sound hX he hl
          obtain ⟨u, k1, k2⟩ := g3 0 _ rfl
          have k2 := k2.int
          subst k2
          refine .to (v1 := .int .i64 z) (.ofint (k := .i64)) ?_
          simp only [Ab.pv, g1, Option.bind_some]
          cases l1 with
          | nil => simp at g2
          | cons u l1 =>
            simp at k1; subst k1
            have := mmA_sound (X := X) (M := M) hz (l1 := l1) (by simpa using g2) (fun j a hj => by simpa using g3 (j + 1) a (by simpa using hj))
            rw [mm_true] at this
            exact this
        · simp at h
      | append =>
        simp only [opA] at h
        split at h
        · rename_i t t2 s x hts has
          split at h
          · rename_i el hu
            simp only [Ex_ofO] at h
            obtain ⟨a, ha, b, hb, h⟩ := h
            obtain ⟨u, g1, g2⟩ := evA_sound hX he ha
            obtain ⟨w, k1, k2⟩ := evA_sound hX he hb
            obtain ⟨y, v1, H1', mu', ln', rfl, z1, z2, z3, z4⟩ := appendA_sound hX h g2 k2 hH
            refine .mem (r1 := some v1) rfl (.refl _) ?_ (fun u' hu => ?_) z3 z4
            · simp only [Ab.av, hts, has]
              rw [show (x1 X).P = X.P from rfl, hu]
              simp only [g1, k1, Option.bind_some, z1, Option.map_some]
            · injection hu with hu; subst hu; exact ⟨v1, rfl, z2⟩
          · rename_i hu
            simp only [Ex_ofO] at h
            obtain ⟨a, ha, b, hb, h⟩ := h
            obtain ⟨u, g1, g2⟩ := evA_sound hX he ha
            obtain ⟨w, k1, k2⟩ := evA_sound hX he hb
            obtain ⟨y, v1, H1', mu', ln', rfl, z1, z2, z3, z4⟩ := appendA_sound hX h g2 k2 hH
            refine .mem (r1 := some v1) rfl (.refl _) ?_ (fun u' hu => ?_) z3 z4
            · simp only [Ab.av, hts, has]
              rw [show (x1 X).P = X.P from rfl, hu]
              simp only [g1, k1, Option.bind_some, z1, Option.map_some]
            · injection hu with hu; subst hu; exact ⟨v1, rfl, z2⟩
          · simp at h
        · simp at h
      | copy =>
        simp only [opA] at h
        split at h
        · rename_i t ts s x hts has
          simp only [Ex_ofO] at h
          obtain ⟨a, ha, b, hb, h⟩ := h
          obtain ⟨u, g1, g2⟩ := evA_sound hX he ha
          obtain ⟨w, k1, k2⟩ := evA_sound hX he hb
          obtain ⟨y, v1, H1', rfl, z1, z2, z3, z4⟩ := copyA_sound hX h g2 k2 hH
          refine .mem (r1 := some v1) rfl (.refl _) ?_ (fun u' hu => ?_) z3 z4
          · simp only [Ab.av, hts, has, g1, k1, Option.bind_some, z1, Option.map_some]
          · injection hu with hu; subst hu; exact ⟨v1, rfl, z2⟩
        · simp at h
      | _ => simp [opA] at h
  | _ => simp [opA] at h
end
end Go.Ty
