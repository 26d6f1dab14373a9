import Derived.Test.YtninlahlmjhmhaaTyPure
namespace Go.Ty
open Go.Ab (vcells plainC capU szOf zeroOf aggT apart abound abounds)
section
variable {X : Cx} {M : Lk} {H H' : Heap} {e : Env} {e1 : Ab.Env} {v : Option SV}

def Bnd (m : Nat) (d : Nat) (O : Option (Option Value)) : Prop := (O = none ∧ m = d) ∨ ∃ w, O = some w ∧ ∀ cap, m ≤ cap → abound cap w = some m
theorem abounds_none {len cap h l : Nat} {LO HI : Option (Option Value)} (hh : Bnd h len HI) (hl : Bnd l 0 LO) (h1 : l ≤ h) (h2 : h ≤ cap) : abounds len cap LO HI none = some (l, h, cap) := by
  unfold abounds
  rcases hh with ⟨rfl, rfl⟩ | ⟨w, rfl, hw⟩ <;> rcases hl with ⟨rfl, rfl⟩ | ⟨w', rfl, hw'⟩ <;> simp_all
theorem abounds_some {len cap h l m : Nat} {LO HI MX : Option (Option Value)} (hh : ∃ w, HI = some w ∧ ∀ cap, h ≤ cap → abound cap w = some h) (hl : Bnd l 0 LO) (hm : ∃ w, MX = some w ∧ ∀ cap, m ≤ cap → abound cap w = some m) (h1 : l ≤ h) (h2 : h ≤ m) (h3 : m ≤ cap) :
    abounds len cap LO HI MX = some (l, h, m) := by
  unfold abounds
  obtain ⟨w, rfl, hw⟩ := hh
  obtain ⟨w2, rfl, hw2⟩ := hm
  rcases hl with ⟨rfl, rfl⟩ | ⟨w', rfl, hw'⟩ <;> simp_all

theorem VR.mkref {b i c o : Nat} {r : Lay} {p : Path} {s : Sh} {off len : Nat} {cap : Option Nat} {u : Value} (h1 : M.mu b = some i) (h2 : refIn (M.ln b) r p s off len cap) (h3 : u = .slice (some ⟨i, o, none⟩) len c) (h4 : o ≤ offL r p + off * s.size) (h5 : o = offL r p + off * s.size ∨ c = 0)
    (h6 : capIs (M.ln b) off len cap c) : VR (gl1 X) M (.cell (.ref b r p s off len cap)) u := .mkcell ⟨i, c, o, h1, h2, h3, h4, h5, h6⟩

/-- a part of a slice that is no longer written -/
theorem sl_part {s : Sh} {xs : List s.T} {a : Addr} {l h m c : Nat} (hr : xs = [] ∨ ∃ ds, Row (gl1 X) M.H1 a ds ∧ AllC (Cells (gl1 X) M.H1 s) xs ds) (h1 : l ≤ h) (h2 : h ≤ m) (h3 : h ≤ xs.length) (hc : okCap (h - l) c) (a' : Addr) (ha : a' = Ab.addA a (l * s.size) ∨ m = l) :
    VR (gl1 X) M (.val (.sl s) ((xs.take h).drop l)) (.slice (some a') (h - l) c) := by
  have hl : ((xs.take h).drop l).length = h - l := by rw [List.length_drop, List.length_take]; omega
  refine VR.mkval (s := .sl s) (cs := [.slice (some a') (h - l) c]) (.inr ⟨a', c, by rw [hl], by rw [hl]; exact hc, ?_⟩)
  by_cases he : h = l
  · exact .inl (by rw [← List.length_eq_zero_iff, hl]; omega)
  · have ha : a' = Ab.addA a (l * s.size) := by
      rcases ha with ha | ha
      · exact ha
      · omega
    rcases hr with rfl | ⟨ds, hr, hds⟩
    · simp at h3; omega
    · refine .inr ⟨(ds.take (h * s.size)).drop (l * s.size), ?_, (hds.take (fun _ _ h => h.length) h).drop (fun _ _ h => h.length) l⟩
      have hlen := hds.length fun _ _ h => Cells.length h
      rw [List.drop_take, ha]
      have := Nat.mul_le_mul_right s.size h3
      have := Nat.mul_le_mul_right s.size h1
      exact hr.part (by omega)

theorem sliceA_sound (hX : XOK X) (he : ER X M e e1) {t : TypeId} {x : AV} {u : Value} {lo hi mx : Option Operand} (h : Ex (sliceA X t x (lo.map (evA X e)) (hi.map (evA X e)) (mx.map (evA X e))) H v H') (hx : VR (gl1 X) M x u) :
    PureOk X M H v H' (Ab.aslice X.P t u (lo.map (Ab.evo e1)) (hi.map (Ab.evo e1)) (mx.map (Ab.evo e1))) := by
  have capne : ∀ {c : Nat}, c < capU → Nat.beq c capU = false := by
    intro c hc
    cases hb : Nat.beq c capU with
    | false => rfl
    | true => have := Nat.eq_of_beq_eq_true hb; omega
  unfold sliceA at h
  split at h
  · rename_i s xs
    split at h
    · rename_i s' hs
      simp only [Ex_bif, Ex_fail, and_false, or_false] at h
      obtain ⟨hb, h⟩ := h
      have hb := Sh.eq_of_beq hb; subst hb
      obtain ⟨el, hu, hse⟩ := shChk_sl (hX.sh _ _ hs)
      obtain ⟨cs, hc, rfl⟩ := hx.val
      split at h
      · rename_i hmx
        obtain ⟨hh, h, bh⟩ := bndA_sound hX he h
        obtain ⟨ll, h, bl⟩ := bndA_sound hX he h
        simp only [Ex_dem, Ex_pure, Bool.and_eq_true, Nat.ble_eq] at h
        obtain ⟨⟨h1, h2⟩, rfl, rfl⟩ := h
        have hmx : mx = none := by cases mx <;> simp at hmx ⊢
        subst hmx
        rcases hc with ⟨rfl, rfl⟩ | ⟨a, c, rfl, hcap, hr⟩
        · have h2 : hh ≤ 0 := h2
          have e1' : hh = 0 := by omega
          have e2' : ll = 0 := by omega
          subst e1'; subst e2'
          have := abounds_none (len := 0) (cap := 0) bh bl (Nat.le_refl _) (Nat.le_refl _)
          refine .to (v1 := .slice none 0 0) ?_ ?_
          · simp only [List.take_nil, List.drop_nil]
            exact VR.mkval (s := .sl s') (.inl ⟨rfl, rfl⟩)
          · simp [Ab.aslice, hu, mkV, Sh.isAgg, shChk_sz hse, this, capU]
            rfl
        · simp only [mkV, Sh.isAgg, cond_false, List.headD_cons, Option.map_none, Ab.aslice, hu, shChk_sz hse, Option.bind_some]
          rcases hcap with rfl | ⟨hcap1, hcap2⟩
          · have := abounds_none (cap := List.length xs) bh bl h1 h2
            simp only [Nat.beq_refl, cond_true, this, Option.bind_some, Option.map_some]
            exact .to (sl_part (m := hh + 1) hr h1 (by omega) h2 (.inl rfl) _ (.inl rfl)) rfl
          · have := abounds_none (cap := c) bh bl h1 (by omega)
            simp only [capne hcap2, cond_false, show Nat.ble (List.length xs) c = true from by simpa using hcap1, cond_true, this, Option.bind_some]
            by_cases hcl : c = ll
            · rw [if_pos hcl]
              exact .to (sl_part hr h1 (show hh ≤ c by omega) h2 (.inr ⟨by omega, by omega⟩) a (.inr hcl)) rfl
            · rw [if_neg hcl]
              exact .to (sl_part hr h1 (show hh ≤ c by omega) h2 (.inr ⟨by omega, by omega⟩) _ (.inl rfl)) rfl
      · rename_i w hmx
        simp only [Ex_bif, Ex_fail, and_false, false_or, Bool.not_eq_false'] at h
        obtain ⟨his, h⟩ := h
        obtain ⟨hh, h, bh⟩ := bndA_sound hX he h
        obtain ⟨ll, h, bl⟩ := bndA_sound hX he h
        try rw [← hmx] at h
        obtain ⟨mm, h, bm⟩ := bndA_sound hX he h
        simp only [Ex_dem, Ex_pure, Bool.and_eq_true, Nat.ble_eq, Nat.blt_eq] at h
        obtain ⟨⟨h1, h2, h3, h4, h5⟩, rfl, rfl⟩ := h
        have bm : ∃ w, mx.map (Ab.evo e1) = some w ∧ ∀ cap, mm ≤ cap → abound cap w = some mm := by
          rcases bm with ⟨bm, _⟩ | bm
          · cases mx <;> simp at bm hmx
          · exact bm
        have bh : ∃ w, hi.map (Ab.evo e1) = some w ∧ ∀ cap, hh ≤ cap → abound cap w = some hh := by
          rcases bh with ⟨bh, _⟩ | bh
          · cases hi <;> simp at bh his
          · exact bh
        rcases hc with ⟨rfl, rfl⟩ | ⟨a, c, rfl, hcap, hr⟩
        · simp at h4
        · obtain ⟨wm, ewm, bm'⟩ := bm
          simp only [mkV, Sh.isAgg, cond_false, List.headD_cons, Ab.aslice, hu, shChk_sz hse, Option.bind_some, ewm]
          rcases hcap with rfl | ⟨hcap1, hcap2⟩
          · have := abounds_some (len := List.length xs) (cap := List.length xs) bh bl ⟨wm, rfl, bm'⟩ h1 h2 h3
            simp only [Nat.beq_refl, cond_true, show Nat.blt 0 (List.length xs) = true from by simpa using h4, this, Option.bind_some, Option.map_some]
            by_cases hcl : mm = ll
            · rw [if_pos hcl]
              exact .to (sl_part hr h1 h2 (by omega) (.inr ⟨by omega, by have := hcl; simp only [capU]; omega⟩) a (.inr hcl)) rfl
            · rw [if_neg hcl]
              exact .to (sl_part hr h1 h2 (by omega) (.inr ⟨by omega, by omega⟩) _ (.inl rfl)) rfl
          · have := abounds_some (len := List.length xs) (cap := c) bh bl ⟨wm, rfl, bm'⟩ h1 h2 (by omega)
            simp only [capne hcap2, cond_false, show Nat.ble (List.length xs) c = true from by simpa using hcap1, cond_true, this, Option.bind_some]
            by_cases hcl : mm = ll
            · rw [if_pos hcl]
              exact .to (sl_part hr h1 h2 (by omega) (.inr ⟨by omega, by omega⟩) a (.inr hcl)) rfl
            · rw [if_neg hcl]
              exact .to (sl_part hr h1 h2 (by omega) (.inr ⟨by omega, by omega⟩) _ (.inl rfl)) rfl
    · simp at h
  · rename_i n s xs
    split at h
    · rename_i n' s' hs hmx
      simp only [Ex_bif, Ex_fail, and_false, or_false, Bool.and_eq_true, Nat.blt_eq] at h
      obtain ⟨⟨hb, hb2, hb3⟩, h⟩ := h
      have hb := Sh.eq_of_beq hb; subst hb
      have hb2 := Nat.eq_of_beq_eq_true hb2; subst hb2
      obtain ⟨el, hu, hse⟩ := shChk_arr (hX.sh _ _ hs)
      obtain ⟨a, ds, rfl, hr, hc1, hc2⟩ := hx.cell
      obtain ⟨hh, h, bh⟩ := bndA_sound hX he h
      obtain ⟨ll, h, bl⟩ := bndA_sound hX he h
      simp only [Ex_dem, Ex_pure, Bool.and_eq_true, Nat.ble_eq] at h
      obtain ⟨⟨h1, h2⟩, rfl, rfl⟩ := h
      have hmx : mx = none := by cases mx <;> simp at hmx ⊢
      subst hmx
      have := abounds_none (cap := n) bh bl h1 h2
      have hlt : List.length xs = n := hc1
      simp only [Ab.aslice, hu, shChk_sz hse, Option.bind_some, Option.map_none, show Nat.blt n capU = true from by simpa using hb3, cond_true, this]
      by_cases hcl : n = ll
      · rw [if_pos hcl]
        exact .to (sl_part (.inr ⟨ds, hr, hc2⟩) h1 (show hh ≤ n by omega) (by omega) (.inr ⟨by omega, by omega⟩) a (.inr hcl)) rfl
      · rw [if_neg hcl]
        exact .to (sl_part (.inr ⟨ds, hr, hc2⟩) h1 (show hh ≤ n by omega) (by omega) (.inr ⟨by omega, by omega⟩) _ (.inl rfl)) rfl
    · simp at h
  · rename_i b r p
    split at h
    · rename_i n s hs hmx
      simp only [Ex_bif, Ex_fail, and_false, or_false, Bool.and_eq_true, Nat.blt_eq] at h
      obtain ⟨⟨hb, hb3⟩, h⟩ := h
      obtain ⟨el, hu, hse⟩ := shChk_arr (hX.sh _ _ hs)
      have hsub := okSub_eq hb
      obtain ⟨q, q1, q2, rfl⟩ := hx.cell
      obtain ⟨hh, h, bh⟩ := bndA_sound hX he h
      obtain ⟨ll, h, bl⟩ := bndA_sound hX he h
      simp only [Ex_dem, Ex_pure, Bool.and_eq_true, Nat.ble_eq] at h
      obtain ⟨⟨h1, h2⟩, rfl, rfl⟩ := h
      have hmx : mx = none := by cases mx <;> simp at hmx ⊢
      subst hmx
      have := abounds_none (cap := n) bh bl h1 h2
      simp only [Ab.aslice, hu, shChk_sz hse, Option.bind_some, Option.map_none, show Nat.blt n capU = true from by simpa using hb3, cond_true, this]
      have hin : refIn (M.ln b) r p s ll (hh - ll) (some (n - ll)) := .inl ⟨n, n - ll, hsub, q2, rfl, by omega, by omega⟩
      by_cases hcl : n = ll
      · rw [if_pos hcl]
        exact .to (.mkref (c := n - ll) q1 hin rfl (Nat.le_add_right _ _) (.inr (by omega)) ⟨rfl, by omega⟩) rfl
      · rw [if_neg hcl]
        exact .to (.mkref (c := n - ll) (o := offL r p + ll * s.size) q1 hin rfl (Nat.le_refl _) (.inl rfl) ⟨rfl, by omega⟩) rfl
    · simp at h
  · rename_i b r p e' off len cap
    split at h
    · rename_i s' hs
      simp only [Ex_bif, Ex_fail, and_false, or_false] at h
      obtain ⟨hb, h⟩ := h
      have hb := Sh.eq_of_beq hb; subst hb
      obtain ⟨el, hu, hse⟩ := shChk_sl (hX.sh _ _ hs)
      obtain ⟨q, c, o, q1, q2, rfl, q3, q4, q5⟩ := hx.cell
      split at h
      · rename_i hmx
        obtain ⟨hh, h, bh⟩ := bndA_sound hX he h
        obtain ⟨ll, h, bl⟩ := bndA_sound hX he h
        simp only [Ex_dem, Ex_pure, Bool.and_eq_true, Nat.ble_eq] at h
        obtain ⟨⟨h1, h2⟩, rfl, rfl⟩ := h
        have hmx : mx = none := by cases mx <;> simp at hmx ⊢
        subst hmx
        simp only [Ab.aslice, hu, shChk_sz hse, Option.bind_some, Option.map_none]
        cases cap with
        | none =>
          have h2 : hh ≤ len := h2
          rcases q2 with ⟨n, c', k1, k2, k3, k4, k5⟩ | ⟨k1, k2, k3, k4⟩
          · cases k3
          rcases q5 with q5 | ⟨q5, q6, q7⟩
          · subst q5
            have q4 : o = offL r p + off * s'.size := by
              rcases q4 with q4 | q4
              · exact q4
              · simp [capU] at q4
            have := abounds_none (cap := len) bh bl h1 h2
            simp only [Nat.beq_refl, cond_true, this, Option.bind_some, Option.map_some]
            exact .to (.mkref (c := capU) (o := o + ll * s'.size) q1 (.inr ⟨k1, k2, by omega, by simp⟩) rfl (by rw [q4, Nat.add_mul]; omega) (.inl (by rw [q4, Nat.add_mul]; omega)) (.inl rfl)) rfl
          · have := abounds_none (len := len) (cap := c) bh bl h1 (by omega)
            simp only [capne q5, cond_false, show Nat.ble len c = true from by simpa using q6, cond_true, this, Option.bind_some]
            by_cases hcl : c = ll
            · rw [if_pos hcl]
              exact .to (.mkref (c := c - ll) q1 (.inr ⟨k1, k2, by omega, by simp⟩) rfl (Nat.le_trans q3 (Nat.add_le_add_left (Nat.mul_le_mul_right _ (by omega)) _)) (.inr (by omega)) (.inr ⟨by omega, by omega, by omega⟩)) rfl
            · rw [if_neg hcl]
              have q4 : o = offL r p + off * s'.size := by
                rcases q4 with q4 | q4
                · exact q4
                · omega
              exact .to (.mkref (c := c - ll) (o := o + ll * s'.size) q1 (.inr ⟨k1, k2, by omega, by simp⟩) rfl (by rw [q4, Nat.add_mul]; omega) (.inl (by rw [q4, Nat.add_mul]; omega)) (.inr ⟨by omega, by omega, by omega⟩)) rfl
        | some k =>
          obtain ⟨q5, q6⟩ := q5
          subst q5
          have h2 : hh ≤ c := h2
          have hlc : len ≤ c := by
            rcases q2 with ⟨n, c', k1, k2, k3, k4, k5⟩ | ⟨k1, k2, k3, k4⟩
            · cases k3; exact k4
            · exact (k4 c rfl).1
          have := abounds_none (len := len) (cap := c) bh bl h1 h2
          simp only [capne q6, cond_false, show Nat.ble len c = true from by simpa using hlc, cond_true, this, Option.bind_some]
          have hin : refIn (M.ln b) r p s' (off + ll) (hh - ll) (some (c - ll)) := by
            rcases q2 with ⟨n, c', k1, k2, k3, k4, k5⟩ | ⟨k1, k2, k3, k4⟩
            · cases k3; exact .inl ⟨n, c - ll, k1, k2, rfl, by omega, by omega⟩
            · have := k4 c rfl
              refine .inr ⟨k1, k2, by omega, fun c' hc' => ?_⟩
              injection hc' with hc'; subst hc'; omega
          by_cases hcl : c = ll
          · rw [if_pos hcl]
            exact .to (.mkref (c := c - ll) q1 hin rfl (Nat.le_trans q3 (Nat.add_le_add_left (Nat.mul_le_mul_right _ (by omega)) _)) (.inr (by omega)) ⟨rfl, Nat.lt_of_le_of_lt (Nat.sub_le _ _) q6⟩) rfl
          · rw [if_neg hcl]
            have q4 : o = offL r p + off * s'.size := by
              rcases q4 with q4 | q4
              · exact q4
              · omega
            exact .to (.mkref (c := c - ll) (o := o + ll * s'.size) q1 hin rfl (by rw [q4, Nat.add_mul]; omega) (.inl (by rw [q4, Nat.add_mul]; omega)) ⟨rfl, Nat.lt_of_le_of_lt (Nat.sub_le _ _) q6⟩) rfl
      · rename_i w hmx
        split at h
        · rename_i k
          simp only [Ex_bif, Ex_fail, and_false, false_or, Bool.not_eq_false'] at h
          obtain ⟨his, h⟩ := h
          obtain ⟨hh, h, bh⟩ := bndA_sound hX he h
          obtain ⟨ll, h, bl⟩ := bndA_sound hX he h
          try rw [← hmx] at h
          obtain ⟨mm, h, bm⟩ := bndA_sound hX he h
          simp only [Ex_dem, Ex_pure, Bool.and_eq_true, Nat.ble_eq] at h
          obtain ⟨⟨h1, h2, h3⟩, rfl, rfl⟩ := h
          have bm : ∃ w, mx.map (Ab.evo e1) = some w ∧ ∀ cap, mm ≤ cap → abound cap w = some mm := by
            rcases bm with ⟨bm, _⟩ | bm
            · cases mx <;> simp at bm hmx
            · exact bm
          have bh : ∃ w, hi.map (Ab.evo e1) = some w ∧ ∀ cap, hh ≤ cap → abound cap w = some hh := by
            rcases bh with ⟨bh, _⟩ | bh
            · cases hi <;> simp at bh his
            · exact bh
          obtain ⟨q5, q6⟩ := q5
          subst q5
          have hlc : len ≤ c := by
            rcases q2 with ⟨n, c', k1, k2, k3, k4, k5⟩ | ⟨k1, k2, k3, k4⟩
            · cases k3; exact k4
            · exact (k4 c rfl).1
          have := abounds_some (len := len) (cap := c) bh bl bm h1 h2 h3
          simp only [Ab.aslice, hu, shChk_sz hse, Option.bind_some, capne q6, cond_false, show Nat.ble len c = true from by simpa using hlc, cond_true, this]
          have hin : refIn (M.ln b) r p s' (off + ll) (hh - ll) (some (mm - ll)) := by
            rcases q2 with ⟨n, c', k1, k2, k3, k4, k5⟩ | ⟨k1, k2, k3, k4⟩
            · cases k3; exact .inl ⟨n, mm - ll, k1, k2, rfl, by omega, by omega⟩
            · have := k4 c rfl
              refine .inr ⟨k1, k2, by omega, fun c' hc' => ?_⟩
              injection hc' with hc'; subst hc'; omega
          by_cases hcl : mm = ll
          · rw [if_pos hcl]
            exact .to (.mkref (c := mm - ll) q1 hin rfl (Nat.le_trans q3 (Nat.add_le_add_left (Nat.mul_le_mul_right _ (by omega)) _)) (.inr (by omega)) ⟨rfl, by omega⟩) rfl
          · rw [if_neg hcl]
            have q4 : o = offL r p + off * s'.size := by
              rcases q4 with q4 | q4
              · exact q4
              · omega
            exact .to (.mkref (c := mm - ll) (o := o + ll * s'.size) q1 hin rfl (by rw [q4, Nat.add_mul]; omega) (.inl (by rw [q4, Nat.add_mul]; omega)) ⟨rfl, by omega⟩) rfl
        · simp at h
    · simp at h
  · simp at h
end
end Go.Ty
