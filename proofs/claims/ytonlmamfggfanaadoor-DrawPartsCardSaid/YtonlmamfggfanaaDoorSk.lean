import Derived.Test.YtonlmamfggfanaaDoorSm
namespace Go.Ty
open Go.Ab (TRel VRel LRel CRel ERel Sim)

/-! ## What makes an object: the result points to new own memory -/
def resN (st : St) (rs : List ResultVar) (K : (s : Sh) → s.T → Prop) : Prop := match rs with
  | [.tmp t] => (match st.env t with
    | some (.av (.cell (.ptr b (.one _) []))) => (match st.heap b with
      | .live ⟨.one _ (.val s y), true⟩ => K s y
      | _ => False)
    | _ => False)
  | _ => False
section
variable (X : Cx) (N : Nat) (LS : Nat → Option PT)
def FWN (fn : Func) (args : List SV) (K : (s : Sh) → s.T → Prop) : Prop :=
  match fn.body with
  | some c => W X N LS c ⟨envOf args, fun _ => .fresh, 1000⟩ fun e st => match e with
    | .exit _ => False
    | .normal => resN st fn.results.toList K
    | .ret => resN st fn.results.toList K
  | none => False
end
def PCN (X : Cx) (f : FuncId) (args : List SV) (s : Sh) (y : s.T) : Prop := ∀ (C : Ab.Ctx) (ρ : Nat → Ab.Loc) (H1 : Ab.Heap) (w : World) (l1 l' : List Value),
  ArgsR X (lk0 H1) args l1 → LRel (TRel ρ H1.length) l1 l' → Sim (x1 X) C ρ H1 w →
  CallR X f l' w fun v' w' => ∃ ρ' H1' i B, TRel ρ' H1'.length (.pointer (some ⟨i, 0, none⟩)) v' ∧ (∀ j, j < H1.length → ρ' j = ρ j) ∧ Sim (x1 X) C ρ' H1' w' ∧ H1'[i]? = some (some B) ∧ B.own = true ∧ Cells (gl1 X) H1' s y B.cells
theorem FWN_pcn {X : Cx} (hX : XOK X) (hcon : ConsOK X) (hm : X.P.follows .mixedOrders = true) {f : FuncId} {fn : Func} {c : Code} {LS : Nat → Option PT} {args : List SV} {s : Sh} {y : s.T} (hf : X.P.funcs[f]? = some fn) (hc : fn.body = some c)
    (hname : (fn.name == "runtime.NumGoroutine") = false) (hN : Nat.ble args.length fn.ntmps = true) (hl : LoopsOK X fn.ntmps LS c) (h : FWN X fn.ntmps LS fn args fun s' y' => (⟨s', y'⟩ : (s : Sh) × s.T) = ⟨s, y⟩) : PCN X f args s y := by
  refine fun C ρ H1 w l1 l' ha hl' hs => .inl ⟨fn, hf, hname, by rw [hc]; rfl, ?_⟩
  have hN := Nat.le_of_ble_eq_true hN
  unfold FWN at h
  rw [hc] at h
  refine calls_of_wp hf hc ?_
  have hst : SR X C fn.ntmps ρ (lk0 H1) ⟨envOf args, fun _ => .fresh, 1000⟩ { tmps := (⟨l'⟩ : Array Value) ++ Array.replicate (fn.ntmps - (⟨l'⟩ : Array Value).size) undef, defers := [] } w := by
    refine ⟨Ab.envOf l1, Ab.SRel.start (H := H1) hs hl' (by rw [← ha.1]; exact hN), fun k v hk => ?_, ⟨(fun k x hk => nomatch hk), (fun k k' x x' i hk => nomatch hk), (fun k _ => rfl), (fun k i hk => nomatch hk)⟩⟩
    obtain ⟨v1, g1, g2⟩ := ha.2 k v hk
    exact ⟨v1, g1, g2⟩
  refine W_sound hX hcon hm c hl _ _ h C ρ (lk0 H1) _ w _ hst (fun e s' a' w' hk ht => ?_)
  obtain ⟨ρ', M', t1, t2, e1, t3, t4, t5⟩ := ht
  have hk : resN s' fn.results.toList (fun s' y' => (⟨s', y'⟩ : (s : Sh) × s.T) = ⟨s, y⟩) ∧ ∀ i, e ≠ .exit i := by
    cases e with
    | normal => exact ⟨hk, by simp⟩
    | ret => exact ⟨hk, by simp⟩
    | exit i => cases hk
  obtain ⟨hk, hx⟩ := hk
  unfold resN at hk
  split at hk
  · rename_i t hrs
    split at hk
    · rename_i b s1 henv
      split at hk
      · rename_i s2 s3 y0 hb
        obtain ⟨v1, g1, g2⟩ := t4 t _ henv
        obtain ⟨i, q1, q2, rfl⟩ := VR.cell g2
        obtain ⟨i', B, z1, z2, z3, z4, _⟩ := t5.live b _ hb
        rw [q1] at z1
        injection z1 with z1
        subst z1
        obtain ⟨rfl, z4⟩ : s3 = s2 ∧ Cells (gl1 X) M'.H1 s3 y0 B.cells := z4
        cases hk
        have hoff : offL (.one s1) [] = 0 := by simp only [offL, offS_nil]
        rw [hoff] at g1
        have hares : Ab.aresL (x1 X) ⟨e1, M'.H1⟩ fn.results.toList = some [.pointer (some ⟨i, 0, none⟩)] := by
          rw [hrs]
          show ((e1 t).bind fun v => bif Ab.isTup v then none else some v).bind (fun v => some [v]) = _
          rw [g1]; rfl
        have hres := aresults_one hares
        obtain ⟨v', r1, r2⟩ := Ab.aresults_sound t3 hres
        have fin : ∃ v'', Ending.returned v' = .returned v'' ∧ ∃ ρ' H1' i B, TRel ρ' H1'.length (.pointer (some ⟨i, 0, none⟩)) v'' ∧ (∀ j, j < H1.length → ρ' j = ρ j) ∧ Sim (x1 X) C ρ' H1' w' ∧ H1'[i]? = some (some B) ∧ B.own = true ∧ Cells (gl1 X) H1' s y B.cells :=
          ⟨v', rfl, ρ', M'.H1, i, B, r2, t1, t3.sim, z2, z3, z4⟩
        cases e with
        | normal => exact ⟨t3.defers, v', r1, fin⟩
        | ret => exact ⟨t3.defers, v', r1, fin⟩
        | exit i => exact absurd rfl (hx i)
      · cases hk
    · cases hk
  · cases hk

/-- an object of the callee's, taken over -/
theorem adopt_one {X : Cx} {M : Lk} {H : Heap} (hH : HR (gl1 X) M H) {nid i : Nat} {B : Ab.Blk} {s : Sh} {y : s.T} (hf : H nid = .fresh) (hB : M.H1[i]? = some (some B)) (ho : B.own = true) (hc : Cells (gl1 X) M.H1 s y B.cells)
    (hno : ∀ k x, H k = .live x → M.mu k ≠ some i) :
    HR (gl1 X) ⟨M.H1, updN M.mu nid (some i), M.ln⟩ (H.put nid (.live ⟨.one s (.val s y), true⟩)) := by
  have hnone := hH.fresh nid hf
  have hilt : i < M.H1.length := (List.getElem?_eq_some_iff.1 hB).1
  have hup : ∀ k j, M.mu k = some j → updN M.mu nid (some i) k = some j ∧ M.ln k = M.ln k := by
    intro k j hk
    have e : k ≠ nid := by rintro rfl; rw [hnone] at hk; cases hk
    exact ⟨by unfold updN; rw [if_neg e]; exact hk, rfl⟩
  have look : ∀ k z, (H.put nid (.live ⟨.one s (.val s y), true⟩)) k = .live z → (k = nid ∧ z = ⟨.one s (.val s y), true⟩) ∨ (k ≠ nid ∧ H k = .live z) := by
    intro k z hk
    rw [put_at] at hk
    by_cases e : k = nid
    · rw [if_pos e] at hk; injection hk with hk; exact .inl ⟨e, hk.symm⟩
    · rw [if_neg e] at hk; exact .inr ⟨e, hk⟩
  refine { live := fun k z hk => ?_, inj := fun k k' z z' j hk hk' hoy hm hm' => ?_, fresh := fun k hk => ?_, lt := fun k j hk => ?_ }
  · rcases look k z hk with ⟨rfl, rfl⟩ | ⟨hne, hk⟩
    · exact ⟨i, B, by simp [updN], hB, ho, ⟨rfl, hc⟩, fun _ _ h => by cases h⟩
    · obtain ⟨j, b, g1, g2, g3, g4, g5⟩ := hH.live k z hk
      exact ⟨j, b, (hup k j g1).1, g2, g3, g4.mono (M := M) (M' := ⟨M.H1, updN M.mu nid (some i), M.ln⟩) (fun _ _ h _ => h) hup, g5⟩
  · have hm : updN M.mu nid (some i) k = some j := hm
    have hm' : updN M.mu nid (some i) k' = some j := hm'
    rcases look k z hk with ⟨rfl, rfl⟩ | ⟨hne, hk0⟩
    · rcases look k' z' hk' with ⟨rfl, rfl⟩ | ⟨hne', hk0'⟩
      · rfl
      · unfold updN at hm hm'
        rw [if_pos rfl] at hm
        rw [if_neg hne'] at hm'
        injection hm with hm; subst hm
        exact absurd hm' (hno k' z' hk0')
    · rcases look k' z' hk' with ⟨rfl, rfl⟩ | ⟨hne', hk0'⟩
      · unfold updN at hm hm'
        rw [if_pos rfl] at hm'
        rw [if_neg hne] at hm
        injection hm' with hm'; subst hm'
        exact absurd hm (hno k z hk0)
      · unfold updN at hm hm'
        rw [if_neg hne] at hm
        rw [if_neg hne'] at hm'
        exact hH.inj k k' z z' j hk0 hk0' hoy hm hm'
  · rw [put_at] at hk
    by_cases e : k = nid
    · rw [if_pos e] at hk; cases hk
    · rw [if_neg e] at hk
      show updN M.mu nid (some i) k = none
      unfold updN; rw [if_neg e]; exact hH.fresh k hk
  · have hk : updN M.mu nid (some i) k = some j := hk
    unfold updN at hk
    by_cases e : k = nid
    · rw [if_pos e] at hk; injection hk with hk; subst hk; exact hilt
    · rw [if_neg e] at hk; exact hH.lt k j hk
def conNew (as : List Ar) (s : Sh) (D : HA as → Bool) (G : HA as → s.T) : ConT := fun args nid => snapL args fun args => match parseA as args with
  | some xs => .dem (D xs) (.new nid ⟨.one s (.val s (G xs)), true⟩ (.ret (some (.av (.cell (.ptr nid (.one s) []))))))
  | none => .fail
theorem conNew_ok {P : Program} {gl : Nat → Option ((s : Sh) × s.T)} {f : FuncId} {as : List Ar} {s : Sh} {D : HA as → Bool} {G : HA as → s.T} (hsf : s.flat = true) (h : ∀ xs : HA as, wfHA as xs → D xs = true → PCN (bx P gl) f (argsA as xs) s (G xs)) : COK P gl f (conNew as s D G) := by
  intro C ρ M H w args l1 l' nid v H' hex ha hl hs hH
  obtain ⟨l2, k1, k3, k6⟩ := snapL_sound hex ha hH
  cases hg : parseA as l2 with
  | none => rw [hg] at k1; simp at k1
  | some xs =>
    rw [hg] at k1
    have k1 : Ex (.dem (D xs) (.new nid ⟨.one s (.val s (G xs)), true⟩ (.ret (some (.av (.cell (.ptr nid (.one s) []))))))) H v H' := k1
    rw [Ex_dem, Ex_new, Ex_ret] at k1
    obtain ⟨hd, hf, rfl, rfl⟩ := k1
    have ha0 : ArgsR (bx P gl) (lk0 (frzAll M.H1)) l2 l1 := ⟨k3.1, fun j u hu => by
      obtain ⟨u1, q1, q2⟩ := k3.2 j u hu
      exact ⟨u1, q1, noRef_svr (M := ⟨frzAll M.H1, M.mu, M.ln⟩) (M' := lk0 (frzAll M.H1)) (fun _ _ h _ => h) (k6 u (List.mem_of_getElem? hu)) q2⟩⟩
    have ha' := argsA_parse hg ha0
    have key := h xs (argsA_wf ha') hd ⟨w, fun _ => False, 0, ρ⟩ ρ (frzAll M.H1) w l1 l' ha' (by rw [frzAll_len]; exact hl) (sim_snap hs)
    have fin : ∀ v' w', (∃ ρ' H1' i B, TRel ρ' H1'.length (.pointer (some ⟨i, 0, none⟩)) v' ∧ (∀ j, j < (frzAll M.H1).length → ρ' j = ρ j) ∧ Sim (x1 (bx P gl)) ⟨w, fun _ => False, 0, ρ⟩ ρ' H1' w' ∧ H1'[i]? = some (some B) ∧ B.own = true ∧ Cells (gl1 (bx P gl)) H1' s (G xs) B.cells) →
        ∃ u v1 ρ' M', some (SV.av (.cell (.ptr nid (.one s) []))) = some u ∧ SVR (gl1 (bx P gl)) M' u v1 ∧ TRel ρ' M'.H1.length v1 v' ∧ (∀ i, i < M.H1.length → ρ' i = ρ i) ∧ Sim (x1 (bx P gl)) C ρ' M'.H1 w' ∧ HR (gl1 (bx P gl)) M' (H.put nid (.live ⟨.one s (.val s (G xs)), true⟩)) ∧ Ext M H M' (H.put nid (.live ⟨.one s (.val s (G xs)), true⟩)) := by
      rintro v' w' ⟨ρ', H1', i, B, q1, q2, q4, b1, b2, b3⟩
      have hcells : B.cells = cellsOf s (G xs) := cellsOf_eq hsf b3
      have hp : ∀ v ∈ B.cells, Ab.plainC v = true := fun v hv => plain_cells (x := G xs) hsf v (by rw [← hcells]; exact hv)
      have hsim := sim_adopt hs q4 b1 b2 hp
      obtain ⟨z1, z2⟩ := HR_keep (B := M.H1 ++ [some B]) hH (fun j b hb => by rw [List.getElem?_append_left (List.getElem?_eq_some_iff.1 hb).1]; exact hb) (by rw [List.length_append]; exact Nat.le_succ _)
      have hno : ∀ k x, H k = .live x → M.mu k ≠ some M.H1.length := fun k x _ hmu => absurd (hH.lt k _ hmu) (Nat.lt_irrefl _)
      have hA := adopt_one (M := ⟨M.H1 ++ [some B], M.mu, M.ln⟩) (y := G xs) z1 hf (by rw [List.getElem?_append_right (Nat.le_refl _), Nat.sub_self]; rfl) b2 (by rw [hcells]; exact cells_of hsf b3.wf) hno
      have hup : ∀ k j, M.mu k = some j → updN M.mu nid (some M.H1.length) k = some j ∧ M.ln k = M.ln k := by
        intro k j hk
        have hnone : M.mu nid = none := hH.fresh nid hf
        have e : k ≠ nid := by rintro rfl; rw [hnone] at hk; cases hk
        exact ⟨by unfold updN; rw [if_neg e]; exact hk, rfl⟩
      refine ⟨_, .pointer (some ⟨M.H1.length, 0, none⟩), Ab.upd ρ M.H1.length (ρ' i), ⟨M.H1 ++ [some B], updN M.mu nid (some M.H1.length), M.ln⟩, rfl, VR.mkptr (i := M.H1.length) (r := .one s) (p := []) (by simp [updN]) (inP_nil s) (by simp only [offL, offS_nil]), ?_, fun j hj => Ab.upd_lt j hj, hsim, hA, ?_⟩
      · obtain ⟨g1, rfl⟩ := TRel.ptr q1
        refine ⟨fun _ => by rw [List.length_append]; exact Nat.lt_succ_self _, ?_⟩
        simp only [Ab.locA, Ab.upd_same]
      · refine { len := z2.len, mu := fun k j hk => hup k j hk, keep := fun j b hb hfo => ?_, ro := z2.ro }
        obtain ⟨y1, y2⟩ := z2.keep j b hb hfo
        refine ⟨y1, fun k x hk ho hm => ?_⟩
        rw [put_at] at hk
        have hm : updN M.mu nid (some M.H1.length) k = some j := hm
        by_cases ek : k = nid
        · subst ek
          unfold updN at hm
          rw [if_pos rfl] at hm
          injection hm with hm
          subst hm
          exact absurd (List.getElem?_eq_some_iff.1 hb).1 (Nat.lt_irrefl _)
        · rw [if_neg ek] at hk
          unfold updN at hm
          rw [if_neg ek] at hm
          exact y2 k x hk ho hm
    rcases key with ⟨fn, c1, c2, c3, c4⟩ | ⟨v', w', c1, c2⟩
    · exact .inl ⟨fn, c1, c2, c3, c4.mono fun en w' ⟨v', e1, e2⟩ => ⟨v', e1, fin v' w' e2⟩⟩
    · exact .inr ⟨v', w', c1, fin v' w' c2⟩
end Go.Ty
