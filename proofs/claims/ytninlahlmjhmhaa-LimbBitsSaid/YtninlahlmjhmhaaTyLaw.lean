import Derived.Test.YtninlahlmjhmhaaTyOpen
import Derived.Test.YtninlahlmjhmhaaTyUse
import Derived.SizedLaws
namespace Go.Ty
open Go.Ab (TRel VRel CRel LRel Sim capU locA)
open Go.ChangeShapes Go.WideShapes Go.ChangeAt Go.RowKit

/-! ## The arguments of a law -/
def okHL : (ss : List Sh) → HL ss → Prop
  | [], _ => True
  | s :: r, x => s.okT x.1 ∧ okHL r x.2
def shsB (P : Program) : List TypeId → List Sh → Bool
  | [], [] => true
  | t :: ts, s :: ss => shChk P s (.inl t) && (s.good && shsB P ts ss)
  | _, _ => false

section
variable {P : Program} {H : Type} {enc : TypeId × Value → H} {W : World}

theorem notAgg {s : Sh} {t : TypeId} (hs : shChk P s (.inl t) = true) (hg : s.good = true) (ha : s.isAgg = false) {r : Reach} {b : Nat} {v : Value} (hv : Value.okWide P W r b t v) : ∀ cs, v ≠ .agg cs := by
  rintro cs rfl
  unfold Value.okWide at hv
  cases s with
  | int k => simp [shChk_int hs, Cell.okWide, Cell.ok] at hv
  | bool => simp [shChk_bool hs, Cell.okWide, Cell.ok] at hv
  | str => simp [shChk_str hs, Cell.okWide, Cell.ok] at hv
  | sl s => obtain ⟨e, h1, _⟩ := shChk_sl hs; simp [h1, Cell.okWide, Cell.ok] at hv
  | non k => simp [Sh.good] at hg
  | _ => simp [Sh.isAgg] at ha
theorem isAgg_v {s : Sh} {t : TypeId} (hs : shChk P s (.inl t) = true) (ha : s.isAgg = true) {r : Reach} {b : Nat} {v : Value} (hv : Value.okWide P W r b t v) : ∃ cs, v = .agg cs := by
  unfold Value.okWide at hv
  cases s with
  | unit => rw [shChk_unit hs] at hv; obtain ⟨cs, h, _⟩ := hv; exact ⟨cs, h⟩
  | pair a c => obtain ⟨fs, h1, _⟩ := shChk_pair hs; rw [h1] at hv; obtain ⟨cs, h, _⟩ := hv; exact ⟨cs, h⟩
  | arr n s => obtain ⟨e, h1, _⟩ := shChk_arr hs; rw [h1] at hv; obtain ⟨cs, h, _⟩ := hv; exact ⟨cs, h⟩
  | _ => simp [Sh.isAgg] at ha

theorem open_all {gl : Nat → Option ((s : Sh) × s.T)} : ∀ (ts : List TypeId) (ss : List Sh) (vs : List Value) (ds : List (DataW H)) (ps : List MemPlace) (H1 : Ab.Heap) (ρ : Nat → Ab.Loc), shsB P ts ss = true → (∀ (j : Nat) t v, ts[j]? = some t → vs[j]? = some v → ∃ b, Value.okWide P W .any b t v) →
    DataW.TrodAll enc P W 0 (fun _ => true) true ts vs ds ps → (∀ n ∈ DataW.weightsEach P ts ds, n ≤ reachBytes) → Ready (bx P gl) W H1 ρ →
    ∃ xs : HL ss, ∃ l1 H1' ρ', Ready (bx P gl) W H1' ρ' ∧ Hext H1 ρ H1' ρ' ∧ ArgsR (bx P gl) (lk0 H1') (argsOf ss xs) l1 ∧ LRel (TRel ρ' H1'.length) l1 vs ∧ okHL ss xs
  | [], [], vs, ds, ps, H1, ρ, _, _, h, _, hr => by
    obtain ⟨rfl, rfl, rfl⟩ := trodAll_nil h
    exact ⟨(), [], H1, ρ, hr, .refl, .nil, .nil, trivial⟩
  | t :: ts, s :: ss, vs, ds, ps, H1, ρ, hb, hok, h, hw, hr => by
    simp only [shsB, Bool.and_eq_true] at hb
    obtain ⟨hb1, hb2, hb3⟩ := hb
    obtain ⟨v0, vs0, d0, ds0, p0, q0, rfl, rfl, rfl, ⟨fuel, h0⟩, r0⟩ := trodAll_cons h
    have hw0 : fitsW P t d0 := fun n hn => hw n (by unfold DataW.weightsEach; exact List.mem_append_left _ hn)
    obtain ⟨x, c1, H2, ρ2, k1, k2, k3, k4, k5⟩ := (open_sh (X := bx P gl) (w := W) (enc := enc) (held := true) (sp := fun _ => true) s hb2).1 t fuel _ (d0, p0) H1 ρ hb1 h0 hw0 hr
    obtain ⟨xs, l1, H3, ρ3, q1, q2, q3, q4, q5⟩ := open_all ts ss vs0 ds0 q0 H2 ρ2 hb3 (fun j t' v' ht hv => hok (j + 1) t' v' (by simpa using ht) (by simpa using hv)) r0 (fun n hn => hw n (by unfold DataW.weightsEach; exact List.mem_append_right _ hn)) k1
    obtain ⟨b, hv0⟩ := hok 0 t v0 rfl rfl
    have hlen : c1.length = s.size := k3.length
    have hv : TRel ρ2 H2.length (mkV s.isAgg c1) v0 := by
      cases ha : s.isAgg with
      | true =>
        obtain ⟨cs, rfl⟩ := isAgg_v hb1 ha hv0
        exact ⟨cs, rfl, k4⟩
      | false =>
        have hna := notAgg hb1 hb2 ha hv0
        have h1 := size_one ha
        rw [h1] at hlen
        match c1, hlen, k4 with
        | [u], _, k4 =>
          have hc : v0.cells.toList = [v0] := by cases v0 <;> first | rfl | exact absurd rfl (hna _)
          rw [hc] at k4
          obtain ⟨v', e1, e2⟩ := k4.2 0 u rfl
          simp at e1; subst e1
          exact Ab.TRel.of_V (Ab.VRel.of_C e2)
    refine ⟨(x, xs), mkV s.isAgg c1 :: l1, H3, ρ3, q1, k2.trans q2, .cons ?_ q3, .cons (hv.mono q2.at_ q2.len) q4, k5, q5⟩
    exact VR.mkval (s := s) (k3.mono (H1' := H3) q2.ro)
  | [], _ :: _, _, _, _, _, _, hb, _, _, _, _ => by simp [shsB] at hb
  | _ :: _, [], _, _, _, _, _, hb, _, _, _, _ => by simp [shsB] at hb

theorem walk_pc {f : FuncId} {fn : Func} {args : List SV} {l1 l' : List Value} {H1 : Ab.Heap} {ρ : Nat → Ab.Loc} (hf : P.funcs[f]? = some fn) (hn : (fn.name == "runtime.NumGoroutine") = false) (hb : fn.body.isNone = false) (h : PC (bx P noGl) f args (.av (.val .bool true)))
    (ha : ArgsR (bx P noGl) (lk0 H1) args l1) (hl : LRel (TRel ρ H1.length) l1 l') (hr : Ready (bx P noGl) W H1 ρ) : Calls P f ⟨l'⟩ W fun e W' => e = .returned (.bool true) ∧ Below W.heap.size W W' := by
  have fin : ∀ v' w', (∃ v1 ρ' H1', SVR (gl1 (bx P noGl)) (lk0 H1') (.av (.val .bool true)) v1 ∧ TRel ρ' H1'.length v1 v' ∧ (∀ i, i < H1.length → ρ' i = ρ i) ∧ Sim (x1 (bx P noGl)) (C0 W) ρ' H1' w' ∧ H1.length ≤ H1'.length ∧ ∀ (i : Nat) b, H1[i]? = some (some b) → H1'[i]? = some (some b)) → v' = .bool true ∧ Below W.heap.size W w' := by
    rintro v' w' ⟨v1, ρ', H1', q1, q2, q3, q4, q5, q6⟩
    have q1 := VR.bool (X := bx P noGl) (M := lk0 H1') q1
    subst q1
    exact ⟨q2, q4.os, q4.tape, q4.output, q4.size, fun k hk => q4.keep k hk (fun h => h)⟩
  rcases h.2 (C0 W) ρ H1 W l1 l' ha hl hr.1 with ⟨fn', c1, c2, c3, c4⟩ | ⟨v', w', c1, _⟩
  · exact c4.mono fun en w' ⟨v', e1, e2⟩ => by
      obtain ⟨z1, z2⟩ := fin v' w' e2
      exact ⟨by rw [e1, z1], z2⟩
  · have c1 : (callFunc f ⟨l'⟩).run P W = .ok (.value v') w' := c1
    rw [Ab.run_callFunc (P := P) hf hn hb] at c1
    cases c1

/-- A LAW, LIFTED -/
theorem law_ty {C : Checked} {os : Os} {f : FuncId} {fn : Func} {s : ChangeSpec} {conds : List PathCond} {tb : TypeId} (own : ownKnob C.prog.godebug = none) (started : os.Started) (noInit : C.prog.inits.idxOf? f = none) (hfn : C.prog.funcs[f]? = some fn)
    (hn : (fn.name == "runtime.NumGoroutine") = false) (hb : fn.body.isNone = false)
    (hl : laidOutB C.prog = true) (hr : ∀ t ∈ fn.params.toList, C.prog.readableRec t = true ∧ t < C.prog.types.size) (hvars : s.vars = []) (hres : fn.resultTypes = #[tb]) (hbool : C.prog.underlying tb = some .bool)
    (hspec : ∀ ds : List (DataW H), ds.length = fn.params.size → s.fn H (ds ++ []) = { results := [.lit (.bool true)], args := ds })
    (witness : ∃ (w : World) (tape : Tape) (i : Input), w.os = os ∧ (w.forCall tape i).Shaped C.prog ∧ i.vars = [] ∧ Input.okWide C.prog (w.forCall tape i) .any w.heap.size f i ∧
      s.pre6 enc C.prog fn conds false (w.forCall tape i).memory i.args ∧ ({} : Assume).holds C.prog (lone (Frame.enter C.prog f i.args .normal) [] (w.forCall tape i)))
    (ss : List Sh) (hss : shsB C.prog fn.params.toList ss = true) (walk : ∀ xs : HL ss, okHL ss xs → PC (bx C.prog noGl) f (argsOf ss xs) (.av (.val .bool true))) :
    ReturnsInHanded {} C os f .any (s.pre6 enc C.prog fn conds false) (s.post enc C.prog fn false true false false) := by
  refine returnsInHanded_of_change_sized own started noInit hfn witness ?_
  intro W base args ds gs before hval hW _ hwt _
  have hW' := hW
  obtain ⟨p, q, hA, hV, rfl, hfz, hnd⟩ := hW
  have hlen : ∀ (ts : List TypeId) (vs : List Value) (ds : List (DataW H)) (ps : List MemPlace), DataW.TrodAll enc C.prog W 0 (fun _ => true) true ts vs ds ps → ds.length = ts.length := by
    intro ts
    induction ts with
    | nil => intro vs ds ps h; obtain ⟨_, rfl, _⟩ := trodAll_nil h; rfl
    | cons t ts ih => intro vs ds ps h; obtain ⟨v0, vs0, d0, ds0, p0, q0, rfl, rfl, rfl, h0, r0⟩ := trodAll_cons h; simp [ih _ _ _ r0]
  have hgs : gs = [] := by
    rw [hvars] at hV
    cases gs with
    | nil => rfl
    | cons _ _ => exact hV.elim
  subst hgs
  have hvt : s.plain.varTypes C.prog = [] := by
    have : s.plain.vars = [] := hvars
    simp [DataSpec.varTypes, this]
  have hw : ∀ n ∈ DataW.weightsEach C.prog fn.params.toList ds, n ≤ reachBytes := by
    rw [hvt, List.append_nil, List.append_nil, List.all_eq_true] at hwt
    exact fun n hn => by simpa using hwt n hn
  obtain ⟨xs, l1, H1, ρ, r1, r2, r3, r4, r5⟩ := open_all (gl := noGl) fn.params.toList ss args.toList ds p [] (fun _ => ⟨0, 0, 0, 0⟩) hss (fun j t v ht hv => ⟨base, hval j t v (by simpa using ht) (by simpa using hv)⟩) hA hw (ready_nil rfl)
  have hw := walk_pc hfn hn hb (walk xs r5) r3 r4 r1
  refine hw.mono fun e W' ⟨he, hb⟩ => ?_
  subst he
  exact ⟨_, rfl, Ab.post_true hl hr hvars hres hbool (hspec ds (by rw [hlen _ _ _ _ hA]; simp)) hW' hb⟩
end
end Go.Ty
