import Derived.Test.YtninlahlmjhmhaaTyLoop
import Derived.Test.YtninlahlmjhmhaaAbWh
namespace Go.Ty
open Go.Ab (AExit fitsN TRel VRel LRel ERel Sim SRel exitOf)

/-! ## Plain arguments, as typed data -/
@[reducible] def HL : List Sh → Type
  | [] => Unit
  | s :: r => s.T × HL r
def argsOf : (ss : List Sh) → HL ss → List SV
  | [], _ => []
  | s :: r, x => .av (.val s x.1) :: argsOf r x.2
def wfHL : (ss : List Sh) → HL ss → Prop
  | [], _ => True
  | s :: r, x => s.wfT x.1 ∧ wfHL r x.2
def parse : (ss : List Sh) → List SV → Option (HL ss)
  | [], [] => some ()
  | s :: r, .av a :: l => match a.as s with
    | some x => match parse r l with
      | some y => some (x, y)
      | none => none
    | none => none
  | _, _ => none
/-- a function of plain data -/
def pureN (ss : List Sh) (F : HL ss → Prop × SV) : PureT := fun l => match parse ss l with
  | some xs => some (F xs)
  | none => none

section
variable {X : Cx} {P : Program} {gl : Nat → Option ((s : Sh) × s.T)} {f : FuncId}
/-- lengths are as their types say -/
theorem Cells.wf {G : Nat → Option (List Value)} {H1 : Ab.Heap} : ∀ {s : Sh} {x : s.T} {cs : List Value}, Cells G H1 s x cs → s.wfT x
  | .int _, _, _, _ | .bool, _, _, _ | .str, _, _, _ | .non _, _, _, _ | .unit, _, _, _ | .sl _, _, _, _ => trivial
  | .pair a b, x, cs, ⟨c, d, e, h1, h2⟩ => ⟨Cells.wf h1, Cells.wf h2⟩
  | .arr n s, xs, cs, ⟨hl, h⟩ => by
    refine ⟨hl, ?_⟩
    have : ∀ (xs : List s.T) (cs : List Value), AllC (Cells G H1 s) xs cs → ∀ x ∈ xs, s.wfT x := by
      intro xs
      induction xs with
      | nil => intro _ _ x hx; simp at hx
      | cons y xs ih =>
        intro cs ⟨c, d, e, h1, h2⟩ x hx
        rcases List.mem_cons.1 hx with rfl | hx
        · exact Cells.wf h1
        · exact ih d h2 x hx
    exact this xs cs h

theorem argsR_wf {M : Lk} : ∀ {ss : List Sh} {xs : HL ss} {l1 : List Value}, ArgsR X M (argsOf ss xs) l1 → wfHL ss xs
  | [], _, _, _ => trivial
  | s :: r, x, l1, h => by
    obtain ⟨u, l2, rfl, h1, h2⟩ := h.inv
    obtain ⟨cs, h3, _⟩ := VR.val (show VR (gl1 X) M (.val s x.1) u from h1)
    exact ⟨Cells.wf h3, argsR_wf h2⟩
theorem argsR_parse {M : Lk} : ∀ {ss : List Sh} {args : List SV} {xs : HL ss} {l1 : List Value}, parse ss args = some xs → ArgsR X M args l1 → ArgsR X M (argsOf ss xs) l1
  | [], [], _, _, _, h => h
  | [], _ :: _, _, _, hp, _ => by simp [parse] at hp
  | _ :: _, [], _, _, hp, _ => by simp [parse] at hp
  | _ :: _, .tup _ :: _, _, _, hp, _ => by simp [parse] at hp
  | s :: r, .av a :: l, xs, l1, hp, h => by
    simp only [parse] at hp
    split at hp
    · rename_i x hx
      split at hp
      · rename_i y hy
        simp only [Option.some.injEq] at hp
        subst hp
        obtain ⟨u, l2, rfl, h1, h2⟩ := h.inv
        exact .cons (VR.as (show VR (gl1 X) M a u from h1) hx) (argsR_parse hy h2)
      · cases hp
    · cases hp

theorem PC.wf {ss : List Sh} {xs : HL ss} {r : SV} (hr : noRefS r = true) (h : wfHL ss xs → PC X f (argsOf ss xs) r) : PC X f (argsOf ss xs) r :=
  ⟨hr, fun C ρ H1 w l1 l' ha hl hs => (h (argsR_wf ha)).2 C ρ H1 w l1 l' ha hl hs⟩
/-- a contract, by typed data -/
theorem conN_ok {ss : List Sh} {F : HL ss → Prop × SV} (h : ∀ xs : HL ss, wfHL ss xs → (F xs).1 → PC (bx P gl) f (argsOf ss xs) (F xs).2) (hr : ∀ xs, noRefS (F xs).2 = true) : COK P gl f (conP (pureN ss F)) := by
  refine conP_ok fun args p r hg hp => ?_
  unfold pureN at hg
  split at hg
  · rename_i xs hxs
    simp only [Option.some.injEq] at hg
    have e1 : (F xs).1 = p := by rw [hg]
    have e2 : (F xs).2 = r := by rw [hg]
    subst e1 e2
    refine ⟨hr xs, fun C ρ H1 w l1 l' ha hl hs => ?_⟩
    have ha' := argsR_parse hxs ha
    exact (h xs (argsR_wf ha') hp).2 C ρ H1 w l1 l' ha' hl hs
  · cases hg

/-! ## What the machine below has shown of flat data -/
def flatL : (ss : List Sh) → HL ss → List Value
  | [], _ => []
  | s :: r, x => flatV s x.1 :: flatL r x.2
def flatA : AV → Value
  | .val s x => flatV s x
  | _ => .tuple #[]
def flatS : SV → Value
  | .av v => flatA v
  | .tup l => .tuple ⟨l.map flatA⟩
def flatOkA : AV → Prop
  | .val s x => s.flat = true ∧ s.wfT x
  | _ => False
def flatOk : SV → Prop
  | .av v => flatOkA v
  | .tup l => ∀ v ∈ l, flatOkA v
theorem flatA_vr {M : Lk} {v : AV} (h : flatOkA v) : VR (gl1 X) M v (flatA v) := by
  cases v with
  | val s x => exact VR.mkflat h.1 h.2
  | _ => cases h
theorem flatS_svr {M : Lk} {v : SV} (h : flatOk v) : SVR (gl1 X) M v (flatS v) := by
  cases v with
  | av v => exact flatA_vr h
  | tup l =>
    refine ⟨_, rfl, by simp, fun j v hj => ⟨flatA v, by simp [hj], flatA_vr (h v (List.mem_of_getElem? hj))⟩⟩
theorem flatL_eq {M : Lk} : ∀ {ss : List Sh} {xs : HL ss} {l1 : List Value}, ss.all Sh.flat = true → ArgsR X M (argsOf ss xs) l1 → l1 = flatL ss xs
  | [], _, _, _, h => h.nil_inv
  | s :: r, x, l1, hf, h => by
    simp only [List.all_cons, Bool.and_eq_true] at hf
    obtain ⟨u, l2, rfl, h1, h2⟩ := h.inv
    rw [flatL_eq hf.2 h2, VR.flat hf.1 (show VR (gl1 X) M (.val s x.1) u from h1)]; rfl
theorem PC_of_wcall {ss : List Sh} {xs : HL ss} {r : SV} (hf : ss.all Sh.flat = true) (hr : flatOk r) (hn : noRefS r = true) (hA : Ab.WfA (flatL ss xs)) (hw : Ab.WCall P f (flatL ss xs) (flatS r)) : PC (bx P gl) f (argsOf ss xs) r :=
  PC.of_pcall hn (fun _ l h => (flatL_eq hf h)) (fun _ => flatS_svr hr) (hw hA).1
end

/-! ## Loops that are told of -/
abbrev LTab := List (Nat × PT)
def LTab.look : LTab → Nat → Option PT
  | [], _ => none
  | (k, p) :: r, j => bif Nat.beq j k then some p else LTab.look r j
def bodyAt (c : Code) (k : Nat) : Code := ((loopsOf c).lookup k).getD .skip
def hasLoop (c : Code) (k : Nat) : Bool := (loopsOf c).any fun e => Nat.beq e.1 k
def keysOnce (c : Code) : Bool := nodupB ((loopsOf c).map (·.1))
theorem LTab.look_mem : ∀ {t : LTab} {k : Nat} {p : PT}, t.look k = some p → (k, p) ∈ t
  | [], _, _, h => by simp [LTab.look] at h
  | (k', p') :: r, k, p, h => by
    simp only [LTab.look] at h
    cases hb : Nat.beq k k' with
    | true =>
      rw [hb] at h
      simp only [cond_true, Option.some.injEq] at h
      have := Nat.eq_of_beq_eq_true hb
      subst this h
      simp
    | false => rw [hb] at h; simp [LTab.look_mem h]
theorem loopsOK {X : Cx} {N : Nat} {t : LTab} {c : Code} (hn : keysOnce c = true) (h : ∀ e ∈ t, hasLoop c e.1 = true → ∀ s K, e.2 s K → SemC X N (.loop (bodyAt c e.1)) s K) : LoopsOK X N t.look c := by
  intro k b p hk hp s K hK
  have hm := LTab.look_mem hp
  have hb : bodyAt c k = b := by
    unfold bodyAt
    have : ∀ (l : List (Nat × Code)), (l.map (·.1)).Nodup → (k, b) ∈ l → l.lookup k = some b := by
      intro l
      induction l with
      | nil => intro _ h; simp at h
      | cons e l ih =>
        intro hn h
        obtain ⟨k', b'⟩ := e
        simp only [List.map_cons, List.nodup_cons] at hn
        rcases List.mem_cons.1 h with e | h2
        · cases e; simp [List.lookup]
        · have : k ≠ k' := fun e => hn.1 (List.mem_map.2 ⟨(k, b), h2, e⟩)
          simp only [List.lookup]
          rw [show (k == k') = false by simpa using this]
          exact ih hn.2 h2
    rw [this _ (nodupB_nodup hn) hk]; rfl
  have := h (k, p) hm (by unfold hasLoop; rw [List.any_eq_true]; exact ⟨_, hk, by simp⟩) s K hK
  rw [← hb]; exact this
theorem loopsNil {X : Cx} {N : Nat} {c : Code} : LoopsOK X N (LTab.look []) c := fun k b p _ h => by simp [LTab.look] at h
theorem LTNil {X : Cx} {N : Nat} {c : Code} : ∀ e ∈ ([] : LTab), hasLoop c e.1 = true → ∀ s K, e.2 s K → SemC X N (.loop (bodyAt c e.1)) s K := by simp
theorem LTCons {X : Cx} {N : Nat} {c : Code} {k : Nat} {p : PT} {t : LTab} (h : hasLoop c k = true → ∀ s K, p s K → SemC X N (.loop (bodyAt c k)) s K) (ht : ∀ e ∈ t, hasLoop c e.1 = true → ∀ s K, e.2 s K → SemC X N (.loop (bodyAt c e.1)) s K) :
    ∀ e ∈ ((k, p) :: t : LTab), hasLoop c e.1 = true → ∀ s K, e.2 s K → SemC X N (.loop (bodyAt c e.1)) s K := by
  intro e he
  rcases List.mem_cons.1 he with rfl | he
  · exact h
  · exact ht e he

/-- a loop of a function, told by what it carries -/
theorem loop_of {P : Program} {st : STab} {ct : CTab} {t : LTab} {N k : Nat} {c : Code} {l lr : List It} {lx : List (Nat × List It)} {Q : LQ l lr lx} (hst : st.all (fun (t, s) => shChk P s (.inl t)) = true) (hcon : ∀ p ∈ ct, COK P noGl p.1 p.2) (hm : P.follows .mixedOrders = true)
    (hb : LoopsOK (mkX P noGl st ct) N t.look (bodyAt c k)) (hl : okI l lr lx = true) (hQ : ∀ x Kr Kx, Q x Kr Kx → ∃ n, untl (W (mkX P noGl st ct) N t.look (bodyAt c k)) l lr lx n x Kr Kx) :
    hasLoop c k = true → ∀ s K, ptL l lr lx Q s K → SemC (mkX P noGl st ct) N (.loop (bodyAt c k)) s K := fun _ => ptL_sound (xok hst) (consok hcon) hm hb hl hQ

/-- a function that is walked, in a context of types and contracts -/
theorem PC_of_fw {P : Program} {st : STab} {ct : CTab} {t : LTab} {f : FuncId} {fn : Func} {c : Code} {args : List SV} {r : SV} (hst : st.all (fun (t, s) => shChk P s (.inl t)) = true) (hcon : ∀ p ∈ ct, COK P noGl p.1 p.2) (hm : P.follows .mixedOrders = true)
    (hf : P.funcs[f]? = some fn) (hc : fn.body = some c) (hname : (fn.name == "runtime.NumGoroutine") = false) (hN : Nat.ble args.length fn.ntmps = true) (hl : LoopsOK (mkX P noGl st ct) fn.ntmps t.look c)
    (hr : noRefS r = true) (h : FW (mkX P noGl st ct) fn.ntmps t.look fn args fun r' => r' = r) : PC (bx P noGl) f args r :=
  FW_pc (X := mkX P noGl st ct) (xok hst) (consok hcon) hm hf hc hname hN hl h hr
end Go.Ty
