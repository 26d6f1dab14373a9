import Derived.Test.YtlopooohfkgncaaTyC
import Derived.Test.YtlopooohfkgncaaProg
namespace Go.Proofs.Ytlopooohfkgncaa
open Go.Ty

abbrev api_NumS : Sh := .arr 4 (.int .u64)
abbrev api_ShareS : Sh := .pair (.int .i64) (.pair (.arr 4 (.int .u64)) .unit)
abbrev api_ErrnoS : Sh := .int .i64
abbrev api_WideS : Sh := .arr 8 (.int .u64)
def shA : STab := [(2, .int .i64), (3, .int .i64), (4, .bool), (5, .int .u8), (7, .pair (.int .i64) (.pair (.int .i64) (.pair .bool (.pair (.int .u8) .unit)))), (9, .str), (12, .int .u64), (13, .pair .str (.pair (.int .u64) .unit)), (21, .int .i32), (22, .sl (.pair (.int .i64) (.pair (.arr 4 (.int .u64)) .unit))), (24, .int .u64), (25, .arr 4 (.int .u64)), (26, .arr 4 (.int .u64)), (27, .pair (.int .i64) (.pair (.arr 4 (.int .u64)) .unit)), (28, .pair (.int .i64) (.pair (.arr 4 (.int .u64)) .unit)), (29, .int .i64), (33, .arr 32 (.int .u8)), (36, .sl (.int .u8)), (39, .arr 8 (.int .u64)), (40, .arr 8 (.int .u64)), (62, .int .u64), (64, .sl (.int .u64)), (70, .arr 256 .bool), (81, .int .u32)]
set_option maxRecDepth 100000 in
theorem shA_ok : shA.all (fun (t, s) => shChk Try.prog s (.inl t)) = true := by kernel_rfl
abbrev GL : Nat → Option ((s : Sh) × s.T) := noGl
/-! ## Small things -/
theorem ifB_of {b : Bool} {p q : Prop} (h1 : b = true → p) (h2 : b = false → q) : ifB b p q := by cases b <;> simp_all [ifB]
theorem dmd_of {b : Bool} {p : Prop} (h1 : b = true) (h2 : p) : dmd b p := by subst h1; exact h2
theorem ifB_true {p q : Prop} : ifB true p q = p := by rw [ifB]
theorem ifB_false {p q : Prop} : ifB false p q = q := by rw [ifB]
theorem pbool {b : Bool} (h : b = true) : SV.av (AV.val Sh.bool b) = SV.av (AV.val Sh.bool true) := by rw [h]
theorem teq_of {s : Sh} {x y : s.T} (h : x = y) : teq s x y = true := teq_iff.2 h
theorem teq_ne {s : Sh} {x y : s.T} (h : x ≠ y) : teq s x y = false := Bool.eq_false_iff.2 fun c => h (teq_iff.1 c)
theorem teq_no {s : Sh} {x y : s.T} {p : Prop} (h : x = y) (h2 : teq s x y = false) : p := by rw [teq_of h] at h2; cases h2
theorem step_t {s : Sh} {x y : s.T} {p f : Prop} (h : x = y) (hp : p) : ifB (teq s x y) p f := ifB_of (fun _ => hp) (fun h' => teq_no h h')
theorem mixed : Try.prog.follows .mixedOrders = true := by kernel_rfl
theorem rd_at {s : Sh} {x : List s.T} {j : Nat} (h : j < x.length) : rd s x j = x[j] := by
  have := rd_of (s := s) (xs := x) h
  rw [List.getElem?_eq_getElem h] at this
  exact (Option.some.inj this).symm
theorem rd8_ext {x y : List (BitVec 8)} (h : x.length = y.length) (e : ∀ i, i < y.length → rd u8S x i = rd u8S y i) : x = y := (rd_inj (s := u8S) h rfl).1 e
theorem inB {i n : Nat} (h : i < n) : (decide ((0 : Int) ≤ (i : Int)) && decide ((i : Int) < ((n : Nat) : Int))) = true := by
  rw [decide_eq_true (show (0 : Int) ≤ (i : Int) by omega), decide_eq_true (show (i : Int) < ((n : Nat) : Int) by omega)]; rfl
theorem leB {a n : Nat} (h : a ≤ n) : (Nat.ble a n && Nat.ble n n) = true := by rw [Nat.ble_eq_true_of_le h, Nat.ble_eq_true_of_le (Nat.le_refl n)]; rfl
theorem beq0 {n : Nat} (h : n ≠ 0) : n.beq 0 = false := by
  cases n with
  | zero => exact absurd rfl h
  | succ n => rfl
theorem beqn (n : Nat) : n.beq n = true := Nat.beq_refl n
theorem i64n {n : Nat} (h : n < 9223372036854775808) : IntKind.i64.wrap ((n : Nat) : Int) = ((n : Nat) : Int) := IntWalk.i64_in _ (by omega)
theorem i64s {n : Nat} (h : n < 9223372036854775807) : IntKind.i64.wrap ((n : Int) + 1) = ((n + 1 : Nat) : Int) := by rw [IntWalk.i64_in _ (by omega)]; omega

/-! ## A nil slice that is handed back is one with nothing in it -/
theorem vr_nil {G : Nat → Option (List Value)} {M : Lk} {s : Sh} {u : Value} (h : VR G M (.cell .nilS) u) : VR G M (.val (.sl s) []) u := by
  obtain ⟨t, cs, ⟨h1, v, rfl, h2⟩, rfl⟩ := h
  have h2 : v = .slice none 0 0 := h2
  subst h2
  refine ⟨.sl s, [.slice none 0 0], ⟨rfl, .inl ⟨rfl, rfl⟩⟩, ?_⟩
  rw [h1]; rfl
theorem PC.weak {X : Go.Ty.Cx} {f : FuncId} {args : List SV} {r r' : SV} (h : PC X f args r) (hr : noRefS r' = true) (hw : ∀ (M : Lk) u, SVR (gl1 X) M r u → SVR (gl1 X) M r' u) : PC X f args r' := by
  refine ⟨hr, fun C ρ H1 w l1 l' ha hl hs => ?_⟩
  rcases h.2 C ρ H1 w l1 l' ha hl hs with ⟨fn, hf, hn, hb, hc⟩ | ⟨v', w', hrun, v1, ρ', H1', k1, k2⟩
  · refine .inl ⟨fn, hf, hn, hb, hc.mono ?_⟩
    rintro en w' ⟨v', rfl, v1, ρ', H1', k1, k2⟩
    exact ⟨v', rfl, v1, ρ', H1', hw _ _ k1, k2⟩
  · exact .inr ⟨v', w', hrun, v1, ρ', H1', hw _ _ k1, k2⟩
theorem svr_nil {G : Nat → Option (List Value)} {M : Lk} {s : Sh} {v : AV} {u : Value} (h : SVR G M (.tup [.cell .nilS, v]) u) : SVR G M (.tup [.val (.sl s) [], v]) u := by
  obtain ⟨us, e, h1, h2⟩ := h
  refine ⟨us, e, h1, fun j x hj => ?_⟩
  match j, hj with
  | 0, hj =>
    obtain ⟨u', k1, k2⟩ := h2 0 _ rfl
    injection hj with hj
    subst hj
    exact ⟨u', k1, vr_nil k2⟩
  | 1, hj => exact h2 1 x hj
theorem PC.nil {X : Go.Ty.Cx} {f : FuncId} {args : List SV} {s : Sh} {v : AV} (h : PC X f args (.tup [.cell .nilS, v])) (hv : noRef v = true) : PC X f args (.tup [.val (.sl s) [], v]) :=
  PC.weak h (by show (true && (noRef v && true)) = true; rw [hv]; rfl) fun _ _ => svr_nil

/-! ## Rounds that go up -/
theorem untl_up {F : PT} {l lr : List It} {lx : List (Nat × List It)} {Kr : HI lr → Prop} {Kx : HP lx} (st : Nat → HI l) (n : Nat)
    (h1 : ∀ i, i < n → ∀ Kn, Kn (st (i + 1)) → roundT F l lr lx (st i) Kn Kr Kx) (h2 : ∀ Kn, roundT F l lr lx (st n) Kn Kr Kx) : ∃ m, untl F l lr lx m (st 0) Kr Kx := by
  have key : ∀ d i, i + d = n → untl F l lr lx (d + 1) (st i) Kr Kx := by
    intro d
    induction d with
    | zero => intro i hi; have : i = n := by omega
              subst this; rw [untl_succ]; exact h2 _
    | succ d ih => intro i hi; rw [untl_succ]; exact h1 i (by omega) _ (ih (i + 1) (by omega))
  exact ⟨n + 1, key n 0 (by omega)⟩
theorem drop0_take {α : Type} (l : List α) (n : Nat) (h : n = l.length) : List.take n (List.drop 0 l) = l := by subst h; rw [List.drop_zero, List.take_length]
theorem bleT {a b : Nat} (h : a ≤ b) : Nat.ble a b = true := Nat.ble_eq_true_of_le h
theorem andT {a b : Bool} (h : a = true) (k : b = true) : (a && b) = true := by rw [h, k]; rfl
theorem decTr {p : Prop} [Decidable p] (h : p) : decide p = true := decide_eq_true h
theorem decFa {p : Prop} [Decidable p] (h : ¬ p) : decide p = false := decide_eq_false h
theorem notT {a : Bool} (h : a = false) : (!a) = true := by rw [h]; rfl

/-- none as nil -/
def optL {α : Type} (l : List α) : Option (List α) := match l with
  | [] => none
  | x :: l => some (x :: l)
theorem optL_ne {α : Type} {l : List α} (h : l ≠ []) : optL l = some l := by
  cases l with
  | nil => exact absurd rfl h
  | cons x l => rfl
theorem i64w {a : Int} {n : Nat} (h : a = (n : Int)) (hn : n < 9223372036854775808) : IntKind.i64.wrap a = ((n : Nat) : Int) := by rw [IntWalk.i64_in _ (by omega)]; exact h
theorem dmd_ble {a b : Nat} {p : Prop} (h : a ≤ b) : dmd (Nat.ble a b) p = p := by rw [bleT h]; rfl
theorem dmd_and {a b : Bool} {p : Prop} : dmd (a && b) p = dmd a (dmd b p) := by cases a <;> cases b <;> rfl
theorem dmd_beqn {a : Nat} {p : Prop} : dmd (Nat.beq a a) p = p := by rw [Nat.beq_refl]; rfl
theorem beq_cons {α : Type} {x : α} {l : List α} : Nat.beq (x :: l).length 0 = false := rfl
theorem beq_nil {α : Type} : Nat.beq ([] : List α).length 0 = true := rfl
theorem teq_self {s : Sh} {x : s.T} : teq s x x = true := teq_of rfl
theorem andB {a b : Bool} (h : (a && b) = true) : a = true ∧ b = true := by cases a <;> cases b <;> simp_all
theorem ifB_neg {p : Prop} {i : Decidable p} {a b : Prop} (h1 : ¬ p → a) (h2 : p → b) : ifB (!@decide p i) a b := by
  by_cases h : p
  · rw [decTr h]; exact h2 h
  · rw [decFa h]; exact h1 h
theorem ifB_dec {p : Prop} {i : Decidable p} {a b : Prop} (h1 : p → a) (h2 : ¬ p → b) : ifB (@decide p i) a b := by
  by_cases h : p
  · rw [decTr h]; exact h1 h
  · rw [decFa h]; exact h2 h

end Go.Proofs.Ytlopooohfkgncaa
