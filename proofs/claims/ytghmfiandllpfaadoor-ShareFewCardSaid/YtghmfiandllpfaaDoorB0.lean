import Derived.Test.YtghmfiandllpfaaDoorTyC
import Derived.Test.YtghmfiandllpfaaDoorProg
namespace Go.Proofs.YtghmfiandllpfaaDoor
open Go.Ty

abbrev api_NumS : Sh := .arr 4 (.int .u64)
abbrev api_ErrnoS : Sh := .int .i64
abbrev api_ShareS : Sh := .pair (.int .i64) (.pair (.arr 4 (.int .u64)) .unit)
abbrev api_PairS : Sh := .pair (.arr 4 (.int .u64)) (.pair (.arr 32 (.int .u8)) (.pair (.arr 32 (.int .u8)) .unit))
abbrev api_PointS : Sh := .pair (.arr 4 (.int .u64)) (.pair (.arr 4 (.int .u64)) .unit)
abbrev api_SignedS : Sh := .pair (.arr 32 (.int .u8)) (.pair (.sl (.int .u8)) (.pair (.sl (.int .u8)) .unit))
abbrev api_WideS : Sh := .arr 8 (.int .u64)
abbrev hash_StateS : Sh := .pair (.arr 8 (.int .u32)) (.pair (.int .u64) (.pair (.arr 64 (.int .u8)) .unit))
abbrev mac_StateS : Sh := .pair (.pair (.arr 8 (.int .u32)) (.pair (.int .u64) (.pair (.arr 64 (.int .u8)) .unit))) (.pair (.pair (.arr 8 (.int .u32)) (.pair (.int .u64) (.pair (.arr 64 (.int .u8)) .unit))) .unit)
abbrev draw_SourceS : Sh := .pair (.pair (.pair (.arr 8 (.int .u32)) (.pair (.int .u64) (.pair (.arr 64 (.int .u8)) .unit))) (.pair (.pair (.arr 8 (.int .u32)) (.pair (.int .u64) (.pair (.arr 64 (.int .u8)) .unit))) .unit)) (.pair (.int .u64) (.pair (.arr 32 (.int .u8)) (.pair .bool .unit)))
abbrev curve_quadS : Sh := .pair (.arr 4 (.int .u64)) (.pair (.arr 4 (.int .u64)) (.pair (.arr 4 (.int .u64)) (.pair (.arr 4 (.int .u64)) .unit)))
def shA : STab := [(2, .int .i64), (3, .int .i64), (4, .bool), (5, .int .u8), (7, .pair (.int .i64) (.pair (.int .i64) (.pair .bool (.pair (.int .u8) .unit)))), (9, .str), (12, .int .u64), (13, .pair .str (.pair (.int .u64) .unit)), (21, .int .i32), (22, .int .u64), (23, .arr 4 (.int .u64)), (24, .arr 4 (.int .u64)), (25, .sl (.int .u8)), (26, .sl (.int .i64)), (27, .sl (.pair (.int .i64) (.pair (.arr 4 (.int .u64)) .unit))), (28, .int .i64), (34, .pair (.int .i64) (.pair (.arr 4 (.int .u64)) .unit)), (35, .pair (.int .i64) (.pair (.arr 4 (.int .u64)) .unit)), (56, .arr 32 (.int .u8)), (62, .pair (.arr 4 (.int .u64)) (.pair (.arr 32 (.int .u8)) (.pair (.arr 32 (.int .u8)) .unit))), (63, .pair (.arr 4 (.int .u64)) (.pair (.arr 32 (.int .u8)) (.pair (.arr 32 (.int .u8)) .unit))), (67, .pair (.arr 4 (.int .u64)) (.pair (.arr 4 (.int .u64)) .unit)), (68, .pair (.arr 4 (.int .u64)) (.pair (.arr 4 (.int .u64)) .unit)), (72, .arr 64 (.int .u8)), (78, .sl (.arr 32 (.int .u8))), (79, .sl (.sl (.int .u8))), (80, .sl (.arr 4 (.int .u64))), (81, .sl (.pair (.arr 32 (.int .u8)) (.pair (.sl (.int .u8)) (.pair (.sl (.int .u8)) .unit)))), (82, .pair (.arr 32 (.int .u8)) (.pair (.sl (.int .u8)) (.pair (.sl (.int .u8)) .unit))), (83, .pair (.arr 32 (.int .u8)) (.pair (.sl (.int .u8)) (.pair (.sl (.int .u8)) .unit))), (90, .arr 8 (.int .u64)), (91, .arr 8 (.int .u64)), (95, .int .u32), (96, .arr 8 (.int .u32)), (97, .pair (.arr 8 (.int .u32)) (.pair (.int .u64) (.pair (.arr 64 (.int .u8)) .unit))), (98, .pair (.arr 8 (.int .u32)) (.pair (.int .u64) (.pair (.arr 64 (.int .u8)) .unit))), (99, .pair (.pair (.arr 8 (.int .u32)) (.pair (.int .u64) (.pair (.arr 64 (.int .u8)) .unit))) (.pair (.pair (.arr 8 (.int .u32)) (.pair (.int .u64) (.pair (.arr 64 (.int .u8)) .unit))) .unit)), (100, .pair (.pair (.arr 8 (.int .u32)) (.pair (.int .u64) (.pair (.arr 64 (.int .u8)) .unit))) (.pair (.pair (.arr 8 (.int .u32)) (.pair (.int .u64) (.pair (.arr 64 (.int .u8)) .unit))) .unit)), (101, .pair (.pair (.pair (.arr 8 (.int .u32)) (.pair (.int .u64) (.pair (.arr 64 (.int .u8)) .unit))) (.pair (.pair (.arr 8 (.int .u32)) (.pair (.int .u64) (.pair (.arr 64 (.int .u8)) .unit))) .unit)) (.pair (.int .u64) (.pair (.arr 32 (.int .u8)) (.pair .bool .unit)))), (102, .pair (.pair (.pair (.arr 8 (.int .u32)) (.pair (.int .u64) (.pair (.arr 64 (.int .u8)) .unit))) (.pair (.pair (.arr 8 (.int .u32)) (.pair (.int .u64) (.pair (.arr 64 (.int .u8)) .unit))) .unit)) (.pair (.int .u64) (.pair (.arr 32 (.int .u8)) (.pair .bool .unit)))), (107, .int .u64), (120, .arr 256 .bool), (126, .arr 8 (.int .u8)), (128, .pair (.arr 4 (.int .u64)) (.pair (.arr 4 (.int .u64)) (.pair (.arr 4 (.int .u64)) (.pair (.arr 4 (.int .u64)) .unit)))), (129, .pair (.arr 4 (.int .u64)) (.pair (.arr 4 (.int .u64)) (.pair (.arr 4 (.int .u64)) (.pair (.arr 4 (.int .u64)) .unit)))), (136, .sl (.int .u64)), (141, .arr 64 (.int .u32))]
set_option maxRecDepth 100000 in
theorem shA_ok : shA.all (fun (t, s) => shChk Tryd.prog s (.inl t)) = true := by kernel_rfl
def rootsT : List (BitVec 32) := [1116352408#32, 1899447441#32, 3049323471#32, 3921009573#32, 961987163#32, 1508970993#32, 2453635748#32, 2870763221#32, 3624381080#32, 310598401#32, 607225278#32, 1426881987#32, 1925078388#32, 2162078206#32, 2614888103#32, 3248222580#32, 3835390401#32, 4022224774#32, 264347078#32, 604807628#32, 770255983#32, 1249150122#32, 1555081692#32, 1996064986#32, 2554220882#32, 2821834349#32, 2952996808#32, 3210313671#32, 3336571891#32, 3584528711#32, 113926993#32, 338241895#32, 666307205#32, 773529912#32, 1294757372#32, 1396182291#32, 1695183700#32, 1986661051#32, 2177026350#32, 2456956037#32, 2730485921#32, 2820302411#32, 3259730800#32, 3345764771#32, 3516065817#32, 3600352804#32, 4094571909#32, 275423344#32, 430227734#32, 506948616#32, 659060556#32, 883997877#32, 958139571#32, 1322822218#32, 1537002063#32, 1747873779#32, 1955562222#32, 2024104815#32, 2227730452#32, 2361852424#32, 2428436474#32, 2756734187#32, 3204031479#32, 3329325298#32]
noncomputable def GL : Nat → Option ((s : Sh) × s.T) := fun g => bif Nat.beq g 0 then some ⟨.arr 64 (.int .u32), rootsT⟩ else none
instance glGL : GlC GL := ⟨fun g s x h => by
  unfold GL at h
  cases hb : Nat.beq g 0 with
  | true =>
    rw [hb] at h
    cases h
    exact ⟨rfl, rfl, fun _ _ => trivial⟩
  | false => rw [hb] at h; cases h⟩
/-! ## Small things -/
theorem ifB_of {b : Bool} {p q : Prop} (h1 : b = true → p) (h2 : b = false → q) : ifB b p q := by cases b <;> simp_all [ifB]
theorem dmd_of {b : Bool} {p : Prop} (h1 : b = true) (h2 : p) : dmd b p := by subst h1; exact h2
theorem ifB_true {p q : Prop} : ifB true p q = p := by rw [ifB]
theorem ifB_false {p q : Prop} : ifB false p q = q := by rw [ifB]
theorem pbool {b : Bool} (h : b = true) : SV.av (AV.val Sh.bool b) = SV.av (AV.val Sh.bool true) := by rw [h]
theorem teq_of {s : Sh} {x y : s.T} (h : x = y) : teq s x y = true := teq_iff.2 h
theorem teq_ne {s : Sh} {x y : s.T} (h : x ≠ y) : teq s x y = false := Bool.eq_false_iff.2 fun c => h (teq_iff.1 c)
theorem teq_no {s : Sh} {x y : s.T} {p : Prop} (h : x = y) (h2 : teq s x y = false) : p := by rw [teq_of h] at h2; cases h2
theorem step_t {s : Sh} {x y : s.T} {p f : Prop} (h : x = y) (hp : p) : ifB (teq s x y) p f := ifB_of (fun _ => hp) (fun h' => teq_no h h')
theorem mixed : Tryd.prog.follows .mixedOrders = true := by kernel_rfl
theorem rd_at {s : Sh} {x : List s.T} {j : Nat} (h : j < x.length) : rd s x j = x[j] := by
  have := rd_of (s := s) (xs := x) h
  rw [List.getElem?_eq_getElem h] at this
  exact (Option.some.inj this).symm
theorem rd8_ext {x y : List (BitVec 8)} (h : x.length = y.length) (e : ∀ i, i < y.length → rd u8S x i = rd u8S y i) : x = y := (rd_inj (s := u8S) h rfl).1 e
theorem inB {i n : Nat} (h : i < n) : (decide ((0 : Int) ≤ (i : Int)) && decide ((i : Int) < ((n : Nat) : Int))) = true := by
  rw [decide_eq_true (show (0 : Int) ≤ (i : Int) by omega), decide_eq_true (show (i : Int) < ((n : Nat) : Int) by omega)]; rfl
theorem leB {a n : Nat} (h : a ≤ n) : (Nat.ble a n && Nat.ble n n) = true := by rw [Nat.ble_eq_true_of_le h, Nat.ble_eq_true_of_le (Nat.le_refl n)]; rfl
theorem beq0 {n : Nat} (h : n ≠ 0) : n.beq 0 = false := by
  cases n with
  | zero => exact absurd rfl h
  | succ n => rfl
theorem beqn (n : Nat) : n.beq n = true := Nat.beq_refl n
theorem i64n {n : Nat} (h : n < 9223372036854775808) : IntKind.i64.wrap ((n : Nat) : Int) = ((n : Nat) : Int) := IntWalk.i64_in _ (by omega)
theorem i64s {n : Nat} (h : n < 9223372036854775807) : IntKind.i64.wrap ((n : Int) + 1) = ((n + 1 : Nat) : Int) := by rw [IntWalk.i64_in _ (by omega)]; omega

/-! ## A nil slice that is handed back is one with nothing in it -/
theorem vr_nil {G : Nat → Option (List Value)} {M : Lk} {s : Sh} {u : Value} (h : VR G M (.cell .nilS) u) : VR G M (.val (.sl s) []) u := by
  obtain ⟨t, cs, ⟨h1, v, rfl, h2⟩, rfl⟩ := h
  have h2 : v = .slice none 0 0 := h2
  subst h2
  refine ⟨.sl s, [.slice none 0 0], ⟨rfl, .inl ⟨rfl, rfl⟩⟩, ?_⟩
  rw [h1]; rfl
theorem PC.weak {X : Go.Ty.Cx} {f : FuncId} {args : List SV} {r r' : SV} (h : PC X f args r) (hr : noRefS r' = true) (hw : ∀ (M : Lk) u, SVR (gl1 X) M r u → SVR (gl1 X) M r' u) : PC X f args r' := by
  refine ⟨hr, fun C ρ H1 w l1 l' ha hl hs => ?_⟩
  rcases h.2 C ρ H1 w l1 l' ha hl hs with ⟨fn, hf, hn, hb, hc⟩ | ⟨v', w', hrun, v1, ρ', H1', k1, k2⟩
  · refine .inl ⟨fn, hf, hn, hb, hc.mono ?_⟩
    rintro en w' ⟨v', rfl, v1, ρ', H1', k1, k2⟩
    exact ⟨v', rfl, v1, ρ', H1', hw _ _ k1, k2⟩
  · exact .inr ⟨v', w', hrun, v1, ρ', H1', hw _ _ k1, k2⟩
theorem svr_nil {G : Nat → Option (List Value)} {M : Lk} {s : Sh} {v : AV} {u : Value} (h : SVR G M (.tup [.cell .nilS, v]) u) : SVR G M (.tup [.val (.sl s) [], v]) u := by
  obtain ⟨us, e, h1, h2⟩ := h
  refine ⟨us, e, h1, fun j x hj => ?_⟩
  match j, hj with
  | 0, hj =>
    obtain ⟨u', k1, k2⟩ := h2 0 _ rfl
    injection hj with hj
    subst hj
    exact ⟨u', k1, vr_nil k2⟩
  | 1, hj => exact h2 1 x hj
theorem PC.nil {X : Go.Ty.Cx} {f : FuncId} {args : List SV} {s : Sh} {v : AV} (h : PC X f args (.tup [.cell .nilS, v])) (hv : noRef v = true) : PC X f args (.tup [.val (.sl s) [], v]) :=
  PC.weak h (by show (true && (noRef v && true)) = true; rw [hv]; rfl) fun _ _ => svr_nil

/-! ## Rounds that go up -/
theorem untl_up {F : PT} {l lr : List It} {lx : List (Nat × List It)} {Kr : HI lr → Prop} {Kx : HP lx} (st : Nat → HI l) (n : Nat)
    (h1 : ∀ i, i < n → ∀ Kn, Kn (st (i + 1)) → roundT F l lr lx (st i) Kn Kr Kx) (h2 : ∀ Kn, roundT F l lr lx (st n) Kn Kr Kx) : ∃ m, untl F l lr lx m (st 0) Kr Kx := by
  have key : ∀ d i, i + d = n → untl F l lr lx (d + 1) (st i) Kr Kx := by
    intro d
    induction d with
    | zero => intro i hi; have : i = n := by omega
              subst this; rw [untl_succ]; exact h2 _
    | succ d ih => intro i hi; rw [untl_succ]; exact h1 i (by omega) _ (ih (i + 1) (by omega))
  exact ⟨n + 1, key n 0 (by omega)⟩
theorem drop0_take {α : Type} (l : List α) (n : Nat) (h : n = l.length) : List.take n (List.drop 0 l) = l := by subst h; rw [List.drop_zero, List.take_length]
theorem bleT {a b : Nat} (h : a ≤ b) : Nat.ble a b = true := Nat.ble_eq_true_of_le h
theorem andT {a b : Bool} (h : a = true) (k : b = true) : (a && b) = true := by rw [h, k]; rfl
theorem decTr {p : Prop} [Decidable p] (h : p) : decide p = true := decide_eq_true h
theorem decFa {p : Prop} [Decidable p] (h : ¬ p) : decide p = false := decide_eq_false h
theorem notT {a : Bool} (h : a = false) : (!a) = true := by rw [h]; rfl

/-- none as nil -/
def optL {α : Type} (l : List α) : Option (List α) := match l with
  | [] => none
  | x :: l => some (x :: l)
theorem optL_ne {α : Type} {l : List α} (h : l ≠ []) : optL l = some l := by
  cases l with
  | nil => exact absurd rfl h
  | cons x l => rfl
theorem i64w {a : Int} {n : Nat} (h : a = (n : Int)) (hn : n < 9223372036854775808) : IntKind.i64.wrap a = ((n : Nat) : Int) := by rw [IntWalk.i64_in _ (by omega)]; exact h
theorem dmd_ble {a b : Nat} {p : Prop} (h : a ≤ b) : dmd (Nat.ble a b) p = p := by rw [bleT h]; rfl
theorem dmd_and {a b : Bool} {p : Prop} : dmd (a && b) p = dmd a (dmd b p) := by cases a <;> cases b <;> rfl
theorem dmd_beqn {a : Nat} {p : Prop} : dmd (Nat.beq a a) p = p := by rw [Nat.beq_refl]; rfl
theorem beq_cons {α : Type} {x : α} {l : List α} : Nat.beq (x :: l).length 0 = false := rfl
theorem beq_nil {α : Type} : Nat.beq ([] : List α).length 0 = true := rfl
theorem teq_self {s : Sh} {x : s.T} : teq s x x = true := teq_of rfl
theorem andB {a b : Bool} (h : (a && b) = true) : a = true ∧ b = true := by cases a <;> cases b <;> simp_all
theorem ifB_neg {p : Prop} {i : Decidable p} {a b : Prop} (h1 : ¬ p → a) (h2 : p → b) : ifB (!@decide p i) a b := by
  by_cases h : p
  · rw [decTr h]; exact h2 h
  · rw [decFa h]; exact h1 h
theorem ifB_dec {p : Prop} {i : Decidable p} {a b : Prop} (h1 : p → a) (h2 : ¬ p → b) : ifB (@decide p i) a b := by
  by_cases h : p
  · rw [decTr h]; exact h1 h
  · rw [decFa h]; exact h2 h

end Go.Proofs.YtghmfiandllpfaaDoor
