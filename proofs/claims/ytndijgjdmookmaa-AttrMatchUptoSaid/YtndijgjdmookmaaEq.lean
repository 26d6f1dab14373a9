import Derived.Test.YtndijgjdmookmaaB0
import Derived.Laws.BytesArg
import Derived.Lib.Strings
import Derived.Lib.Slices
import Derived.Lib.Walk
import Derived.Lib.Bytes
namespace Go.Proofs.Ytndijgjdmookmaa
open Go.Ty
open Go.Ab (TRel VRel LRel CRel Sim locA capRel)

/-! ## Bytes as a string, in the model -/
def ints (xs : List (BitVec 8)) : List Int := xs.map fun x => (x.toNat : Int)
theorem cells_ints {G : Nat → Option (List Value)} {H1 : Go.Ab.Heap} : ∀ {xs : List (BitVec 8)} {ds : List Value}, AllC (Cells G H1 u8S) xs ds → ds = (ints xs).map (Value.int .u8)
  | [], _, h => h
  | x :: xs, ds, ⟨c, d, e, h1, h2⟩ => by
    have h1 : c = [.int .u8 (toI .u8 x)] := h1
    rw [e, h1, cells_ints h2]; rfl
theorem crel_ints {ρ : Nat → Go.Ab.Loc} {n : Nat} : ∀ {xs : List Int} {l : List Value}, LRel (CRel ρ n) (xs.map (Value.int .u8)) l → l = xs.map (Value.int .u8) := by
  intro xs l h
  refine List.ext_getElem? fun j => ?_
  cases hj : (xs.map (Value.int .u8))[j]? with
  | none =>
    have : l.length ≤ j := by rw [← h.1]; exact List.getElem?_eq_none_iff.1 hj
    exact List.getElem?_eq_none this
  | some v =>
    obtain ⟨v', h1, h2⟩ := h.2 j v hj
    rw [h1]
    rw [List.getElem?_map] at hj
    cases hx : xs[j]? with
    | none => rw [hx] at hj; cases hj
    | some x =>
      rw [hx] at hj
      injection hj with hj
      subst hj
      have h2 : v' = .int .u8 x := h2
      rw [h2]
set_option maxRecDepth 20000 in
theorem conv_bytes {C : Go.Ab.Ctx} {ρ : Nat → Go.Ab.Loc} {H1 : Go.Ab.Heap} {w : World} (hs : Sim (x1 (bx Try.prog GL)) C ρ H1 w) {xs : List (BitVec 8)} {u v' : Value} (hu : Cells (gl1 (bx Try.prog GL)) H1 (.sl u8S) xs [u]) (hv : TRel ρ H1.length u v') :
    (convert 43 9 v').run Try.prog w = .ok (.string (strOfNums (ints xs))) w := by
  have t9 : Try.prog.underlying 9 = some TypeDesc.string := Try.underlying9
  have t5 : Try.prog.underlying 5 = some (TypeDesc.int IntKind.u8) := Try.underlying5
  have t25 : Try.prog.underlying 43 = some (TypeDesc.slice 5) := Try.underlying43
  have zero : ∀ (p : Option Addr) (c : Nat), (convert 43 9 (.slice p 0 c)).run Try.prog w = .ok (.string (strOfNums (ints []))) w := by
    intro p c
    rw [run_convert_bytes_string w 43 9 5 p 0 c t25 t5 t9]
    cases p with
    | none => simp [Conv.bytesToString]; rfl
    | some a =>
      rw [run_bytesToString w a 0 c [] (by simpa using run_loadCells_list (P := Try.prog) w a [] (fun j v hj => by cases hj))]
      rfl
  rcases hu with ⟨hu, rfl⟩ | ⟨a, c, hu, hc, hx⟩
  · injection hu with hu
    subst hu
    obtain ⟨_, _, rfl⟩ := Go.Ab.TRel.slcnil hv
    exact zero none 0
  · injection hu with hu
    subst hu
    obtain ⟨_, a', c', rfl, hcap⟩ := Go.Ab.TRel.slc hv
    by_cases h0 : xs = []
    · subst h0
      exact zero (some a') c'
    · obtain ⟨ds, hrow, hall⟩ := hx.resolve_left h0
      have hds := cells_ints hall
      subst hds
      have hlen : 0 < List.length xs := List.length_pos_iff.2 h0
      have ha : a' = locA ρ a := by
        unfold capRel at hcap
        split at hcap
        · rcases hcap.1 with e | e
          · exact e
          · omega
        · exact hcap.1
      subst ha
      obtain ⟨B, b1, b2, b3⟩ := cellsAt_row (X := bx Try.prog GL) (M := lk0 H1) hrow
      obtain ⟨cs', l1, l2⟩ := Go.Ab.load_row hs b1 b2
      rw [b3] at l2
      have l3 := crel_ints l2
      have lenI : ((ints xs).map (Value.int .u8)).length = List.length xs := by unfold ints; rw [List.length_map, List.length_map]
      rw [lenI] at l1
      have l4 : cs' = ((ints xs).map (Value.int .u8)).toArray := by
        rw [← l3]
      rw [l4] at l1
      rw [run_convert_bytes_string w 43 9 5 _ _ c' t25 t5 t9]
      have l1 : (loadCells (locA ρ a) (List.length xs)).run Try.prog w = .ok ((ints xs).map (Value.int .u8)).toArray w := l1
      rw [run_bytesToString w _ _ c' (ints xs) l1, foldl_push_bytes]
      simp [strOfNums, ByteArray.empty, ByteArray.emptyWithCapacity]
      rfl
set_option maxHeartbeats 1000000 in
theorem equal_calls (v1 v2 : Value) (xs ys : List Int) (w : World)
    (h1 : (convert 43 9 v1).run Try.prog w = .ok (.string (strOfNums xs)) w) (h2 : (convert 43 9 v2).run Try.prog w = .ok (.string (strOfNums ys)) w) :
    Calls Try.prog 24 #[v1, v2] w fun e w' => e = .returned (.bool ((strOfNums xs).toList == (strOfNums ys).toList)) ∧ w' = w := by
  have t4 : Try.prog.underlying 4 = some TypeDesc.bool := Try.underlying4
  have t9 : Try.prog.underlying 9 = some TypeDesc.string := Try.underlying9
  have t37 : Try.prog.underlying 43 = some (TypeDesc.slice 5) := Try.underlying43
  have mixed : Try.prog.follows .mixedOrders = true := mixed
  go_enter Try.func24, Try.ntmps24
  go_wp2
  go_ret
  exact ⟨rfl, rfl⟩
theorem str_inj (xs ys : List (BitVec 8)) : ((strOfNums (ints xs)).toList == (strOfNums (ints ys)).toList) = teq (.sl u8S) xs ys := by
  have inj : (strOfNums (ints xs)).toList = (strOfNums (ints ys)).toList ↔ xs = ys := by
    rw [Lib.strOfNums_toList, Lib.strOfNums_toList]
    constructor
    · intro h
      have hl := congrArg List.length h
      unfold Lib.bytesOf ints at h hl
      rw [List.map_map, List.map_map] at h
      rw [List.length_map, List.length_map, List.length_map, List.length_map] at hl
      refine List.ext_getElem hl fun i h1 h2 => ?_
      have := congrArg (fun l => l[i]?) h
      simp only [List.getElem?_map, List.getElem?_eq_getElem h1, List.getElem?_eq_getElem h2, Option.map_some, Option.some.injEq, Function.comp_apply, Int.toNat_natCast] at this
      have e := congrArg UInt8.toNat this
      rw [UInt8.toNat_ofNat', UInt8.toNat_ofNat'] at e
      have b1 := xs[i].isLt
      have b2 := ys[i].isLt
      exact BitVec.eq_of_toNat_eq (by omega)
    · intro h; rw [h]
  by_cases h : xs = ys
  · have e : teq (.sl u8S) xs ys = true := teq_of h
    rw [e]
    exact beq_iff_eq.2 (inj.2 h)
  · have e : teq (.sl u8S) xs ys = false := Bool.eq_false_iff.2 fun c => h (teq_iff.1 c)
    rw [e]
    exact beq_eq_false_iff_ne.2 fun c => h (inj.1 c)
noncomputable def equalF : HL [.sl u8S, .sl u8S] → SV := fun xs => .av (.val .bool (teq (.sl u8S) xs.1 xs.2.1))
theorem equal_ok : COK Try.prog GL 24 (conT [.sl u8S, .sl u8S] equalF) := by
  refine conT_ok (fun xs hw => ?_) (fun xs => rfl)
  obtain ⟨xs, ys, ⟨⟩⟩ := xs
  refine ⟨rfl, fun C ρ H1 w l1 l' ha hl hs => .inl ⟨Try.f24, Try.func24, rfl, rfl, ?_⟩⟩
  obtain ⟨u1, r1, rfl, q1, ha⟩ := ha.inv
  obtain ⟨u2, r2, rfl, q2, ha⟩ := ha.inv
  have e3 : r2 = [] := List.eq_nil_of_length_eq_zero ha.1.symm
  subst e3
  obtain ⟨cs1, c1, k1⟩ := VR.val (show VR (gl1 (bx Try.prog GL)) (lk0 H1) (.val (.sl u8S) xs) u1 from q1)
  obtain ⟨cs2, c2, k2⟩ := VR.val (show VR (gl1 (bx Try.prog GL)) (lk0 H1) (.val (.sl u8S) ys) u2 from q2)
  obtain ⟨v1, m1, n1⟩ := hl.2 0 u1 rfl
  obtain ⟨v2, m2, n2⟩ := hl.2 1 u2 rfl
  have el : l' = [v1, v2] := by
    have h2 : l'.length = 2 := hl.1.symm
    match l', h2 with
    | [a, b], _ =>
      simp at m1 m2
      rw [m1, m2]
  subst el
  have s1 : cs1 = [u1] := by
    rcases c1 with ⟨rfl, _⟩ | ⟨a, c, rfl, _⟩ <;> rw [k1] <;> rfl
  have s2 : cs2 = [u2] := by
    rcases c2 with ⟨rfl, _⟩ | ⟨a, c, rfl, _⟩ <;> rw [k2] <;> rfl
  subst s1 s2
  refine (equal_calls v1 v2 (ints xs) (ints ys) w (conv_bytes hs c1 n1) (conv_bytes hs c2 n2)).mono ?_
  rintro e w' ⟨rfl, rfl⟩
  refine ⟨_, rfl, .bool (teq (.sl u8S) xs ys), ρ, H1, ?_, ?_, fun _ _ => rfl, hs, Nat.le_refl _, fun _ _ h => h⟩
  · exact VR.mkval (s := .bool) (x := teq (.sl u8S) xs ys) (cs := [.bool (teq (.sl u8S) xs ys)]) rfl
  · rw [str_inj]; exact rfl
end Go.Proofs.Ytndijgjdmookmaa
