/- One share too few. -/
import Derived.Test.YtghmfiandllpfaaDoorTb
import Derived.Test.YtghmfiandllpfaaDoorSz
import Derived.Test.YtghmfiandllpfaaDoorTyC
namespace Go.Proofs.YtghmfiandllpfaaDoor.shareFew
open Go.ChangeShapes Go.WideShapes Go.ChangeAt Go.RowKit Go.Ty
theorem params : ∀ t ∈ Tryd.f4.params.toList, Tryd.prog.readableRec t = true ∧ t < Tryd.prog.types.size := by decide +kernel
theorem laid_met (os : Os) : laidMet Tryd.prog Rows.shareFewRow.laid ((laidWorld os).forCall (fun _ _ => 0) ⟨#[], #[.slice none 0 0, .int .i64 0, .agg #[.int .u64 0, .int .u64 0, .int .u64 0, .int .u64 0]], []⟩).memory :=
  laidMet_of_run' 8 (by kernel_rfl) (by kernel_rfl)
theorem reads (os : Os) {H : Type} (enc : TypeId × Value → H) : ∃ places, DataW.whole enc Tryd.prog ((laidWorld os).forCall (fun _ _ => 0) ⟨#[], #[.slice none 0 0, .int .i64 0, .agg #[.int .u64 0, .int .u64 0, .int .u64 0, .int .u64 0]], []⟩).memory Tryd.f4.params.toList Rows.shareFewSpec.vars false (#[.slice none 0 0, .int .i64 0, .agg #[.int .u64 0, .int .u64 0, .int .u64 0, .int .u64 0]] : Array Value).toList 64 = some ([.nil, .lit (.int .i64 0), .agg [.lit (.int .u64 0), .lit (.int .u64 0), .lit (.int .u64 0), .lit (.int .u64 0)]], [], places) :=
  ⟨[], by kernel_rfl⟩
set_option maxRecDepth 100000 in
theorem lifted (os : Os) (started : os.Started) (H : Type) (enc : TypeId × Value → H) (F : Stop.Interp) :
    ReturnsInHanded {} Tryd.checked os 4 .any ((OpenSpec.ofChange Rows.shareFewSpec).preRow enc Tryd.prog Tryd.f4 Rows.shareFewRow.domain false Rows.shareFewRow.laid) (((OpenSpec.ofChange Rows.shareFewSpec).at F).post enc Tryd.prog Tryd.f4 false true false false) := by
  obtain ⟨places, hx⟩ := reads os enc
  refine returnsInHanded_of_row (C := Tryd.checked) (s := OpenSpec.ofChange Rows.shareFewSpec) own started (by kernel_rfl) Tryd.func4
    (witness_row_at (enc := enc) (C := Tryd.checked) false (laidWorld os) #[.slice none 0 0, .int .i64 0, .agg #[.int .u64 0, .int .u64 0, .int .u64 0, .int .u64 0]] rfl (by kernel_rfl) (by kernel_rfl) (by kernel_rfl)
      (OpenSpec.preRow_of_cond 64 hx (by kernel_rfl) (fun k hk => by cases hk) (by kernel_rfl) (laid_met os))) ?_
  intro W base args ds gs before hval hW _ hcond hz hL _ _
  exact law_calls (gl := GL) (C := Tryd.checked) (B := 140737488351232) Tryd.func4 (by kernel_rfl) (by kernel_rfl) (by kernel_rfl) params rfl rfl Tryd.underlying4 (fun ds h => by
      match ds, h with
      | [d0, d1, d2], _ => rfl)
    [.sl (.pair i64S (.pair numS .unit)), i64S, numS] (by kernel_rfl) (walkShareFew) W base args ds gs before hval hW (glob_in hL) (fun e n hn => by subst e; exact of_decide_eq_true (List.all_eq_true.1 hz n (by rw [List.append_nil]; rw [show Tryd.f4.params.toList ++ (OpenSpec.ofChange Rows.shareFewSpec).bare.plain.varTypes Tryd.checked.prog = Tryd.f4.params.toList from List.append_nil _]; exact hn)))
theorem said : Rows.ShareFewSaid :=
  OpenClaim.holds_of_cond 4 Tryd.f4 rfl rfl rfl rfl rfl rfl rfl ⟨rfl, rfl, rfl, rfl, rfl⟩ rfl rfl rfl rfl rfl (by kernel_rfl) Tryd.func4 (by kernel_rfl)
    (of_decide_eq_true (by kernel_rfl)) (by unfold Func.isWrapper; first | (rw [if_pos (by decide +kernel)]; kernel_rfl) | (rw [if_neg (by decide +kernel)]; exact ⟨rfl, rfl⟩))
    (fun os started H enc _ F => by rw [OpenClaim.pre_eq_preRow]; exact lifted os started H enc F)
theorem plain (f : FuncId) (fn : Func) (hf : Tryd.pinned.checked.prog.funcNamed "sealring/sealringkeep.ShareFew" = some f) (hfn : Tryd.pinned.checked.prog.funcs[f]? = some fn) :
    false = Tryd.pinned.checked.prog.looks [] ∧ ∀ (j : Nat) t, fn.params[j]? = some t → Tryd.pinned.checked.prog.wantsStandIn t = false := by
  obtain rfl : f = 4 := Option.some.inj ((show Tryd.prog.funcNamed "sealring/sealringkeep.ShareFew" = some 4 by kernel_rfl).symm.trans hf) |>.symm
  obtain rfl : fn = Tryd.f4 := (Option.some.inj (Tryd.func4.symm.trans hfn)).symm
  refine ⟨by kernel_rfl, fun j t ht => ?_⟩
  have hm : t ∈ Tryd.f4.params.toList := Array.mem_toList_iff.2 (Array.mem_of_getElem? ht)
  have hall : ∀ u ∈ Tryd.f4.params.toList, Tryd.prog.wantsStandIn u = false := by decide +kernel
  exact hall t hm
theorem proved : Rows.ShareFewCardSaid :=
  Claim7.holds_tied_plain_at .later [] _ _ _ _ said (fun _ h => by cases h) (by kernel_rfl) (fun _ h => by cases h) shareFew_row_tie rfl ⟨rfl, rfl⟩ (by kernel_rfl) rfl plain (by kernel_rfl)
#print axioms proved
end Go.Proofs.YtghmfiandllpfaaDoor.shareFew
