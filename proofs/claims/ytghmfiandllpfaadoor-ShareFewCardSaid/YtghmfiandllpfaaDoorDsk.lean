import Derived.Test.YtghmfiandllpfaaDoorDs
namespace Go.Proofs.YtghmfiandllpfaaDoor
open Go.Ty

/-! ## Bytes that are skipped -/
noncomputable def skpG (x : Src) (n : Int) : Src := bif decide (fitsE n = 0) then (x.1, x.2.1 + BitVec.ofInt 64 n, x.2.2.1, false, x.2.2.2.2) else x
theorem fwSkip (x : Src) (n : Int) (K : SV → Slot → Prop) : FWM R2 Tryd.f27.ntmps (LTab.look []) Tryd.f27 srcS x (argsOf [i64S] (n, ())) K =
  ifB (!decide (fitsE n = 0)) (K (.av (.val i64S (fitsE n))) (.live ⟨.one srcS (.val srcS x), true⟩))
    (K (.av (.val i64S 0)) (.live ⟨.one srcS (.val srcS (x.1, x.2.1 + BitVec.ofInt 64 n, x.2.2.1, false, x.2.2.2.2)), true⟩)) := by kernel_rfl
theorem skip_law (x : Src) (n : Int) (K : SV → Slot → Prop) (h : K (.av (.val i64S (fitsE n))) (.live ⟨.one srcS (.val srcS (skpG x n)), true⟩)) : FWM R2 Tryd.f27.ntmps (LTab.look []) Tryd.f27 srcS x (argsOf [i64S] (n, ())) K := by
  rw [fwSkip]
  refine ifB_neg (fun d => ?_) (fun d => ?_)
  · have e : skpG x n = x := by unfold skpG; exact cond_neg (decFa d)
    rw [e] at h; exact h
  · have e : skpG x n = (x.1, x.2.1 + BitVec.ofInt 64 n, x.2.2.1, false, x.2.2.2.2) := by unfold skpG; exact cond_pos (decTr d)
    rw [e, d] at h; exact h
theorem skip_ok : COK Tryd.prog GL 27 (conM srcS [.v i64S] (fun x xs => skpG x xs.1) fun _ xs => .ret (.av (.val i64S (fitsE xs.1)))) :=
  conM_ok rfl (fun x xs _ _ _ => FWM_pcm (LS := LTab.look []) (xok shA_ok) (consok R2_ok) mixed Tryd.func27 (c := Tryd.f27.body.getD .skip) rfl (by kernel_rfl) (by kernel_rfl) loopsNil (skip_law x xs.1 _ ⟨rfl, rfl⟩) rfl) (fun _ _ => rfl)
end Go.Proofs.YtghmfiandllpfaaDoor
