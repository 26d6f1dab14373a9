import Derived.Test.YtninlahlmjhmhaaQc
namespace Go.Proofs.Ytninlahlmjhmhaa
open Go.Ty

def modF : HL [wideS, numS] → SV := fun xs => .tup [.val numS (wordsN 4 (remN (valN xs.1) (valN xs.2.1))), .val i64S (errN (valN xs.2.1))]
theorem mod_ok : COK Try.prog noGl 39 (conT [wideS, numS] modF) := by
  refine conT_ok (fun xs hw => ?_) (fun xs => rfl)
  obtain ⟨a, m, ⟨⟩⟩ := xs
  refine PC_of_fw (t := []) shU_ok ct2_ok mixed Try.func39 (c := Try.f39.body.getD .skip) rfl (by kernel_rfl) (by kernel_rfl) loopsNil rfl ?_
  have e : FW Y2 Try.f39.ntmps (LTab.look []) Try.f39 (argsOf [wideS, numS] (a, m, ())) (fun r' => r' = modF (a, m, ())) =
    (SV.tup [AV.val numS (wordsN 4 (remN (valN a) (valN m))), AV.val i64S (errN (valN m))] = modF (a, m, ())) := by kernel_rfl
  rw [e]; rfl
def trueF : HL [] → SV := fun _ => .av (.val .bool true)
noncomputable def ct3 : CTab := (39, conT [wideS, numS] modF) :: ct2
theorem ct3_ok : ∀ p ∈ ct3, COK Try.prog noGl p.1 p.2 := CCons mod_ok ct2_ok
noncomputable abbrev Y3 : Go.Ty.Cx := mkX Try.prog noGl shU ct3
end Go.Proofs.Ytninlahlmjhmhaa
