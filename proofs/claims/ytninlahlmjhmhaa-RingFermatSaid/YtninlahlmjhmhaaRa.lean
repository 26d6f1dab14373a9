import Derived.Test.YtninlahlmjhmhaaQh
namespace Go.Proofs.Ytninlahlmjhmhaa
open Go.Ty

/-! ## Words that are added and multiplied -/
def add64F : HA [.v u64S, .v u64S, .v u64S] → RT := fun xs => .dem (Nat.ble (BitVec.toNat xs.2.2.1) 1) (.ret (.tup [.val u64S (BitVec.ofNat 64 (BitVec.toNat xs.1 + BitVec.toNat xs.2.1 + BitVec.toNat xs.2.2.1)), .val u64S (BitVec.ofNat 64 ((BitVec.toNat xs.1 + BitVec.toNat xs.2.1 + BitVec.toNat xs.2.2.1) / 2 ^ 64))]))
def mul64F : HA [.v u64S, .v u64S] → RT := fun xs => .ret (.tup [.val u64S (BitVec.ofNat 64 (BitVec.toNat xs.1 * BitVec.toNat xs.2.1 / 2 ^ 64)), .val u64S (BitVec.ofNat 64 (BitVec.toNat xs.1 * BitVec.toNat xs.2.1))])
theorem flat_ofNat (n : Nat) : flatV u64S (BitVec.ofNat 64 n) = u64 (n % 2 ^ 64) := by
  show Value.int .u64 ((BitVec.ofNat 64 n).toNat : Int) = _
  rw [BitVec.toNat_ofNat]
theorem add64_ok : COK Try.prog noGl 52 (conA [.v u64S, .v u64S, .v u64S] add64F) := by
  refine conA_ok (fun xs _ hc => ?_) (fun _ => rfl)
  obtain ⟨x, y, c, ⟨⟩⟩ := xs
  have hc : Nat.ble (BitVec.toNat c) 1 = true := hc.1
  have hc := Nat.le_of_ble_eq_true hc
  have hx := BitVec.isLt x
  have hy := BitVec.isLt y
  refine PC_of_wcon (ss := [u64S, u64S, u64S]) (xs := (x, y, c, ())) add64_con rfl (ok2 ⟨rfl, trivial⟩ ⟨rfl, trivial⟩) rfl ?_
  have hb : (((BitVec.toNat c : Nat) : Int) == 0 || ((BitVec.toNat c : Nat) : Int) == 1) = true := by
    have : BitVec.toNat c = 0 ∨ BitVec.toNat c = 1 := by omega
    rcases this with e | e <;> rw [e] <;> rfl
  show (bif (((BitVec.toNat c : Nat) : Int) == 0 || ((BitVec.toNat c : Nat) : Int) == 1) then some (Value.tuple ⟨[u64 ((BitVec.toNat x + BitVec.toNat y + BitVec.toNat c) % 2 ^ 64), u64 ((BitVec.toNat x + BitVec.toNat y + BitVec.toNat c) / 2 ^ 64)]⟩) else none) =
    some (.tuple ⟨[flatV u64S (BitVec.ofNat 64 (BitVec.toNat x + BitVec.toNat y + BitVec.toNat c)), flatV u64S (BitVec.ofNat 64 ((BitVec.toNat x + BitVec.toNat y + BitVec.toNat c) / 2 ^ 64))]⟩)
  rw [hb, flat_ofNat, flat_u64 _ (by omega)]; rfl
theorem mul64_ok : COK Try.prog noGl 56 (conA [.v u64S, .v u64S] mul64F) := by
  refine conA_ok (fun xs _ hc => ?_) (fun _ => rfl)
  obtain ⟨x, y, ⟨⟩⟩ := xs
  have hx := BitVec.isLt x
  have hy := BitVec.isLt y
  have hxy : BitVec.toNat x * BitVec.toNat y < 2 ^ 64 * 2 ^ 64 := Nat.mul_lt_mul'' hx hy
  refine PC_of_wcon (ss := [u64S, u64S]) (xs := (x, y, ())) mul64_con rfl (ok2 ⟨rfl, trivial⟩ ⟨rfl, trivial⟩) rfl ?_
  show some (Value.tuple ⟨[u64 (BitVec.toNat x * BitVec.toNat y / 2 ^ 64), u64 (BitVec.toNat x * BitVec.toNat y % 2 ^ 64)]⟩) =
    some (.tuple ⟨[flatV u64S (BitVec.ofNat 64 (BitVec.toNat x * BitVec.toNat y / 2 ^ 64)), flatV u64S (BitVec.ofNat 64 (BitVec.toNat x * BitVec.toNat y))]⟩)
  rw [flat_ofNat, flat_ofNat, Nat.mod_eq_of_lt (show BitVec.toNat x * BitVec.toNat y / 2 ^ 64 < 2 ^ 64 by omega)]

/-! ## The ring -/
abbrev ringS : Sh := .pair numS (.pair numS (.pair numS (.pair u64S .unit)))
abbrev RingT := List (BitVec 64) × List (BitVec 64) × List (BitVec 64) × BitVec 64 × Unit
def shR : STab := (70, ringS) :: shU
theorem shR_ok : shR.all (fun (t, s) => shChk Try.prog s (.inl t)) = true := by kernel_rfl
noncomputable def ct6 : CTab := (52, conA [.v u64S, .v u64S, .v u64S] add64F) :: (56, conA [.v u64S, .v u64S] mul64F) :: ct5
theorem ct6_ok : ∀ p ∈ ct6, COK Try.prog noGl p.1 p.2 := CCons add64_ok (CCons mul64_ok ct5_ok)
noncomputable abbrev Y6 : Go.Ty.Cx := mkX Try.prog noGl shR ct6
end Go.Proofs.Ytninlahlmjhmhaa
