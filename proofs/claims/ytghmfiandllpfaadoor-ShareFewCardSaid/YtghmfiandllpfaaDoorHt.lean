import Derived.Test.YtghmfiandllpfaaDoorHs
namespace Go.Proofs.YtghmfiandllpfaaDoor
open Go.Ty

/-! ## A press that the kernel counts -/
def frcB {α : Type} (x : BitVec 32) (f : BitVec 32 → α) : α := Nat.rec (motive := fun _ => α) (f 0#32) (fun k _ => f (BitVec.ofNat 32 (k + 1))) x.toNat
theorem frcB_eq {α : Type} (x : BitVec 32) (f : BitVec 32 → α) : frcB x f = f x := by
  unfold frcB
  cases h : x.toNat with
  | zero => show f 0#32 = f x; rw [show x = 0#32 from BitVec.eq_of_toNat_eq h]
  | succ k => show f (BitVec.ofNat 32 (k + 1)) = f x; rw [← h, BitVec.ofNat_toNat, BitVec.setWidth_eq]
def forceL {α : Type} : List (BitVec 32) → (List (BitVec 32) → α) → α
  | [], f => f []
  | x :: xs, f => frcB x fun y => forceL xs fun ys => f (y :: ys)
theorem forceL_eq {α : Type} : ∀ (l : List (BitVec 32)) (f : List (BitVec 32) → α), forceL l f = f l
  | [], _ => rfl
  | x :: xs, f => by unfold forceL; rw [frcB_eq, forceL_eq xs]
def itrF {α : Type} (f : List (BitVec 32) → Nat → List (BitVec 32)) (x : List (BitVec 32)) : Nat → (List (BitVec 32) → α) → α
  | 0, k => k x
  | n + 1, k => itrF f x n fun y => forceL (f y n) k
theorem itrF_eq {α : Type} (f : List (BitVec 32) → Nat → List (BitVec 32)) (x : List (BitVec 32)) : ∀ (n : Nat) (k : List (BitVec 32) → α), itrF f x n k = k (itr f x n)
  | 0, _ => rfl
  | n + 1, k => by unfold itrF; rw [itrF_eq f x n, forceL_eq]; rfl
def pressF {α : Type} (h : List (BitVec 32)) (b : List (BitVec 8)) (k : List (BitVec 32) → α) : α :=
  itrF (stepA b) (List.replicate 64 0#32) 64 fun w => itrF (stepB w) h 64 fun v => itrF (stepC v) h 8 k
theorem pressF_eq {α : Type} (h : List (BitVec 32)) (b : List (BitVec 8)) (k : List (BitVec 32) → α) : pressF h b k = k (pressW h b) := by
  unfold pressF; rw [itrF_eq, itrF_eq, itrF_eq, pressW_eq]; rfl

/-! ## States of a digest -/
abbrev hsS : Sh := .pair h8S (.pair u64S (.pair b64S .unit))
abbrev HS : Type := hsS.T
def ivW : List (BitVec 32) := [1779033703#32, 3144134277#32, 1013904242#32, 2773480762#32, 1359893119#32, 2600822924#32, 528734635#32, 1541459225#32]
def newD : HS := (ivW, 0#64, List.replicate 64 0#8, ())
noncomputable def stepH (s : HS) (b : BitVec 8) : HS := bif decide ((s.2.1 + 1#64) % 64#64 = 0#64) then (pressW s.1 (List.set s.2.2.1 (s.2.1 % 64#64).toNat b), s.2.1 + 1#64, List.set s.2.2.1 (s.2.1 % 64#64).toNat b, ())
  else (s.1, s.2.1 + 1#64, List.set s.2.2.1 (s.2.1 % 64#64).toNat b, ())
noncomputable def writeW (s : HS) (p : List (BitVec 8)) : HS := p.foldl stepH s
theorem writeW_app (s : HS) (p q : List (BitVec 8)) : writeW s (p ++ q) = writeW (writeW s p) q := List.foldl_append
theorem writeW_nil (s : HS) : writeW s [] = s := rfl
theorem write_n : ∀ (p : List (BitVec 8)) (s : HS), (writeW s p).2.1 = s.2.1 + BitVec.ofNat 64 p.length
  | [], s => by show s.2.1 = s.2.1 + 0#64; rw [BitVec.add_zero]
  | b :: p, s => by
    have h := write_n p (stepH s b)
    have e : (stepH s b).2.1 = s.2.1 + 1#64 := by unfold stepH; cases decide ((s.2.1 + 1#64) % 64#64 = 0#64) <;> rfl
    show (writeW (stepH s b) p).2.1 = _
    rw [h, e, List.length_cons, BitVec.add_assoc]
    congr 1
    rw [show p.length + 1 = 1 + p.length by omega, BitVec.ofNat_add]
def bytesH (h : List (BitVec 32)) : List (BitVec 8) := (List.range 8).flatMap fun i => [BitVec.setWidth 8 (rd u32S h i >>> 24), BitVec.setWidth 8 (rd u32S h i >>> 16), BitVec.setWidth 8 (rd u32S h i >>> 8), BitVec.setWidth 8 (rd u32S h i)]
noncomputable def sumW (s : HS) : List (BitVec 8) := bytesH (writeW s (padW s.2.1)).1
noncomputable def digW (p : List (BitVec 8)) : List (BitVec 8) := sumW (writeW newD p)
theorem bytesH_len (h : List (BitVec 32)) : (bytesH h).length = 32 := rfl
theorem sumW_len (s : HS) : (sumW s).length = 32 := bytesH_len _
/-- its lengths are right -/
def wfH (s : HS) : Prop := List.length s.1 = 8 ∧ List.length s.2.2.1 = 64
theorem wf_new : wfH newD := ⟨rfl, rfl⟩
theorem wf_step {s : HS} (h : wfH s) (b : BitVec 8) : wfH (stepH s b) := by
  unfold stepH
  cases decide ((s.2.1 + 1#64) % 64#64 = 0#64) with
  | true => exact ⟨by show (pressW _ _).length = 8; rw [pressW_len]; exact h.1, by show (List.set _ _ _).length = 64; rw [List.length_set]; exact h.2⟩
  | false => exact ⟨h.1, by show (List.set _ _ _).length = 64; rw [List.length_set]; exact h.2⟩
theorem wf_write : ∀ (p : List (BitVec 8)) {s : HS}, wfH s → wfH (writeW s p)
  | [], _, h => h
  | b :: p, _, h => wf_write p (wf_step h b)

theorem fwNew  (P : SV → Prop) : FW H0 Tryd.f62.ntmps (LTab.look []) Tryd.f62 (argsOf [] (())) P =
 (  P
    (SV.av
      (AV.val
        ((Sh.arr 8 (Sh.int IntKind.u32)).pair ((Sh.int IntKind.u64).pair ((Sh.arr 64 (Sh.int IntKind.u8)).pair Sh.unit)))
        (((((((((List.replicate 8 0#32).set 0 1779033703#32).set 1 3144134277#32).set 2 1013904242#32).set 3
                            2773480762#32).set
                        4 1359893119#32).set
                    5 2600822924#32).set
                6 528734635#32).set
            7 1541459225#32,
          0#64, List.replicate 64 0#8, PUnit.unit)))) := by kernel_rfl
theorem new_ok : COK Tryd.prog GL 62 (conT [] fun _ => .av (.val hsS newD)) := by
  refine conT_ok (fun xs hw => ?_) (fun _ => rfl)
  exact PC_of_fw (t := []) shA_ok CNil mixed Tryd.func62 (c := Tryd.f62.body.getD .skip) rfl (by kernel_rfl) (by kernel_rfl) loopsNil rfl ((fwNew _).mpr rfl)
noncomputable def H3c : CTab := (86, conT [h8S, b64S] fun xs => .av (.val h8S (pressW xs.1 xs.2.1))) :: H2c
noncomputable abbrev H3 : Go.Ty.Cx := mkX Tryd.prog GL shA H3c
theorem H3_ok : ∀ p ∈ H3c, COK Tryd.prog GL p.1 p.2 := CCons press_ok H2_ok
abbrev IpW : List It := [.p 2 2000 hsS, .p 4 2001 hsS, .v 7 (.sl u8S), .v 8 i64S, .v 9 i64S]
abbrev opW : List (Nat × List It) := [(0, [.p 2 2000 hsS, .p 4 2001 hsS])]
noncomputable def QpW : LQ IpW [] opW := fun x _ Kx => ∃ (s r : HS) (p : List (BitVec 8)), x = (s, r, p, ((p.length : Nat) : Int), (0 : Int), ()) ∧ p.length ≤ 140737488355328 ∧ Kx.1 (writeW s p, r, ())
noncomputable def bwr : Code := Tryd.f63.body.getD .skip
noncomputable abbrev Lwr : LTab := [(2, ptL IpW [] opW QpW)]
theorem roundW (s r : Sh.T hsS) (p : List (BitVec 8)) (m i : Int) (Kn : HI IpW → Prop) (Kr : HI [] → Prop) (Kx : HP opW) : roundT (W H3 Tryd.f63.ntmps (LTab.look Lwr) (bodyAt bwr 2)) IpW [] opW (s, r, p, m, i, ()) Kn Kr Kx =
 (  ifB (decide (i < m))
    (dmd (decide (0 ≤ i) && decide (i < ((p.length : Nat) : Int)))
      (dmd ((s.2.1 % 64#64).toNat.blt 64)
        (ifB (decide ((s.2.1 + 1#64) % 64#64 = 0#64))
          (Kn
            ((pressW s.1 (List.set s.2.2.1 (s.2.1 % 64#64).toNat (rd (Sh.int IntKind.u8) p i.toNat)), s.2.1 + 1#64,
                List.set s.2.2.1 (s.2.1 % 64#64).toNat (rd (Sh.int IntKind.u8) p i.toNat), s.2.2.2),
              r, p, m, IntKind.i64.wrap (i + 1), PUnit.unit))
          (Kn
            ((s.1, s.2.1 + 1#64, List.set s.2.2.1 (s.2.1 % 64#64).toNat (rd (Sh.int IntKind.u8) p i.toNat), s.2.2.2), r,
              p, m, IntKind.i64.wrap (i + 1), PUnit.unit)))))
    (Kx.1 (s, r, PUnit.unit))) := by kernel_rfl
theorem fwWrite (s : Sh.T (hsS)) (p : Sh.T (.sl u8S)) (P : SV → Prop) : FW H3 Tryd.f63.ntmps (LTab.look Lwr) Tryd.f63 (argsOf [hsS, .sl u8S] (s, p, ())) P =
 (  QpW (s, (List.replicate 8 0#32, 0#64, List.replicate 64 0#8, PUnit.unit), p, (((List.length p) : Nat) : Int), 0, PUnit.unit)
    (fun _ => False)
    (fun x =>
      P
        (SV.av
          (AV.val
            ((Sh.arr 8 (Sh.int IntKind.u32)).pair
              ((Sh.int IntKind.u64).pair ((Sh.arr 64 (Sh.int IntKind.u8)).pair Sh.unit)))
            x.1)),
      PUnit.unit)) := by kernel_rfl
theorem mod64 (x : BitVec 64) : (x % 64#64).toNat.blt 64 = true := by
  rw [BitVec.toNat_umod]
  exact Nat.ble_eq_true_of_le (Nat.mod_lt _ (by decide))
theorem take_next {p : List (BitVec 8)} {i : Nat} (h : i < p.length) : p.take (i + 1) = p.take i ++ [rd u8S p i] := by
  rw [List.take_add_one, rd_at h, List.getElem?_eq_getElem h]; rfl
theorem loopW : ∀ x Kr Kx, QpW x Kr Kx → ∃ n, untl (W H3 Tryd.f63.ntmps (LTab.look Lwr) (bodyAt bwr 2)) IpW [] opW n x Kr Kx := by
  rintro x Kr Kx ⟨s, r, p, ex, hp, hK⟩
  have key := untl_up (F := W H3 Tryd.f63.ntmps (LTab.look Lwr) (bodyAt bwr 2)) (l := IpW) (lr := []) (lx := opW) (Kr := Kr) (Kx := Kx) (st := fun i => (writeW s (p.take i), r, p, ((p.length : Nat) : Int), (i : Int), ())) p.length (fun i hi Kn hn => ?_) (fun Kn => ?_)
  · rw [ex]; exact key
  · have e : writeW s (p.take (i + 1)) = stepH (writeW s (p.take i)) (rd u8S p i) := by rw [take_next hi, writeW_app]; rfl
    rw [e] at hn
    generalize writeW s (p.take i) = z at hn
    rw [roundW]
    rw [i64w (a := (i : Int) + 1) (n := i + 1) (by omega) (by omega), Int.toNat_natCast]
    refine ifB_of (fun _ => dmd_of (inB hi) (dmd_of (mod64 _) (ifB_of (fun c => ?_) (fun c => ?_)))) (fun c => absurd (of_decide_eq_false c) (by omega))
    · unfold stepH at hn
      rw [c] at hn; exact hn
    · unfold stepH at hn
      rw [c] at hn; exact hn
  · rw [roundW, List.take_length]
    exact ifB_of (fun c => absurd (of_decide_eq_true c) (by omega)) (fun _ => hK)
theorem write_pc (s : HS) (p : List (BitVec 8)) (hp : p.length ≤ 140737488355328) : PC (bx Tryd.prog GL) 63 (argsOf [hsS, .sl u8S] (s, p, ())) (.av (.val hsS (writeW s p))) :=
  PC_of_fw (t := Lwr) shA_ok H3_ok mixed Tryd.func63 (c := bwr) rfl (by kernel_rfl) (by kernel_rfl)
    (loopsOK (by kernel_rfl) (LTCons (loop_of shA_ok H3_ok mixed (loopsOK (by kernel_rfl) (LTCons (noLoop (by kernel_rfl)) LTNil)) (by kernel_rfl) loopW) LTNil)) rfl ((fwWrite s p _).mpr ⟨s, _, p, rfl, hp, rfl⟩)
noncomputable def writeF : HA [.v hsS, .v (.sl u8S)] → RT := fun xs => .dem (Nat.ble (List.length xs.2.1) 140737488355328) (.ret (.av (.val hsS (writeW xs.1 xs.2.1))))
theorem write_ok : COK Tryd.prog GL 63 (conA [.v hsS, .v (.sl u8S)] writeF) :=
  conA_ok (fun xs _ hc => write_pc xs.1 xs.2.1 (Nat.le_of_ble_eq_true hc.1)) (fun _ => rfl)
noncomputable def H4c : CTab := (63, conA [.v hsS, .v (.sl u8S)] writeF) :: (62, conT [] fun _ => .av (.val hsS newD)) :: (87, conT [u64S] fun xs => .av (.val (.sl u8S) (padW xs.1))) :: H2c
noncomputable abbrev H4 : Go.Ty.Cx := mkX Tryd.prog GL shA H4c
theorem H4_ok : ∀ p ∈ H4c, COK Tryd.prog GL p.1 p.2 := CCons write_ok (CCons new_ok (CCons pad_ok H2_ok))
theorem fwHSum (s : Sh.T (hsS)) (P : SV → Prop) : FW H4 Tryd.f64.ntmps (LTab.look []) Tryd.f64 (argsOf [hsS] (s, ())) P =
 (  dmd ((padW s.2.1).length.ble 140737488355328)
    (P
      (SV.av
        (AV.val (Sh.arr 32 (Sh.int IntKind.u8))
          [BitVec.setWidth 8 (rd (Sh.int IntKind.u32) (writeW s (padW s.2.1)).1 0 >>> 24),
            BitVec.setWidth 8 (rd (Sh.int IntKind.u32) (writeW s (padW s.2.1)).1 0 >>> 16),
            BitVec.setWidth 8 (rd (Sh.int IntKind.u32) (writeW s (padW s.2.1)).1 0 >>> 8),
            BitVec.setWidth 8 (rd (Sh.int IntKind.u32) (writeW s (padW s.2.1)).1 0),
            BitVec.setWidth 8 (rd (Sh.int IntKind.u32) (writeW s (padW s.2.1)).1 1 >>> 24),
            BitVec.setWidth 8 (rd (Sh.int IntKind.u32) (writeW s (padW s.2.1)).1 1 >>> 16),
            BitVec.setWidth 8 (rd (Sh.int IntKind.u32) (writeW s (padW s.2.1)).1 1 >>> 8),
            BitVec.setWidth 8 (rd (Sh.int IntKind.u32) (writeW s (padW s.2.1)).1 1),
            BitVec.setWidth 8 (rd (Sh.int IntKind.u32) (writeW s (padW s.2.1)).1 2 >>> 24),
            BitVec.setWidth 8 (rd (Sh.int IntKind.u32) (writeW s (padW s.2.1)).1 2 >>> 16),
            BitVec.setWidth 8 (rd (Sh.int IntKind.u32) (writeW s (padW s.2.1)).1 2 >>> 8),
            BitVec.setWidth 8 (rd (Sh.int IntKind.u32) (writeW s (padW s.2.1)).1 2),
            BitVec.setWidth 8 (rd (Sh.int IntKind.u32) (writeW s (padW s.2.1)).1 3 >>> 24),
            BitVec.setWidth 8 (rd (Sh.int IntKind.u32) (writeW s (padW s.2.1)).1 3 >>> 16),
            BitVec.setWidth 8 (rd (Sh.int IntKind.u32) (writeW s (padW s.2.1)).1 3 >>> 8),
            BitVec.setWidth 8 (rd (Sh.int IntKind.u32) (writeW s (padW s.2.1)).1 3),
            BitVec.setWidth 8 (rd (Sh.int IntKind.u32) (writeW s (padW s.2.1)).1 4 >>> 24),
            BitVec.setWidth 8 (rd (Sh.int IntKind.u32) (writeW s (padW s.2.1)).1 4 >>> 16),
            BitVec.setWidth 8 (rd (Sh.int IntKind.u32) (writeW s (padW s.2.1)).1 4 >>> 8),
            BitVec.setWidth 8 (rd (Sh.int IntKind.u32) (writeW s (padW s.2.1)).1 4),
            BitVec.setWidth 8 (rd (Sh.int IntKind.u32) (writeW s (padW s.2.1)).1 5 >>> 24),
            BitVec.setWidth 8 (rd (Sh.int IntKind.u32) (writeW s (padW s.2.1)).1 5 >>> 16),
            BitVec.setWidth 8 (rd (Sh.int IntKind.u32) (writeW s (padW s.2.1)).1 5 >>> 8),
            BitVec.setWidth 8 (rd (Sh.int IntKind.u32) (writeW s (padW s.2.1)).1 5),
            BitVec.setWidth 8 (rd (Sh.int IntKind.u32) (writeW s (padW s.2.1)).1 6 >>> 24),
            BitVec.setWidth 8 (rd (Sh.int IntKind.u32) (writeW s (padW s.2.1)).1 6 >>> 16),
            BitVec.setWidth 8 (rd (Sh.int IntKind.u32) (writeW s (padW s.2.1)).1 6 >>> 8),
            BitVec.setWidth 8 (rd (Sh.int IntKind.u32) (writeW s (padW s.2.1)).1 6),
            BitVec.setWidth 8 (rd (Sh.int IntKind.u32) (writeW s (padW s.2.1)).1 7 >>> 24),
            BitVec.setWidth 8 (rd (Sh.int IntKind.u32) (writeW s (padW s.2.1)).1 7 >>> 16),
            BitVec.setWidth 8 (rd (Sh.int IntKind.u32) (writeW s (padW s.2.1)).1 7 >>> 8),
            BitVec.setWidth 8 (rd (Sh.int IntKind.u32) (writeW s (padW s.2.1)).1 7)])))) := by kernel_rfl
theorem hsum_ok : COK Tryd.prog GL 64 (conT [hsS] fun xs => .av (.val b32S (sumW xs.1))) := by
  refine conT_ok (fun xs hw => ?_) (fun _ => rfl)
  refine PC_of_fw (t := []) shA_ok H4_ok mixed Tryd.func64 (c := Tryd.f64.body.getD .skip) rfl (by kernel_rfl) (by kernel_rfl) loopsNil rfl ((fwHSum xs.1 _).mpr (dmd_of (bleT ?_) rfl))
  have := padN_lt xs.1.2.1
  rw [padW_len]; omega
noncomputable def H5c : CTab := (64, conT [hsS] fun xs => .av (.val b32S (sumW xs.1))) :: H4c
noncomputable abbrev H5 : Go.Ty.Cx := mkX Tryd.prog GL shA H5c
theorem H5_ok : ∀ p ∈ H5c, COK Tryd.prog GL p.1 p.2 := CCons hsum_ok H4_ok
theorem fwSumP (p : Sh.T (.sl u8S)) (P : SV → Prop) : FW H5 Tryd.f94.ntmps (LTab.look []) Tryd.f94 (argsOf [.sl u8S] (p, ())) P =
 (  dmd ((List.length p).ble 140737488355328) (P (SV.av (AV.val (Sh.arr 32 (Sh.int IntKind.u8)) (sumW (writeW newD p)))))) := by kernel_rfl
noncomputable def sumF : HA [.v (.sl u8S)] → RT := fun xs => .dem (Nat.ble (List.length xs.1) 140737488355328) (.ret (.av (.val b32S (digW xs.1))))
theorem sum_ok : COK Tryd.prog GL 94 (conA [.v (.sl u8S)] sumF) :=
  conA_ok (fun xs _ hc => PC_of_fw (t := []) shA_ok H5_ok mixed Tryd.func94 (c := Tryd.f94.body.getD .skip) rfl (by kernel_rfl) (by kernel_rfl) loopsNil rfl ((fwSumP xs.1 _).mpr (dmd_of hc.1 rfl))) (fun _ => rfl)

/-! ## The digest of nothing -/
def blk0 : List (BitVec 8) := 128#8 :: List.replicate 63 0#8
theorem dig_nil : digW [] = [0xe3#8, 0xb0#8, 0xc4#8, 0x42#8, 0x98#8, 0xfc#8, 0x1c#8, 0x14#8, 0x9a#8, 0xfb#8, 0xf4#8, 0xc8#8, 0x99#8, 0x6f#8, 0xb9#8, 0x24#8, 0x27#8, 0xae#8, 0x41#8, 0xe4#8, 0x64#8, 0x9b#8, 0x93#8, 0x4c#8, 0xa4#8, 0x95#8, 0x99#8, 0x1b#8, 0x78#8, 0x52#8, 0xb8#8, 0x55#8] := by
  have h1 : (writeW newD (padW 0#64)).1 = pressW ivW blk0 := by kernel_rfl
  have h2 : pressF ivW blk0 (fun l => l.map BitVec.toNat) = [0xe3b0c442, 0x98fc1c14, 0x9afbf4c8, 0x996fb924, 0x27ae41e4, 0x649b934c, 0xa495991b, 0x7852b855] := by decide +kernel
  rw [pressF_eq] at h2
  have h3 : pressW ivW blk0 = [0xe3b0c442, 0x98fc1c14, 0x9afbf4c8, 0x996fb924, 0x27ae41e4, 0x649b934c, 0xa495991b, 0x7852b855].map (BitVec.ofNat 32) := by
    rw [← h2, List.map_map]
    have e : (BitVec.ofNat 32 ∘ BitVec.toNat : BitVec 32 → BitVec 32) = id := funext fun x => by show BitVec.ofNat 32 x.toNat = x; rw [BitVec.ofNat_toNat, BitVec.setWidth_eq]
    rw [e, List.map_id]
  show bytesH (writeW newD (padW 0#64)).1 = _
  rw [h1, h3]
  decide +kernel
end Go.Proofs.YtghmfiandllpfaaDoor
