import Derived.Test.YtghmfiandllpfaaDoorDr
namespace Go.Proofs.YtghmfiandllpfaaDoor
open Go.Ty

/-! ## Bytes drawn -/
def fitsE (n : Int) : Int := bif decide (n < 0) then 1 else bif decide (4096 < n) then 2 else 0
theorem fwFits (n : Sh.T (i64S)) (P : SV → Prop) : FW R0 Tryd.f54.ntmps (LTab.look []) Tryd.f54 (argsOf [i64S] (n, ())) P =
 (  ifB (decide (n < 0)) (P (SV.av (AV.val (Sh.int IntKind.i64) 1)))
    (ifB (decide (4096 < n)) (P (SV.av (AV.val (Sh.int IntKind.i64) 2))) (P (SV.av (AV.val (Sh.int IntKind.i64) 0))))) := by kernel_rfl
theorem fits_fw (n : Int) : FW R0 Tryd.f54.ntmps (LTab.look []) Tryd.f54 (argsOf [i64S] (n, ())) (fun r => r = .av (.val i64S (fitsE n))) := by
  rw [fwFits]
  unfold fitsE
  exact ifB_dec (fun h => by rw [cond_pos (decTr h)]) (fun h => ifB_dec (fun k => by rw [cond_neg (decFa h), cond_pos (decTr k)]) (fun k => by rw [cond_neg (decFa h), cond_neg (decFa k)]))
theorem fits_ok : COK Tryd.prog GL 54 (conA [.v i64S] fun xs => .ret (.av (.val i64S (fitsE xs.1)))) :=
  conA_ok (fun xs _ _ => PC_of_fw (t := []) shA_ok R0_ok mixed Tryd.func54 (c := Tryd.f54.body.getD .skip) rfl (by kernel_rfl) (by kernel_rfl) loopsNil rfl (fits_fw xs.1)) (fun _ => rfl)
theorem fits_0 {n : Int} (h : fitsE n = 0) : 0 ≤ n ∧ n ≤ 4096 := by
  unfold fitsE at h
  by_cases a : n < 0
  · rw [cond_pos (decTr a)] at h; cases h
  · rw [cond_neg (decFa a)] at h
    by_cases b : 4096 < n
    · rw [cond_pos (decTr b)] at h; cases h
    · omega
noncomputable def R2c : CTab := (54, conA [.v i64S] fun xs => .ret (.av (.val i64S (fitsE xs.1)))) :: R1c
noncomputable abbrev R2 : Go.Ty.Cx := mkX Tryd.prog GL shA R2c
theorem R2_ok : ∀ p ∈ R2c, COK Tryd.prog GL p.1 p.2 := CCons fits_ok R1_ok
noncomputable def runG (x : Src) : Nat → Src
  | 0 => x
  | n + 1 => nextG (runG x n)
noncomputable def outB (x : Src) (n : Nat) : Nat → List (BitVec 8)
  | 0 => List.replicate n 0#8
  | i + 1 => (outB x n i).set i (nextB (runG x i))
theorem outB_len (x : Src) (n : Nat) : ∀ i, (outB x n i).length = n
  | 0 => List.length_replicate
  | i + 1 => by
    show ((outB x n i).set i _).length = n
    rw [List.length_set, outB_len x n i]
abbrev Idb : List It := [.p 0 0 srcS, .r 7 2000 u8S, .v 17 i64S, .v 18 i64S]
abbrev odb : List (Nat × List It) := [(0, [.p 0 0 srcS, .r 7 2000 u8S])]
noncomputable def Qdb : LQ Idb [] odb := fun z _ Kx => ∃ (x : Src) (n : Nat), z = (x, outB x n 0, ((n : Nat) : Int), (0 : Int), ()) ∧ n ≤ 4096 ∧ Kx.1 (runG x n, outB x n n, ())
noncomputable def bdb : Code := Tryd.f32.body.getD .skip
noncomputable abbrev Ldb : LTab := [(6, ptL Idb [] odb Qdb)]
theorem rounddb (x : Sh.T srcS) (o : List (BitVec 8)) (m i : Int) (Kn : HI Idb → Prop) (Kr : HI [] → Prop) (Kx : HP odb) : roundT (W R2 Tryd.f32.ntmps (LTab.look Ldb) (bodyAt bdb 6)) Idb [] odb (x, o, m, i, ()) Kn Kr Kx =
 (  ifB (decide (i < m))
    (dmd (decide (0 ≤ i) && decide (i < ((o.length : Nat) : Int)))
      ((0 = 0 ∧ o.length = (o.set (0 + i.toNat) (nextB x)).length) ∧
        Kn (nextG x, o.set (0 + i.toNat) (nextB x), m, IntKind.i64.wrap (i + 1), PUnit.unit)))
    ((0 = 0 ∧ o.length = o.length) ∧ Kx.1 (x, o, PUnit.unit))) := by kernel_rfl
theorem fwDBytes (x : Src) (n : Int) (K : List AV → OwnV → Slot → Prop) : FWMO R2 Tryd.f32.ntmps (LTab.look Ldb) Tryd.f32 srcS x (argsOf [i64S] (n, ())) K =
  ifB (!decide (fitsE n = 0)) (K [.val i64S (fitsE n)] none (.live ⟨.one srcS (.val srcS x), true⟩))
    (dmd (decide (0 ≤ n) && (decide (n ≤ n) && (decide (n * 1 ≤ 140737488355328) && decide (n < 9223372036854775808)))) ((0 = 0 ∧ n.toNat = (List.replicate n.toNat 0#8).length) ∧
      Qdb (x, List.replicate n.toNat 0#8, ((n.toNat : Nat) : Int), (0 : Int), ()) (fun _ => False) (fun y => (0 = 0 ∧ List.length y.2.1 = List.length y.2.1) ∧ K [.val i64S 0] (some ⟨u8S, y.2.1⟩) (.live ⟨.one srcS (.val srcS y.1), true⟩), ()))) := by kernel_rfl
theorem loopdb : ∀ x Kr Kx, Qdb x Kr Kx → ∃ n, untl (W R2 Tryd.f32.ntmps (LTab.look Ldb) (bodyAt bdb 6)) Idb [] odb n x Kr Kx := by
  rintro z Kr Kx ⟨x, n, ex, hn, hK⟩
  have key := untl_up (F := W R2 Tryd.f32.ntmps (LTab.look Ldb) (bodyAt bdb 6)) (l := Idb) (lr := []) (lx := odb) (Kr := Kr) (Kx := Kx) (st := fun i => (runG x i, outB x n i, ((n : Nat) : Int), (i : Int), ())) n (fun i hi Kn hK => ?_) (fun Kn => ?_)
  · rw [ex]; exact key
  · rw [rounddb, i64w (a := (i : Int) + 1) (n := i + 1) (by omega) (by omega), Int.toNat_natCast, Nat.zero_add]
    exact ifB_dec (fun _ => dmd_of (inB (by rw [outB_len]; exact hi)) ⟨⟨rfl, by rw [List.length_set]⟩, hK⟩) (fun c => absurd (show (i : Int) < ((n : Nat) : Int) by omega) c)
  · rw [rounddb]
    exact ifB_dec (fun c => absurd c (by omega)) (fun _ => ⟨⟨rfl, rfl⟩, hK⟩)
noncomputable def bytG (x : Src) (n : Int) : Src := bif decide (fitsE n = 0) then runG x n.toNat else x
noncomputable def bytF (x : Src) : HA [.v i64S] → WT := fun xs => .alt (decide (fitsE xs.1 = 0)) (.ret [.val i64S 0] (some ⟨u8S, outB x (Int.toNat xs.1) (Int.toNat xs.1)⟩)) (.ret [.val i64S (fitsE xs.1)] none)
theorem bytF_val (x : Src) (n : Int) : (bytF x (n, ())).val = (bif decide (fitsE n = 0) then (([AV.val i64S 0] : List AV), (some ⟨u8S, outB x n.toNat n.toNat⟩ : OwnV)) else ([AV.val i64S (fitsE n)], none)) := rfl
theorem dbytes_law (x : Src) (n : Int) (K : List AV → OwnV → Slot → Prop) (h1 : fitsE n = 0 → K [.val i64S 0] (some ⟨u8S, outB x n.toNat n.toNat⟩) (.live ⟨.one srcS (.val srcS (runG x n.toNat)), true⟩)) (h2 : fitsE n ≠ 0 → K [.val i64S (fitsE n)] none (.live ⟨.one srcS (.val srcS x), true⟩)) :
    FWMO R2 Tryd.f32.ntmps (LTab.look Ldb) Tryd.f32 srcS x (argsOf [i64S] (n, ())) K := by
  rw [fwDBytes]
  refine ifB_neg (fun h => h2 h) (fun h => ?_)
  obtain ⟨g1, g2⟩ := fits_0 h
  refine dmd_of (andT (decTr g1) (andT (decTr (Int.le_refl n)) (andT (decTr (by omega)) (decTr (by omega))))) ⟨⟨rfl, List.length_replicate.symm⟩, x, n.toNat, rfl, by omega, ⟨rfl, rfl⟩, h1 h⟩
theorem dbytes_pc (x : Src) (n : Int) : PCMW (bx Tryd.prog GL) 32 srcS x (bytG x n) (argsOf [i64S] (n, ())) (bytF x (n, ())).val.1 (bytF x (n, ())).val.2 := by
  have hl := loopsOK (X := R2) (N := Tryd.f32.ntmps) (c := bdb) (by kernel_rfl) (LTCons (loop_of shA_ok R2_ok mixed (loopsOK (by kernel_rfl) (LTCons (noLoop (by kernel_rfl)) LTNil)) (by kernel_rfl) loopdb) LTNil)
  rw [bytF_val]
  unfold bytG
  by_cases h : fitsE n = 0
  · rw [decTr h]
    exact FWMO_pcm (LS := LTab.look Ldb) (xok shA_ok) (consok R2_ok) mixed Tryd.func32 (c := bdb) rfl (by kernel_rfl) (by kernel_rfl) hl (dbytes_law x n _ (fun _ => ⟨rfl, rfl, rfl⟩) (fun c => absurd h c)) (fun v hv => by rw [List.mem_singleton.1 hv]; rfl)
  · rw [decFa h]
    exact FWMO_pcm (LS := LTab.look Ldb) (xok shA_ok) (consok R2_ok) mixed Tryd.func32 (c := bdb) rfl (by kernel_rfl) (by kernel_rfl) hl (dbytes_law x n _ (fun c => absurd c h) (fun _ => ⟨rfl, rfl, rfl⟩)) (fun v hv => by rw [List.mem_singleton.1 hv]; rfl)
theorem dbytes_ok : COK Tryd.prog GL 32 (conMW srcS [.v i64S] (fun x xs => bytG x xs.1) bytF) :=
  conMW_ok rfl (fun x xs _ _ _ => dbytes_pc x xs.1) (fun x xs => by
    obtain ⟨n, ⟨⟩⟩ := xs
    rw [bytF_val]
    cases decide (fitsE n = 0) with
    | true => exact ⟨fun v hv => ⟨_, _, List.mem_singleton.1 hv, rfl⟩, fun e ys h => by cases h; rfl⟩
    | false => exact ⟨fun v hv => ⟨_, _, List.mem_singleton.1 hv, rfl⟩, fun e ys h => by cases h⟩)
theorem fwDNew (k : List (BitVec 8)) (K : (s : Sh) → s.T → Prop) : FWN R1 Tryd.f26.ntmps (LTab.look []) Tryd.f26 (argsOf [.sl u8S] (k, ())) K =
 (  dmd (k.length.ble 140737488355328)
    (K
      ((((Sh.arr 8 (Sh.int IntKind.u32)).pair
                ((Sh.int IntKind.u64).pair ((Sh.arr 64 (Sh.int IntKind.u8)).pair Sh.unit))).pair
            (((Sh.arr 8 (Sh.int IntKind.u32)).pair
                  ((Sh.int IntKind.u64).pair ((Sh.arr 64 (Sh.int IntKind.u8)).pair Sh.unit))).pair
              Sh.unit)).pair
        ((Sh.int IntKind.u64).pair ((Sh.arr 32 (Sh.int IntKind.u8)).pair (Sh.bool.pair Sh.unit))))
      (newM k, 0#64,
        [0#8, 0#8, 0#8, 0#8, 0#8, 0#8, 0#8, 0#8, 0#8, 0#8, 0#8, 0#8, 0#8, 0#8, 0#8, 0#8, 0#8, 0#8, 0#8, 0#8, 0#8, 0#8,
          0#8, 0#8, 0#8, 0#8, 0#8, 0#8, 0#8, 0#8, 0#8, 0#8],
        false, PUnit.unit))) := by kernel_rfl
theorem dnew_ok : COK Tryd.prog GL 26 (conNew [.v (.sl u8S)] srcS (fun xs => Nat.ble (List.length xs.1) 140737488355328) fun xs => srcN xs.1 0#64) :=
  conNew_ok rfl (fun xs _ hd => FWN_pcn (LS := LTab.look []) (xok shA_ok) (consok R1_ok) mixed Tryd.func26 (c := Tryd.f26.body.getD .skip) rfl (by kernel_rfl) (by kernel_rfl) loopsNil ((fwDNew xs.1 _).mpr (dmd_of hd rfl)))
end Go.Proofs.YtghmfiandllpfaaDoor
