import Derived.Test.YtghmfiandllpfaaDoorHp
namespace Go.Proofs.YtghmfiandllpfaaDoor
open Go.Ty

/-! ## Words of a digest -/
abbrev u32S : Sh := .int .u32
abbrev h8S : Sh := .arr 8 u32S
abbrev b64S : Sh := .arr 64 u8S
abbrev b32S : Sh := .arr 32 u8S
abbrev w64S : Sh := .arr 64 u32S
def itr {α : Type} (f : α → Nat → α) (x : α) : Nat → α
  | 0 => x
  | n + 1 => f (itr f x n) n
def rotl (x : BitVec 32) (k : Int) : BitVec 32 := x <<< (BitVec.ofInt 64 k &&& 31#64).toNat ||| x >>> (32#64 - (BitVec.ofInt 64 k &&& 31#64)).toNat
def rgt (x : BitVec 32) (k : Int) : BitVec 32 := rotl x (IntKind.i64.wrap (0 - k))
def wordW (b : List (BitVec 8)) (k : Nat) : BitVec 32 :=
  BitVec.setWidth 32 (rd u8S b k) <<< 24 ||| BitVec.setWidth 32 (rd u8S b (k + 1)) <<< 16 ||| BitVec.setWidth 32 (rd u8S b (k + 2)) <<< 8 ||| BitVec.setWidth 32 (rd u8S b (k + 3))
theorem fwRotl (x : Sh.T (.int .u32)) (k : Sh.T (i64S)) (P : SV → Prop) : FW H0 Tryd.f101.ntmps (LTab.look []) Tryd.f101 (argsOf [.int .u32, i64S] (x, k, ())) P =
 (  P
    (SV.av
      (AV.val (Sh.int IntKind.u32)
        (x <<< (BitVec.ofInt 64 k &&& 31#64).toNat ||| x >>> (32#64 - (BitVec.ofInt 64 k &&& 31#64)).toNat)))) := by kernel_rfl
theorem rotl_ok : COK Tryd.prog GL 101 (conA [.v u32S, .v i64S] fun xs => .ret (.av (.val u32S (rotl xs.1 xs.2.1)))) := by
  refine conA_ok (fun xs _ _ => ?_) (fun _ => rfl)
  obtain ⟨x, k, ⟨⟩⟩ := xs
  refine PC_of_fw (t := []) shA_ok CNil mixed Tryd.func101 (c := Tryd.f101.body.getD .skip) rfl (by kernel_rfl) (by kernel_rfl) loopsNil rfl ?_
  exact (fwRotl x k _).mpr rfl
noncomputable def H1c : CTab := [(101, conA [.v (.int .u32), .v i64S] fun xs => .ret (.av (.val (.int .u32) (rotl xs.1 xs.2.1))))]
noncomputable abbrev H1 : Go.Ty.Cx := mkX Tryd.prog GL shA H1c
theorem H1_ok : ∀ p ∈ H1c, COK Tryd.prog GL p.1 p.2 := CCons rotl_ok CNil
theorem fwRight (x : Sh.T (.int .u32)) (k : Sh.T (i64S)) (P : SV → Prop) : FW H1 Tryd.f98.ntmps (LTab.look []) Tryd.f98 (argsOf [.int .u32, i64S] (x, k, ())) P =
 (  P (SV.av (AV.val (Sh.int IntKind.u32) (rotl x (IntKind.i64.wrap (0 - k)))))) := by kernel_rfl
theorem right_ok : COK Tryd.prog GL 98 (conA [.v u32S, .v i64S] fun xs => .ret (.av (.val u32S (rgt xs.1 xs.2.1)))) := by
  refine conA_ok (fun xs _ _ => ?_) (fun _ => rfl)
  obtain ⟨x, k, ⟨⟩⟩ := xs
  refine PC_of_fw (t := []) shA_ok H1_ok mixed Tryd.func98 (c := Tryd.f98.body.getD .skip) rfl (by kernel_rfl) (by kernel_rfl) loopsNil rfl ?_
  exact (fwRight x k _).mpr rfl
theorem fwWord (b : Sh.T (.sl u8S)) (k : Sh.T (i64S)) (P : SV → Prop) : FW H0 Tryd.f97.ntmps (LTab.look []) Tryd.f97 (argsOf [.sl u8S, i64S] (b, k, ())) P =
 (  dmd (decide (0 ≤ k) && decide (k < (((List.length b) : Nat) : Int)))
    (dmd (decide (0 ≤ IntKind.i64.wrap (k + 1)) && decide (IntKind.i64.wrap (k + 1) < (((List.length b) : Nat) : Int)))
      (dmd (decide (0 ≤ IntKind.i64.wrap (k + 2)) && decide (IntKind.i64.wrap (k + 2) < (((List.length b) : Nat) : Int)))
        (dmd (decide (0 ≤ IntKind.i64.wrap (k + 3)) && decide (IntKind.i64.wrap (k + 3) < (((List.length b) : Nat) : Int)))
          (P
            (SV.av
              (AV.val (Sh.int IntKind.u32)
                (BitVec.setWidth 32 (rd (Sh.int IntKind.u8) b (Int.toNat k)) <<< 24 |||
                      BitVec.setWidth 32 (rd (Sh.int IntKind.u8) b (IntKind.i64.wrap (k + 1)).toNat) <<< 16 |||
                    BitVec.setWidth 32 (rd (Sh.int IntKind.u8) b (IntKind.i64.wrap (k + 2)).toNat) <<< 8 |||
                  BitVec.setWidth 32 (rd (Sh.int IntKind.u8) b (IntKind.i64.wrap (k + 3)).toNat))))))))) := by kernel_rfl
noncomputable def wordF : HA [.v (.sl u8S), .v i64S] → RT := fun xs => .dem (decide ((0 : Int) ≤ xs.2.1) && decide (xs.2.1 + 3 < ((List.length xs.1 : Nat) : Int))) (.pre (List.length xs.1 ≤ 140737488355328) (.ret (.av (.val u32S (wordW xs.1 xs.2.1.toNat)))))
theorem word_pc (b : List (BitVec 8)) (k : Int) (h0 : 0 ≤ k) (h1 : k + 3 < ((List.length b : Nat) : Int)) (h2 : List.length b ≤ 140737488355328) : PC (bx Tryd.prog GL) 97 (argsOf [.sl u8S, i64S] (b, k, ())) (.av (.val u32S (wordW b k.toNat))) := by
  obtain ⟨n, eN⟩ : ∃ n : Nat, k = (n : Int) := ⟨k.toNat, by omega⟩
  subst eN
  refine PC_of_fw (t := []) shA_ok CNil mixed Tryd.func97 (c := Tryd.f97.body.getD .skip) rfl (by kernel_rfl) (by kernel_rfl) loopsNil rfl ?_
  refine (fwWord b _ _).mpr ?_
  rw [i64w (a := (n : Int) + 1) (n := n + 1) (by omega) (by omega), i64w (a := (n : Int) + 2) (n := n + 2) (by omega) (by omega), i64w (a := (n : Int) + 3) (n := n + 3) (by omega) (by omega)]
  exact dmd_of (inB (by omega)) (dmd_of (inB (by omega)) (dmd_of (inB (by omega)) (dmd_of (inB (by omega)) rfl)))
theorem word_ok : COK Tryd.prog GL 97 (conA [.v (.sl u8S), .v i64S] wordF) := by
  refine conA_ok (fun xs _ hc => ?_) (fun _ => rfl)
  exact word_pc xs.1 xs.2.1 (of_decide_eq_true (andB hc.1).1) (of_decide_eq_true (andB hc.1).2) hc.2.1
noncomputable def H2c : CTab := [(98, conA [.v (.int .u32), .v i64S] fun xs => .ret (.av (.val (.int .u32) (rgt xs.1 xs.2.1)))), (97, conA [.v (.sl u8S), .v i64S] wordF)]
noncomputable abbrev H2 : Go.Ty.Cx := mkX Tryd.prog GL shA H2c
theorem H2_ok : ∀ p ∈ H2c, COK Tryd.prog GL p.1 p.2 := CCons right_ok (CCons word_ok CNil)

/-! ## A block pressed -/
def stepA (b : List (BitVec 8)) (w : List (BitVec 32)) (i : Nat) : List (BitVec 32) := w.set i (bif decide (i < 16) then wordW b (4 * i) else
  rd u32S w (i - 16) + (rgt (rd u32S w (i - 15)) 7 ^^^ rgt (rd u32S w (i - 15)) 18 ^^^ rd u32S w (i - 15) >>> 3) + rd u32S w (i - 7) + (rgt (rd u32S w (i - 2)) 17 ^^^ rgt (rd u32S w (i - 2)) 19 ^^^ rd u32S w (i - 2) >>> 10))
def oneB (w v : List (BitVec 32)) (i : Nat) : BitVec 32 := rd u32S v 7 + (rgt (rd u32S v 4) 6 ^^^ rgt (rd u32S v 4) 11 ^^^ rgt (rd u32S v 4) 25) + (rd u32S v 4 &&& rd u32S v 5 ^^^ ~~~rd u32S v 4 &&& rd u32S v 6) + rd u32S rootsT i + rd u32S w i
def twoB (v : List (BitVec 32)) : BitVec 32 := (rgt (rd u32S v 0) 2 ^^^ rgt (rd u32S v 0) 13 ^^^ rgt (rd u32S v 0) 22) + (rd u32S v 0 &&& rd u32S v 1 ^^^ rd u32S v 0 &&& rd u32S v 2 ^^^ rd u32S v 1 &&& rd u32S v 2)
def stepB (w v : List (BitVec 32)) (i : Nat) : List (BitVec 32) := [oneB w v i + twoB v, rd u32S v 0, rd u32S v 1, rd u32S v 2, rd u32S v 3 + oneB w v i, rd u32S v 4, rd u32S v 5, rd u32S v 6]
def stepC (v h : List (BitVec 32)) (i : Nat) : List (BitVec 32) := h.set i (rd u32S h i + rd u32S v i)
def schedW (b : List (BitVec 8)) : List (BitVec 32) := itr (stepA b) (List.replicate 64 0#32) 64
def runB (w h : List (BitVec 32)) : List (BitVec 32) := itr (stepB w) h 64
def addC (h v : List (BitVec 32)) : List (BitVec 32) := itr (stepC v) h 8
def pressD (h : List (BitVec 32)) (b : List (BitVec 8)) : List (BitVec 32) := addC h (runB (schedW b) h)
noncomputable def pressW : List (BitVec 32) → List (BitVec 8) → List (BitVec 32) := Classical.choose (⟨pressD, rfl⟩ : ∃ f, f = pressD)
theorem pressW_eq : pressW = pressD := Classical.choose_spec (⟨pressD, rfl⟩ : ∃ f, f = pressD)
theorem addC_len (h v : List (BitVec 32)) : (addC h v).length = h.length := by
  unfold addC
  simp only [itr, stepC, List.length_set]
theorem pressW_len (h : List (BitVec 32)) (b : List (BitVec 8)) : (pressW h b).length = h.length := by rw [pressW_eq]; exact addC_len _ _

abbrev IpA : List It := [.p 2 2000 h8S, .f 3 b64S, .p 4 2002 h8S, .p 5 2003 w64S, .v 20 i64S]
abbrev opA : List (Nat × List It) := [(0, [.p 2 2000 h8S, .f 3 b64S, .p 4 2002 h8S, .p 5 2003 w64S])]
abbrev IpB : List It := [.p 2 2000 h8S, .p 4 2001 h8S, .p 5 2002 w64S, .p 9 2003 h8S, .v 70 i64S]
abbrev opB : List (Nat × List It) := [(2, [.p 2 2000 h8S, .p 4 2001 h8S, .p 9 2003 h8S])]
abbrev IpC : List It := [.p 2 2000 h8S, .p 4 2001 h8S, .p 9 2002 h8S, .v 148 i64S]
abbrev opC : List (Nat × List It) := [(4, [.p 2 2000 h8S, .p 4 2001 h8S])]
noncomputable def QpA : LQ IpA [] opA := fun x _ Kx => ∃ (h r : List (BitVec 32)) (b : List (BitVec 8)), x = (h, b, r, List.replicate 64 0#32, (0 : Int), ()) ∧ b.length = 64 ∧ Kx.1 (h, b, r, schedW b, ())
noncomputable def QpB : LQ IpB [] opB := fun x _ Kx => ∃ h r w v : List (BitVec 32), x = (h, r, w, v, (0 : Int), ()) ∧ Kx.1 (h, r, runB w v, ())
noncomputable def QpC : LQ IpC [] opC := fun x _ Kx => ∃ h r v : List (BitVec 32), x = (h, r, v, (0 : Int), ()) ∧ Kx.1 (addC h v, r, ())
noncomputable def bpr : Code := Tryd.f86.body.getD .skip
noncomputable abbrev Lpr : LTab := [(3, ptZ [3] (ptL IpA [] opA QpA)), (12, ptL IpB [] opB QpB), (20, ptL IpC [] opC QpC)]
theorem roundpA (h r w : List (BitVec 32)) (b : List (BitVec 8)) (i : Int) (Kn : HI IpA → Prop) (Kr : HI [] → Prop) (Kx : HP opA) : roundT (W H2 Tryd.f86.ntmps (LTab.look Lpr) (bodyAt bpr 3)) IpA [] opA (h, b, r, w, i, ()) Kn Kr Kx =
 (  ifB (decide (i < 64))
    (ifB (decide (i < 16))
      (dmd
        (decide (0 ≤ IntKind.i64.wrap (4 * i)) &&
          decide (IntKind.i64.wrap (4 * i) + 3 < (((List.drop 0 (List.take 64 b)).length : Nat) : Int)))
        ((List.drop 0 (List.take 64 b)).length ≤ 140737488355328 ∧
          dmd (decide (0 ≤ i) && decide (i < 64))
            (Kn
              (h, b, r, w.set i.toNat (wordW (List.drop 0 (List.take 64 b)) (IntKind.i64.wrap (4 * i)).toNat),
                IntKind.i64.wrap (i + 1), PUnit.unit))))
      (dmd (decide (0 ≤ IntKind.i64.wrap (i - 15)) && decide (IntKind.i64.wrap (i - 15) < 64))
        (dmd (decide (0 ≤ IntKind.i64.wrap (i - 2)) && decide (IntKind.i64.wrap (i - 2) < 64))
          (dmd (decide (0 ≤ IntKind.i64.wrap (i - 16)) && decide (IntKind.i64.wrap (i - 16) < 64))
            (dmd (decide (0 ≤ IntKind.i64.wrap (i - 7)) && decide (IntKind.i64.wrap (i - 7) < 64))
              (dmd (decide (0 ≤ i) && decide (i < 64))
                (Kn
                  (h, b, r,
                    w.set i.toNat
                      (rd (Sh.int IntKind.u32) w (IntKind.i64.wrap (i - 16)).toNat +
                            (rgt (rd (Sh.int IntKind.u32) w (IntKind.i64.wrap (i - 15)).toNat) 7 ^^^
                                rgt (rd (Sh.int IntKind.u32) w (IntKind.i64.wrap (i - 15)).toNat) 18 ^^^
                              rd (Sh.int IntKind.u32) w (IntKind.i64.wrap (i - 15)).toNat >>> 3) +
                          rd (Sh.int IntKind.u32) w (IntKind.i64.wrap (i - 7)).toNat +
                        (rgt (rd (Sh.int IntKind.u32) w (IntKind.i64.wrap (i - 2)).toNat) 17 ^^^
                            rgt (rd (Sh.int IntKind.u32) w (IntKind.i64.wrap (i - 2)).toNat) 19 ^^^
                          rd (Sh.int IntKind.u32) w (IntKind.i64.wrap (i - 2)).toNat >>> 10)),
                    IntKind.i64.wrap (i + 1), PUnit.unit))))))))
    (Kx.1 (h, b, r, w, PUnit.unit))) := by kernel_rfl
theorem roundpB (h r w v : List (BitVec 32)) (i : Int) (Kn : HI IpB → Prop) (Kr : HI [] → Prop) (Kx : HP opB) : roundT (W H2 Tryd.f86.ntmps (LTab.look Lpr) (bodyAt bpr 12)) IpB [] opB (h, r, w, v, i, ()) Kn Kr Kx =
 (  ifB (decide (i < 64))
    (dmd (decide (0 ≤ i) && decide (i < 64))
      (dmd (decide (0 ≤ i) && decide (i < 64))
        (Kn
          (h, r, w,
            [rd (Sh.int IntKind.u32) v 7 +
                        (rgt (rd (Sh.int IntKind.u32) v 4) 6 ^^^ rgt (rd (Sh.int IntKind.u32) v 4) 11 ^^^
                          rgt (rd (Sh.int IntKind.u32) v 4) 25) +
                      (rd (Sh.int IntKind.u32) v 4 &&& rd (Sh.int IntKind.u32) v 5 ^^^
                        ~~~rd (Sh.int IntKind.u32) v 4 &&& rd (Sh.int IntKind.u32) v 6) +
                    rd (Sh.int IntKind.u32) rootsT i.toNat +
                  rd (Sh.int IntKind.u32) w i.toNat +
                ((rgt (rd (Sh.int IntKind.u32) v 0) 2 ^^^ rgt (rd (Sh.int IntKind.u32) v 0) 13 ^^^
                    rgt (rd (Sh.int IntKind.u32) v 0) 22) +
                  (rd (Sh.int IntKind.u32) v 0 &&& rd (Sh.int IntKind.u32) v 1 ^^^
                      rd (Sh.int IntKind.u32) v 0 &&& rd (Sh.int IntKind.u32) v 2 ^^^
                    rd (Sh.int IntKind.u32) v 1 &&& rd (Sh.int IntKind.u32) v 2)),
              rd (Sh.int IntKind.u32) v 0, rd (Sh.int IntKind.u32) v 1, rd (Sh.int IntKind.u32) v 2,
              rd (Sh.int IntKind.u32) v 3 +
                (rd (Sh.int IntKind.u32) v 7 +
                        (rgt (rd (Sh.int IntKind.u32) v 4) 6 ^^^ rgt (rd (Sh.int IntKind.u32) v 4) 11 ^^^
                          rgt (rd (Sh.int IntKind.u32) v 4) 25) +
                      (rd (Sh.int IntKind.u32) v 4 &&& rd (Sh.int IntKind.u32) v 5 ^^^
                        ~~~rd (Sh.int IntKind.u32) v 4 &&& rd (Sh.int IntKind.u32) v 6) +
                    rd (Sh.int IntKind.u32) rootsT i.toNat +
                  rd (Sh.int IntKind.u32) w i.toNat),
              rd (Sh.int IntKind.u32) v 4, rd (Sh.int IntKind.u32) v 5, rd (Sh.int IntKind.u32) v 6],
            IntKind.i64.wrap (i + 1), PUnit.unit))))
    (Kx.1 (h, r, v, PUnit.unit))) := by kernel_rfl
theorem roundpC (h r v : List (BitVec 32)) (i : Int) (Kn : HI IpC → Prop) (Kr : HI [] → Prop) (Kx : HP opC) : roundT (W H2 Tryd.f86.ntmps (LTab.look Lpr) (bodyAt bpr 20)) IpC [] opC (h, r, v, i, ()) Kn Kr Kx =
 (  ifB (decide (i < 8))
    (dmd (decide (0 ≤ i) && decide (i < 8))
      (dmd (decide (0 ≤ i) && decide (i < 8))
        (dmd (decide (0 ≤ i) && decide (i < 8))
          (Kn
            (h.set i.toNat (rd (Sh.int IntKind.u32) h i.toNat + rd (Sh.int IntKind.u32) v i.toNat), r, v,
              IntKind.i64.wrap (i + 1), PUnit.unit)))))
    (Kx.1 (h, r, PUnit.unit))) := by kernel_rfl
theorem fwPress (h : Sh.T (.arr 8 (.int .u32))) (b : Sh.T (.arr 64 u8S)) (P : SV → Prop) : FW H2 Tryd.f86.ntmps (LTab.look Lpr) Tryd.f86 (argsOf [.arr 8 (.int .u32), .arr 64 u8S] (h, b, ())) P =
 (  QpA (h, b, List.replicate 8 0#32, List.replicate 64 0#32, 0, PUnit.unit) (fun _ => False)
    (fun x =>
      QpB (x.1, x.2.2.1, x.2.2.2.1, x.1, 0, PUnit.unit) (fun _ => False)
        (fun x =>
          QpC (x.1, x.2.1, x.2.2.1, 0, PUnit.unit) (fun _ => False)
            (fun x => P (SV.av (AV.val (Sh.arr 8 (Sh.int IntKind.u32)) x.1)), PUnit.unit),
          PUnit.unit),
      PUnit.unit)) := by kernel_rfl
theorem loopA : ∀ x Kr Kx, QpA x Kr Kx → ∃ n, untl (W H2 Tryd.f86.ntmps (LTab.look Lpr) (bodyAt bpr 3)) IpA [] opA n x Kr Kx := by
  rintro x Kr Kx ⟨h, r, b, ex, hb, hK⟩
  have key := untl_up (F := W H2 Tryd.f86.ntmps (LTab.look Lpr) (bodyAt bpr 3)) (l := IpA) (lr := []) (lx := opA) (Kr := Kr) (Kx := Kx) (st := fun i => (h, b, r, itr (stepA b) (List.replicate 64 0#32) i, (i : Int), ())) 64 (fun i hi Kn hn => ?_) (fun Kn => ?_)
  · rw [ex]; exact key
  · rw [roundpA]
    have hbb : List.drop 0 (List.take 64 b) = b := by rw [List.drop_zero, List.take_of_length_le (by omega)]
    refine ifB_of (fun _ => ifB_of (fun c => ?_) (fun c => ?_)) (fun c => absurd (of_decide_eq_false c) (by omega))
    · have c := of_decide_eq_true c
      rw [hbb, i64w (n := 4 * i) (by omega) (by omega), hb]
      refine dmd_of (andT (decTr (by omega)) (decTr (by omega))) ⟨by omega, dmd_of (andT (decTr (by omega)) (decTr (by omega))) ?_⟩
      rw [i64w (a := (i : Int) + 1) (n := i + 1) (by omega) (by omega), Int.toNat_natCast, Int.toNat_natCast]
      have e : (itr (stepA b) (List.replicate 64 0#32) i).set i (wordW b (4 * i)) = itr (stepA b) (List.replicate 64 0#32) (i + 1) := by
        show _ = stepA b (itr (stepA b) (List.replicate 64 0#32) i) i
        unfold stepA
        rw [decTr (show i < 16 by omega)]; rfl
      rw [e]; exact hn
    · have c := of_decide_eq_false c
      rw [i64w (a := (i : Int) - 15) (n := i - 15) (by omega) (by omega), i64w (a := (i : Int) - 2) (n := i - 2) (by omega) (by omega), i64w (a := (i : Int) - 16) (n := i - 16) (by omega) (by omega), i64w (a := (i : Int) - 7) (n := i - 7) (by omega) (by omega), i64w (a := (i : Int) + 1) (n := i + 1) (by omega) (by omega)]
      simp only [Int.toNat_natCast]
      refine dmd_of (andT (decTr (by omega)) (decTr (by omega))) (dmd_of (andT (decTr (by omega)) (decTr (by omega))) (dmd_of (andT (decTr (by omega)) (decTr (by omega))) (dmd_of (andT (decTr (by omega)) (decTr (by omega))) (dmd_of (andT (decTr (by omega)) (decTr (by omega))) ?_))))
      have e : ∀ w : List (BitVec 32), w.set i (rd u32S w (i - 16) + (rgt (rd u32S w (i - 15)) 7 ^^^ rgt (rd u32S w (i - 15)) 18 ^^^ rd u32S w (i - 15) >>> 3) + rd u32S w (i - 7) + (rgt (rd u32S w (i - 2)) 17 ^^^ rgt (rd u32S w (i - 2)) 19 ^^^ rd u32S w (i - 2) >>> 10)) = stepA b w i := fun w => by
        unfold stepA
        rw [decFa (show ¬ i < 16 by omega)]; rfl
      have e2 := e (itr (stepA b) (List.replicate 64 0#32) i)
      rw [e2]; exact hn
  · rw [roundpA]
    exact ifB_of (fun c => absurd (of_decide_eq_true c) (by decide)) (fun _ => hK)
theorem loopB : ∀ x Kr Kx, QpB x Kr Kx → ∃ n, untl (W H2 Tryd.f86.ntmps (LTab.look Lpr) (bodyAt bpr 12)) IpB [] opB n x Kr Kx := by
  rintro x Kr Kx ⟨h, r, w, v, ex, hK⟩
  have key := untl_up (F := W H2 Tryd.f86.ntmps (LTab.look Lpr) (bodyAt bpr 12)) (l := IpB) (lr := []) (lx := opB) (Kr := Kr) (Kx := Kx) (st := fun i => (h, r, w, itr (stepB w) v i, (i : Int), ())) 64 (fun i hi Kn hn => ?_) (fun Kn => ?_)
  · rw [ex]; exact key
  · rw [roundpB]
    rw [i64w (a := (i : Int) + 1) (n := i + 1) (by omega) (by omega), Int.toNat_natCast]
    refine ifB_of (fun _ => dmd_of (andT (decTr (by omega)) (decTr (by omega))) (dmd_of (andT (decTr (by omega)) (decTr (by omega))) ?_)) (fun c => absurd (of_decide_eq_false c) (by omega))
    exact hn
  · rw [roundpB]
    exact ifB_of (fun c => absurd (of_decide_eq_true c) (by decide)) (fun _ => hK)
theorem loopC : ∀ x Kr Kx, QpC x Kr Kx → ∃ n, untl (W H2 Tryd.f86.ntmps (LTab.look Lpr) (bodyAt bpr 20)) IpC [] opC n x Kr Kx := by
  rintro x Kr Kx ⟨h, r, v, ex, hK⟩
  have key := untl_up (F := W H2 Tryd.f86.ntmps (LTab.look Lpr) (bodyAt bpr 20)) (l := IpC) (lr := []) (lx := opC) (Kr := Kr) (Kx := Kx) (st := fun i => (itr (stepC v) h i, r, v, (i : Int), ())) 8 (fun i hi Kn hn => ?_) (fun Kn => ?_)
  · rw [ex]; exact key
  · rw [roundpC]
    rw [i64w (a := (i : Int) + 1) (n := i + 1) (by omega) (by omega), Int.toNat_natCast]
    refine ifB_of (fun _ => dmd_of (andT (decTr (by omega)) (decTr (by omega))) (dmd_of (andT (decTr (by omega)) (decTr (by omega))) (dmd_of (andT (decTr (by omega)) (decTr (by omega))) ?_))) (fun c => absurd (of_decide_eq_false c) (by omega))
    exact hn
  · rw [roundpC]
    exact ifB_of (fun c => absurd (of_decide_eq_true c) (by decide)) (fun _ => hK)
theorem press_fw (h : List (BitVec 32)) (b : List (BitVec 8)) (hb : b.length = 64) : FW H2 Tryd.f86.ntmps (LTab.look Lpr) Tryd.f86 (argsOf [h8S, b64S] (h, b, ())) (fun r => r = .av (.val h8S (pressW h b))) := by
  rw [show argsOf [h8S, b64S] (h, b, ()) = argsOf [.arr 8 (.int .u32), .arr 64 u8S] (h, b, ()) from rfl, fwPress]
  have e : SV.av (AV.val h8S (addC h (runB (schedW b) h))) = SV.av (AV.val h8S (pressW h b)) := by rw [pressW_eq]; rfl
  generalize hs : schedW b = w at e
  refine ⟨h, _, b, rfl, hb, ?_⟩
  rw [hs]
  generalize hv : runB w h = v at e
  refine ⟨h, _, w, h, rfl, ?_⟩
  rw [hv]
  generalize ha : addC h v = a at e
  refine ⟨h, _, v, rfl, ?_⟩
  rw [ha]
  exact e
theorem inner3 {k : Nat} {N : Nat} (h1 : hasLoop (bodyAt bpr k) 3 = false) (h2 : hasLoop (bodyAt bpr k) 12 = false) (h3 : hasLoop (bodyAt bpr k) 20 = false) (hk : keysOnce (bodyAt bpr k) = true) : LoopsOK H2 N (LTab.look Lpr) (bodyAt bpr k) :=
  loopsOK hk (LTCons (noLoop h1) (LTCons (noLoop h2) (LTCons (noLoop h3) LTNil)))
theorem press_loops : LoopsOK H2 Tryd.f86.ntmps (LTab.look Lpr) bpr :=
  loopsOK (by kernel_rfl) (LTCons (fun hh => ptZ_sound (loop_of shA_ok H2_ok mixed (inner3 (by kernel_rfl) (by kernel_rfl) (by kernel_rfl) (by kernel_rfl)) (by kernel_rfl) loopA (by kernel_rfl) hh)) (LTCons (loop_of shA_ok H2_ok mixed (inner3 (by kernel_rfl) (by kernel_rfl) (by kernel_rfl) (by kernel_rfl)) (by kernel_rfl) loopB) (LTCons (loop_of shA_ok H2_ok mixed (inner3 (by kernel_rfl) (by kernel_rfl) (by kernel_rfl) (by kernel_rfl)) (by kernel_rfl) loopC) LTNil)))
theorem press_ok : COK Tryd.prog GL 86 (conT [h8S, b64S] fun xs => .av (.val h8S (pressW xs.1 xs.2.1))) := by
  refine conT_ok (fun xs hw => ?_) (fun _ => rfl)
  exact PC_of_fw (t := Lpr) shA_ok H2_ok mixed Tryd.func86 (c := bpr) rfl (by kernel_rfl) (by kernel_rfl) press_loops rfl (press_fw xs.1 xs.2.1 hw.2.1.1)
end Go.Proofs.YtghmfiandllpfaaDoor
