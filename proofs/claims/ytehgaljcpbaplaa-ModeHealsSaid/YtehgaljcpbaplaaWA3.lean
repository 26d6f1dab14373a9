import Derived.Test.YtehgaljcpbaplaaWA2
namespace Go.Proofs.Ytehgaljcpbaplaa
open Go.Ty

/-! ## A round key's byte -/
noncomputable def kxI (w : List (List (BitVec 8))) (r : Nat) (i : Nat) : BitVec 8 := rd u8S (rd a4S w (4 * r + i / 4)) (i % 4)
noncomputable def byW (w : List (List (BitVec 8))) (r : Int) (b : List (BitVec 8)) : List (BitVec 8) := Go.Gfn.byL (kxI w r.toNat) b
noncomputable def byF : HA [.f keyS, .v b16S, .v i64S] → RT := fun xs => .dem (decide (0 ≤ xs.2.2.1) && decide (xs.2.2.1 < 15)) (.ret (.av (.val b16S (byW xs.1.1 xs.2.2.1 xs.2.1))))
theorem fwBy (w : List (List (BitVec 8))) (n r : Int) (b0 b1 b2 b3 b4 b5 b6 b7 b8 b9 b10 b11 b12 b13 b14 b15 : BitVec 8) (P : SV → Prop) : FW A5 Try.f34.ntmps (LTab.look []) Try.f34 (argsA [.f keyS, .v b16S, .v i64S] ((w, n, ()), [b0, b1, b2, b3, b4, b5, b6, b7, b8, b9, b10, b11, b12, b13, b14, b15], r, ())) P =
 (  dmd
    (decide (0 ≤ IntKind.i64.wrap (IntKind.i64.wrap (4 * r) + 0)) &&
      decide (IntKind.i64.wrap (IntKind.i64.wrap (4 * r) + 0) < 60))
    (dmd
      (decide (0 ≤ IntKind.i64.wrap (IntKind.i64.wrap (4 * r) + 0)) &&
        decide (IntKind.i64.wrap (IntKind.i64.wrap (4 * r) + 0) < 60))
      (dmd
        (decide (0 ≤ IntKind.i64.wrap (IntKind.i64.wrap (4 * r) + 0)) &&
          decide (IntKind.i64.wrap (IntKind.i64.wrap (4 * r) + 0) < 60))
        (dmd
          (decide (0 ≤ IntKind.i64.wrap (IntKind.i64.wrap (4 * r) + 0)) &&
            decide (IntKind.i64.wrap (IntKind.i64.wrap (4 * r) + 0) < 60))
          (dmd
            (decide (0 ≤ IntKind.i64.wrap (IntKind.i64.wrap (4 * r) + 1)) &&
              decide (IntKind.i64.wrap (IntKind.i64.wrap (4 * r) + 1) < 60))
            (dmd
              (decide (0 ≤ IntKind.i64.wrap (IntKind.i64.wrap (4 * r) + 1)) &&
                decide (IntKind.i64.wrap (IntKind.i64.wrap (4 * r) + 1) < 60))
              (dmd
                (decide (0 ≤ IntKind.i64.wrap (IntKind.i64.wrap (4 * r) + 1)) &&
                  decide (IntKind.i64.wrap (IntKind.i64.wrap (4 * r) + 1) < 60))
                (dmd
                  (decide (0 ≤ IntKind.i64.wrap (IntKind.i64.wrap (4 * r) + 1)) &&
                    decide (IntKind.i64.wrap (IntKind.i64.wrap (4 * r) + 1) < 60))
                  (dmd
                    (decide (0 ≤ IntKind.i64.wrap (IntKind.i64.wrap (4 * r) + 2)) &&
                      decide (IntKind.i64.wrap (IntKind.i64.wrap (4 * r) + 2) < 60))
                    (dmd
                      (decide (0 ≤ IntKind.i64.wrap (IntKind.i64.wrap (4 * r) + 2)) &&
                        decide (IntKind.i64.wrap (IntKind.i64.wrap (4 * r) + 2) < 60))
                      (dmd
                        (decide (0 ≤ IntKind.i64.wrap (IntKind.i64.wrap (4 * r) + 2)) &&
                          decide (IntKind.i64.wrap (IntKind.i64.wrap (4 * r) + 2) < 60))
                        (dmd
                          (decide (0 ≤ IntKind.i64.wrap (IntKind.i64.wrap (4 * r) + 2)) &&
                            decide (IntKind.i64.wrap (IntKind.i64.wrap (4 * r) + 2) < 60))
                          (dmd
                            (decide (0 ≤ IntKind.i64.wrap (IntKind.i64.wrap (4 * r) + 3)) &&
                              decide (IntKind.i64.wrap (IntKind.i64.wrap (4 * r) + 3) < 60))
                            (dmd
                              (decide (0 ≤ IntKind.i64.wrap (IntKind.i64.wrap (4 * r) + 3)) &&
                                decide (IntKind.i64.wrap (IntKind.i64.wrap (4 * r) + 3) < 60))
                              (dmd
                                (decide (0 ≤ IntKind.i64.wrap (IntKind.i64.wrap (4 * r) + 3)) &&
                                  decide (IntKind.i64.wrap (IntKind.i64.wrap (4 * r) + 3) < 60))
                                (dmd
                                  (decide (0 ≤ IntKind.i64.wrap (IntKind.i64.wrap (4 * r) + 3)) &&
                                    decide (IntKind.i64.wrap (IntKind.i64.wrap (4 * r) + 3) < 60))
                                  (P
                                    (SV.av
                                      (AV.val (Sh.arr 16 (Sh.int IntKind.u8))
                                        [b0 ^^^
                                            rd (Sh.int IntKind.u8)
                                              (rd (Sh.arr 4 (Sh.int IntKind.u8)) w
                                                (IntKind.i64.wrap (IntKind.i64.wrap (4 * r) + 0)).toNat)
                                              0,
                                          b1 ^^^
                                            rd (Sh.int IntKind.u8)
                                              (rd (Sh.arr 4 (Sh.int IntKind.u8)) w
                                                (IntKind.i64.wrap (IntKind.i64.wrap (4 * r) + 0)).toNat)
                                              1,
                                          b2 ^^^
                                            rd (Sh.int IntKind.u8)
                                              (rd (Sh.arr 4 (Sh.int IntKind.u8)) w
                                                (IntKind.i64.wrap (IntKind.i64.wrap (4 * r) + 0)).toNat)
                                              2,
                                          b3 ^^^
                                            rd (Sh.int IntKind.u8)
                                              (rd (Sh.arr 4 (Sh.int IntKind.u8)) w
                                                (IntKind.i64.wrap (IntKind.i64.wrap (4 * r) + 0)).toNat)
                                              3,
                                          b4 ^^^
                                            rd (Sh.int IntKind.u8)
                                              (rd (Sh.arr 4 (Sh.int IntKind.u8)) w
                                                (IntKind.i64.wrap (IntKind.i64.wrap (4 * r) + 1)).toNat)
                                              0,
                                          b5 ^^^
                                            rd (Sh.int IntKind.u8)
                                              (rd (Sh.arr 4 (Sh.int IntKind.u8)) w
                                                (IntKind.i64.wrap (IntKind.i64.wrap (4 * r) + 1)).toNat)
                                              1,
                                          b6 ^^^
                                            rd (Sh.int IntKind.u8)
                                              (rd (Sh.arr 4 (Sh.int IntKind.u8)) w
                                                (IntKind.i64.wrap (IntKind.i64.wrap (4 * r) + 1)).toNat)
                                              2,
                                          b7 ^^^
                                            rd (Sh.int IntKind.u8)
                                              (rd (Sh.arr 4 (Sh.int IntKind.u8)) w
                                                (IntKind.i64.wrap (IntKind.i64.wrap (4 * r) + 1)).toNat)
                                              3,
                                          b8 ^^^
                                            rd (Sh.int IntKind.u8)
                                              (rd (Sh.arr 4 (Sh.int IntKind.u8)) w
                                                (IntKind.i64.wrap (IntKind.i64.wrap (4 * r) + 2)).toNat)
                                              0,
                                          b9 ^^^
                                            rd (Sh.int IntKind.u8)
                                              (rd (Sh.arr 4 (Sh.int IntKind.u8)) w
                                                (IntKind.i64.wrap (IntKind.i64.wrap (4 * r) + 2)).toNat)
                                              1,
                                          b10 ^^^
                                            rd (Sh.int IntKind.u8)
                                              (rd (Sh.arr 4 (Sh.int IntKind.u8)) w
                                                (IntKind.i64.wrap (IntKind.i64.wrap (4 * r) + 2)).toNat)
                                              2,
                                          b11 ^^^
                                            rd (Sh.int IntKind.u8)
                                              (rd (Sh.arr 4 (Sh.int IntKind.u8)) w
                                                (IntKind.i64.wrap (IntKind.i64.wrap (4 * r) + 2)).toNat)
                                              3,
                                          b12 ^^^
                                            rd (Sh.int IntKind.u8)
                                              (rd (Sh.arr 4 (Sh.int IntKind.u8)) w
                                                (IntKind.i64.wrap (IntKind.i64.wrap (4 * r) + 3)).toNat)
                                              0,
                                          b13 ^^^
                                            rd (Sh.int IntKind.u8)
                                              (rd (Sh.arr 4 (Sh.int IntKind.u8)) w
                                                (IntKind.i64.wrap (IntKind.i64.wrap (4 * r) + 3)).toNat)
                                              1,
                                          b14 ^^^
                                            rd (Sh.int IntKind.u8)
                                              (rd (Sh.arr 4 (Sh.int IntKind.u8)) w
                                                (IntKind.i64.wrap (IntKind.i64.wrap (4 * r) + 3)).toNat)
                                              2,
                                          b15 ^^^
                                            rd (Sh.int IntKind.u8)
                                              (rd (Sh.arr 4 (Sh.int IntKind.u8)) w
                                                (IntKind.i64.wrap (IntKind.i64.wrap (4 * r) + 3)).toNat)
                                              3]))))))))))))))))))) := by kernel_rfl
theorem by_core (w : List (List (BitVec 8))) (n r : Int) (b0 b1 b2 b3 b4 b5 b6 b7 b8 b9 b10 b11 b12 b13 b14 b15 : BitVec 8) (hr : 0 ≤ r ∧ r < 15) :
    FW A5 Try.f34.ntmps (LTab.look []) Try.f34 (argsA [.f keyS, .v b16S, .v i64S] ((w, n, ()), [b0, b1, b2, b3, b4, b5, b6, b7, b8, b9, b10, b11, b12, b13, b14, b15], r, ())) (fun v => v = .av (.val b16S (byW w r [b0, b1, b2, b3, b4, b5, b6, b7, b8, b9, b10, b11, b12, b13, b14, b15]))) := by
  rw [fwBy]
  have i1 : IntKind.i64.wrap (4 * r) = 4 * r := IntWalk.i64_in _ (by omega)
  have j0 : IntKind.i64.wrap (4 * r + 0) = 4 * r + 0 := IntWalk.i64_in _ (by omega)
  have j1 : IntKind.i64.wrap (4 * r + 1) = 4 * r + 1 := IntWalk.i64_in _ (by omega)
  have j2 : IntKind.i64.wrap (4 * r + 2) = 4 * r + 2 := IntWalk.i64_in _ (by omega)
  have j3 : IntKind.i64.wrap (4 * r + 3) = 4 * r + 3 := IntWalk.i64_in _ (by omega)
  have d : ∀ c : Int, 0 ≤ c → c ≤ 3 → (decide (0 ≤ 4 * r + c) && decide (4 * r + c < 60)) = true := fun c h0 h3 => by
    rw [decide_eq_true (show 0 ≤ 4 * r + c by omega), decide_eq_true (show 4 * r + c < 60 by omega)]; rfl
  have t0 : (4 * r + 0).toNat = 4 * r.toNat + 0 := by omega
  have t1 : (4 * r + 1).toNat = 4 * r.toNat + 1 := by omega
  have t2 : (4 * r + 2).toNat = 4 * r.toNat + 2 := by omega
  have t3 : (4 * r + 3).toNat = 4 * r.toNat + 3 := by omega
  simp only [i1, j0, j1, j2, j3, d 0 (by omega) (by omega), d 1 (by omega) (by omega), d 2 (by omega) (by omega), d 3 (by omega) (by omega), dmd, t0, t1, t2, t3]
  rfl
theorem by_ok : COK Try.prog GL 34 (conA [.f keyS, .v b16S, .v i64S] byF) := by
  refine conA_ok (fun xs hw hc => ?_) (fun xs => rfl)
  obtain ⟨⟨w, n, ⟨⟩⟩, b, r, ⟨⟩⟩ := xs
  obtain ⟨b0, b1, b2, b3, b4, b5, b6, b7, b8, b9, b10, b11, b12, b13, b14, b15, hb⟩ := Go.Gfn.of16 (show List.length b = 16 from hw.2.1.1)
  have hb : b = [b0, b1, b2, b3, b4, b5, b6, b7, b8, b9, b10, b11, b12, b13, b14, b15] := hb
  subst hb
  have hc1 : (decide ((0 : Int) ≤ r) && decide ((r : Int) < 15)) = true := hc.1
  rw [Bool.and_eq_true, decide_eq_true_eq, decide_eq_true_eq] at hc1
  exact PC_of_fw (t := []) shA_ok a5_ok mixed Try.func34 (c := Try.f34.body.getD .skip) rfl (by kernel_rfl) (by kernel_rfl) loopsNil rfl (by_core w n r b0 b1 b2 b3 b4 b5 b6 b7 b8 b9 b10 b11 b12 b13 b14 b15 hc1)
/-! ## Each column -/
noncomputable def eachMF : HA [.v b16S, .fn 16] → RT := fun xs => .ret (.av (.val b16S (Go.Gfn.mixL xs.1)))
noncomputable def eachUF : HA [.v b16S, .fn 17] → RT := fun xs => .ret (.av (.val b16S (Go.Gfn.unmixL xs.1)))
theorem fwEachM (b0 b1 b2 b3 b4 b5 b6 b7 b8 b9 b10 b11 b12 b13 b14 b15 : BitVec 8) (P : SV → Prop) : FW A5 Try.f36.ntmps (LTab.look []) Try.f36 (argsA [.v b16S, .fn 16] ([b0, b1, b2, b3, b4, b5, b6, b7, b8, b9, b10, b11, b12, b13, b14, b15], (), ())) P =
  P (SV.av (AV.val b16S [Go.Gfn.dot 2 3 1 1 b0 b1 b2 b3, Go.Gfn.dot 2 3 1 1 b1 b2 b3 b0, Go.Gfn.dot 2 3 1 1 b2 b3 b0 b1, Go.Gfn.dot 2 3 1 1 b3 b0 b1 b2, Go.Gfn.dot 2 3 1 1 b4 b5 b6 b7, Go.Gfn.dot 2 3 1 1 b5 b6 b7 b4, Go.Gfn.dot 2 3 1 1 b6 b7 b4 b5, Go.Gfn.dot 2 3 1 1 b7 b4 b5 b6, Go.Gfn.dot 2 3 1 1 b8 b9 b10 b11, Go.Gfn.dot 2 3 1 1 b9 b10 b11 b8, Go.Gfn.dot 2 3 1 1 b10 b11 b8 b9, Go.Gfn.dot 2 3 1 1 b11 b8 b9 b10, Go.Gfn.dot 2 3 1 1 b12 b13 b14 b15, Go.Gfn.dot 2 3 1 1 b13 b14 b15 b12, Go.Gfn.dot 2 3 1 1 b14 b15 b12 b13, Go.Gfn.dot 2 3 1 1 b15 b12 b13 b14])) := by kernel_rfl
theorem fwEachU (b0 b1 b2 b3 b4 b5 b6 b7 b8 b9 b10 b11 b12 b13 b14 b15 : BitVec 8) (P : SV → Prop) : FW A5 Try.f36.ntmps (LTab.look []) Try.f36 (argsA [.v b16S, .fn 17] ([b0, b1, b2, b3, b4, b5, b6, b7, b8, b9, b10, b11, b12, b13, b14, b15], (), ())) P =
  P (SV.av (AV.val b16S [Go.Gfn.dot 14 11 13 9 b0 b1 b2 b3, Go.Gfn.dot 14 11 13 9 b1 b2 b3 b0, Go.Gfn.dot 14 11 13 9 b2 b3 b0 b1, Go.Gfn.dot 14 11 13 9 b3 b0 b1 b2, Go.Gfn.dot 14 11 13 9 b4 b5 b6 b7, Go.Gfn.dot 14 11 13 9 b5 b6 b7 b4, Go.Gfn.dot 14 11 13 9 b6 b7 b4 b5, Go.Gfn.dot 14 11 13 9 b7 b4 b5 b6, Go.Gfn.dot 14 11 13 9 b8 b9 b10 b11, Go.Gfn.dot 14 11 13 9 b9 b10 b11 b8, Go.Gfn.dot 14 11 13 9 b10 b11 b8 b9, Go.Gfn.dot 14 11 13 9 b11 b8 b9 b10, Go.Gfn.dot 14 11 13 9 b12 b13 b14 b15, Go.Gfn.dot 14 11 13 9 b13 b14 b15 b12, Go.Gfn.dot 14 11 13 9 b14 b15 b12 b13, Go.Gfn.dot 14 11 13 9 b15 b12 b13 b14])) := by kernel_rfl

theorem each_ok : COK Try.prog GL 36 (conO [.v b16S, .fn 16] eachMF [.v b16S, .fn 17] eachUF) := by
  refine conO_ok (fun xs hw hc => ?_) (fun xs => rfl) (fun xs hw hc => ?_) (fun xs => rfl)
  · obtain ⟨b, ⟨⟩, ⟨⟩⟩ := xs
    obtain ⟨b0, b1, b2, b3, b4, b5, b6, b7, b8, b9, b10, b11, b12, b13, b14, b15, hb⟩ := Go.Gfn.of16 (show List.length b = 16 from hw.1.1)
    have hb : b = [b0, b1, b2, b3, b4, b5, b6, b7, b8, b9, b10, b11, b12, b13, b14, b15] := hb
    subst hb
    refine PC_of_fw (t := []) shA_ok a5_ok mixed Try.func36 (c := Try.f36.body.getD .skip) rfl (by kernel_rfl) (by kernel_rfl) loopsNil rfl ?_
    rw [fwEachM]; rfl
  · obtain ⟨b, ⟨⟩, ⟨⟩⟩ := xs
    obtain ⟨b0, b1, b2, b3, b4, b5, b6, b7, b8, b9, b10, b11, b12, b13, b14, b15, hb⟩ := Go.Gfn.of16 (show List.length b = 16 from hw.1.1)
    have hb : b = [b0, b1, b2, b3, b4, b5, b6, b7, b8, b9, b10, b11, b12, b13, b14, b15] := hb
    subst hb
    refine PC_of_fw (t := []) shA_ok a5_ok mixed Try.func36 (c := Try.f36.body.getD .skip) rfl (by kernel_rfl) (by kernel_rfl) loopsNil rfl ?_
    rw [fwEachU]; rfl
noncomputable def subL4 (t : List (BitVec 8)) : List (BitVec 8) := [Go.Gfn.gsub (rd u8S t 0), Go.Gfn.gsub (rd u8S t 1), Go.Gfn.gsub (rd u8S t 2), Go.Gfn.gsub (rd u8S t 3)]
noncomputable def subbedF : HL [a4S] → SV := fun xs => .av (.val a4S (subL4 xs.1))
theorem fwSubbed (c0 c1 c2 c3 : BitVec 8) (P : SV → Prop) : FW A5 Try.f32.ntmps (LTab.look []) Try.f32 (argsOf [a4S] ([c0, c1, c2, c3], ())) P =
  P (SV.av (AV.val a4S [Go.Gfn.gsub c0, Go.Gfn.gsub c1, Go.Gfn.gsub c2, Go.Gfn.gsub c3])) := by kernel_rfl
theorem subbed_ok : COK Try.prog GL 32 (conT [a4S] subbedF) := by
  refine conT_ok (fun xs hw => ?_) (fun xs => rfl)
  obtain ⟨c, ⟨⟩⟩ := xs
  obtain ⟨c0, c1, c2, c3, hc⟩ := of4b hw.1.1
  have hc : c = [c0, c1, c2, c3] := hc
  subst hc
  refine PC_of_fw (t := []) shA_ok a5_ok mixed Try.func32 (c := Try.f32.body.getD .skip) rfl (by kernel_rfl) (by kernel_rfl) loopsNil rfl ?_
  rw [show (PUnit.unit : HL []) = () from rfl, fwSubbed]; rfl
noncomputable def a6 : CTab := (34, conA [.f keyS, .v b16S, .v i64S] byF) :: (36, conO [.v b16S, .fn 16] eachMF [.v b16S, .fn 17] eachUF) :: (32, conT [a4S] subbedF) :: a5
theorem a6_ok : ∀ p ∈ a6, COK Try.prog GL p.1 p.2 := CCons by_ok (CCons each_ok (CCons subbed_ok a5_ok))
noncomputable abbrev A6 : Go.Ty.Cx := mkX Try.prog GL shA a6
end Go.Proofs.Ytehgaljcpbaplaa
