import Derived.Test.YtehgaljcpbaplaaA2
namespace Go.Proofs.Ytehgaljcpbaplaa
open Go.Ty

abbrev Ig : List It := [.p 2 2000 a4S, .p 3 2001 a4S, .p 5 2002 a4S, .p 6 2003 a4S, .p 7 2004 a4S, .v 8 i64S, .v 16 i64S]
abbrev og : List (Nat × List It) := [(0, [.p 2 2000 a4S, .p 3 2001 a4S, .p 5 2002 a4S, .p 6 2003 a4S, .p 7 2004 a4S, .v 8 i64S])]
noncomputable def bg : Code := Try.f3.body.getD .skip
def cnt4 (c x : List (BitVec 8)) : Nat := 0 + Go.Gfn.nz (rd u8S c 0) + Go.Gfn.nz (rd u8S x 0) + Go.Gfn.nz (rd u8S c 1) + Go.Gfn.nz (rd u8S x 1) + Go.Gfn.nz (rd u8S c 2) + Go.Gfn.nz (rd u8S x 2) + Go.Gfn.nz (rd u8S c 3) + Go.Gfn.nz (rd u8S x 3)
noncomputable def Qg : LQ Ig [] og := fun s _ Kx => (s.2.2.2.2.1 = [0#8, 0#8, 0#8, 0#8] ∧ s.2.2.2.2.2.1 = 0 ∧ s.2.2.2.2.2.2.1 = 0) ∧
  Kx.1 (s.1, s.2.1, s.2.2.1, s.2.2.2.1, [rd u8S s.1 0 ^^^ rd u8S s.2.1 0, rd u8S s.1 1 ^^^ rd u8S s.2.1 1, rd u8S s.1 2 ^^^ rd u8S s.2.1 2, rd u8S s.1 3 ^^^ rd u8S s.2.1 3], ((cnt4 s.1 s.2.2.1 : Nat) : Int), ())
noncomputable abbrev Lg : LTab := [(5, ptL Ig [] og Qg)]
theorem roundg (c d x y z : List (BitVec 8)) (n i : Int) (Kn : HI Ig → Prop) (Kr : HI [] → Prop) (Kx : HP og) : roundT (W A5 Try.f3.ntmps (LTab.look Lg) (bodyAt bg 5)) Ig [] og (c, d, x, y, z, n, i, ()) Kn Kr Kx =
 (  ifB (decide (i < 4))
    (dmd (decide (0 ≤ i) && decide (i < 4))
      (dmd (decide (0 ≤ i) && decide (i < 4))
        (dmd (decide (0 ≤ i) && decide (i < 4))
          (dmd (decide (0 ≤ i) && decide (i < 4))
            (ifB (!decide (rd (Sh.int IntKind.u8) c i.toNat = 0#8))
              (dmd (decide (0 ≤ i) && decide (i < 4))
                (ifB (!decide (rd (Sh.int IntKind.u8) x i.toNat = 0#8))
                  (Kn
                    (c, d, x, y, z.set i.toNat (rd (Sh.int IntKind.u8) c i.toNat ^^^ rd (Sh.int IntKind.u8) d i.toNat),
                      IntKind.i64.wrap (IntKind.i64.wrap (n + 1) + 1), IntKind.i64.wrap (i + 1), PUnit.unit))
                  (Kn
                    (c, d, x, y, z.set i.toNat (rd (Sh.int IntKind.u8) c i.toNat ^^^ rd (Sh.int IntKind.u8) d i.toNat),
                      IntKind.i64.wrap (n + 1), IntKind.i64.wrap (i + 1), PUnit.unit))))
              (dmd (decide (0 ≤ i) && decide (i < 4))
                (ifB (!decide (rd (Sh.int IntKind.u8) x i.toNat = 0#8))
                  (Kn
                    (c, d, x, y, z.set i.toNat (rd (Sh.int IntKind.u8) c i.toNat ^^^ rd (Sh.int IntKind.u8) d i.toNat),
                      IntKind.i64.wrap (n + 1), IntKind.i64.wrap (i + 1), PUnit.unit))
                  (Kn
                    (c, d, x, y, z.set i.toNat (rd (Sh.int IntKind.u8) c i.toNat ^^^ rd (Sh.int IntKind.u8) d i.toNat), n,
                      IntKind.i64.wrap (i + 1), PUnit.unit)))))))))
    (Kx.1 (c, d, x, y, z, n, PUnit.unit))) := by kernel_rfl
theorem fwGfMix (c0 c1 c2 c3 d0 d1 d2 d3 : BitVec 8) (P : SV → Prop) : FW A5 Try.f3.ntmps (LTab.look Lg) Try.f3 (argsOf [a4S, a4S] ([c0, c1, c2, c3], [d0, d1, d2, d3], ())) P =
 (  Qg
    ([c0, c1, c2, c3], [d0, d1, d2, d3],
      [Go.Gfn.dot (2#8) (3#8) (1#8) (1#8) c0 c1 c2 c3, Go.Gfn.dot (2#8) (3#8) (1#8) (1#8) c1 c2 c3 c0,
        Go.Gfn.dot (2#8) (3#8) (1#8) (1#8) c2 c3 c0 c1, Go.Gfn.dot (2#8) (3#8) (1#8) (1#8) c3 c0 c1 c2],
      [Go.Gfn.dot (2#8) (3#8) (1#8) (1#8) d0 d1 d2 d3, Go.Gfn.dot (2#8) (3#8) (1#8) (1#8) d1 d2 d3 d0,
        Go.Gfn.dot (2#8) (3#8) (1#8) (1#8) d2 d3 d0 d1, Go.Gfn.dot (2#8) (3#8) (1#8) (1#8) d3 d0 d1 d2],
      [0#8, 0#8, 0#8, 0#8], 0, 0, PUnit.unit)
    (fun _ => False)
    (fun y =>
      ifB
        (!decide
            (Go.Gfn.dot (2#8) (3#8) (1#8) (1#8) (rd (Sh.int IntKind.u8) y.2.2.2.2.1 0) (rd (Sh.int IntKind.u8) y.2.2.2.2.1 1)
                (rd (Sh.int IntKind.u8) y.2.2.2.2.1 2) (rd (Sh.int IntKind.u8) y.2.2.2.2.1 3) =
              rd (Sh.int IntKind.u8) y.2.2.1 0 ^^^ rd (Sh.int IntKind.u8) y.2.2.2.1 0))
        (P (SV.av (AV.val Sh.bool false)))
        (ifB
          (!decide
              (Go.Gfn.dot (2#8) (3#8) (1#8) (1#8) (rd (Sh.int IntKind.u8) y.2.2.2.2.1 1)
                  (rd (Sh.int IntKind.u8) y.2.2.2.2.1 2) (rd (Sh.int IntKind.u8) y.2.2.2.2.1 3)
                  (rd (Sh.int IntKind.u8) y.2.2.2.2.1 0) =
                rd (Sh.int IntKind.u8) y.2.2.1 1 ^^^ rd (Sh.int IntKind.u8) y.2.2.2.1 1))
          (P (SV.av (AV.val Sh.bool false)))
          (ifB
            (!decide
                (Go.Gfn.dot (2#8) (3#8) (1#8) (1#8) (rd (Sh.int IntKind.u8) y.2.2.2.2.1 2)
                    (rd (Sh.int IntKind.u8) y.2.2.2.2.1 3) (rd (Sh.int IntKind.u8) y.2.2.2.2.1 0)
                    (rd (Sh.int IntKind.u8) y.2.2.2.2.1 1) =
                  rd (Sh.int IntKind.u8) y.2.2.1 2 ^^^ rd (Sh.int IntKind.u8) y.2.2.2.1 2))
            (P (SV.av (AV.val Sh.bool false)))
            (ifB
              (!decide
                  (Go.Gfn.dot (2#8) (3#8) (1#8) (1#8) (rd (Sh.int IntKind.u8) y.2.2.2.2.1 3)
                      (rd (Sh.int IntKind.u8) y.2.2.2.2.1 0) (rd (Sh.int IntKind.u8) y.2.2.2.2.1 1)
                      (rd (Sh.int IntKind.u8) y.2.2.2.2.1 2) =
                    rd (Sh.int IntKind.u8) y.2.2.1 3 ^^^ rd (Sh.int IntKind.u8) y.2.2.2.1 3))
              (P (SV.av (AV.val Sh.bool false)))
              (ifB
                (teq (Sh.arr 4 (Sh.int IntKind.u8))
                  [Go.Gfn.dot (14#8) (11#8) (13#8) (9#8) (rd (Sh.int IntKind.u8) y.2.2.1 0)
                      (rd (Sh.int IntKind.u8) y.2.2.1 1) (rd (Sh.int IntKind.u8) y.2.2.1 2)
                      (rd (Sh.int IntKind.u8) y.2.2.1 3),
                    Go.Gfn.dot (14#8) (11#8) (13#8) (9#8) (rd (Sh.int IntKind.u8) y.2.2.1 1)
                      (rd (Sh.int IntKind.u8) y.2.2.1 2) (rd (Sh.int IntKind.u8) y.2.2.1 3)
                      (rd (Sh.int IntKind.u8) y.2.2.1 0),
                    Go.Gfn.dot (14#8) (11#8) (13#8) (9#8) (rd (Sh.int IntKind.u8) y.2.2.1 2)
                      (rd (Sh.int IntKind.u8) y.2.2.1 3) (rd (Sh.int IntKind.u8) y.2.2.1 0)
                      (rd (Sh.int IntKind.u8) y.2.2.1 1),
                    Go.Gfn.dot (14#8) (11#8) (13#8) (9#8) (rd (Sh.int IntKind.u8) y.2.2.1 3)
                      (rd (Sh.int IntKind.u8) y.2.2.1 0) (rd (Sh.int IntKind.u8) y.2.2.1 1)
                      (rd (Sh.int IntKind.u8) y.2.2.1 2)]
                  y.1)
                (ifB
                  (teq (Sh.arr 4 (Sh.int IntKind.u8))
                    [Go.Gfn.dot (2#8) (3#8) (1#8) (1#8)
                        (Go.Gfn.dot (14#8) (11#8) (13#8) (9#8) (rd (Sh.int IntKind.u8) y.1 0) (rd (Sh.int IntKind.u8) y.1 1)
                          (rd (Sh.int IntKind.u8) y.1 2) (rd (Sh.int IntKind.u8) y.1 3))
                        (Go.Gfn.dot (14#8) (11#8) (13#8) (9#8) (rd (Sh.int IntKind.u8) y.1 1) (rd (Sh.int IntKind.u8) y.1 2)
                          (rd (Sh.int IntKind.u8) y.1 3) (rd (Sh.int IntKind.u8) y.1 0))
                        (Go.Gfn.dot (14#8) (11#8) (13#8) (9#8) (rd (Sh.int IntKind.u8) y.1 2) (rd (Sh.int IntKind.u8) y.1 3)
                          (rd (Sh.int IntKind.u8) y.1 0) (rd (Sh.int IntKind.u8) y.1 1))
                        (Go.Gfn.dot (14#8) (11#8) (13#8) (9#8) (rd (Sh.int IntKind.u8) y.1 3) (rd (Sh.int IntKind.u8) y.1 0)
                          (rd (Sh.int IntKind.u8) y.1 1) (rd (Sh.int IntKind.u8) y.1 2)),
                      Go.Gfn.dot (2#8) (3#8) (1#8) (1#8)
                        (Go.Gfn.dot (14#8) (11#8) (13#8) (9#8) (rd (Sh.int IntKind.u8) y.1 1) (rd (Sh.int IntKind.u8) y.1 2)
                          (rd (Sh.int IntKind.u8) y.1 3) (rd (Sh.int IntKind.u8) y.1 0))
                        (Go.Gfn.dot (14#8) (11#8) (13#8) (9#8) (rd (Sh.int IntKind.u8) y.1 2) (rd (Sh.int IntKind.u8) y.1 3)
                          (rd (Sh.int IntKind.u8) y.1 0) (rd (Sh.int IntKind.u8) y.1 1))
                        (Go.Gfn.dot (14#8) (11#8) (13#8) (9#8) (rd (Sh.int IntKind.u8) y.1 3) (rd (Sh.int IntKind.u8) y.1 0)
                          (rd (Sh.int IntKind.u8) y.1 1) (rd (Sh.int IntKind.u8) y.1 2))
                        (Go.Gfn.dot (14#8) (11#8) (13#8) (9#8) (rd (Sh.int IntKind.u8) y.1 0) (rd (Sh.int IntKind.u8) y.1 1)
                          (rd (Sh.int IntKind.u8) y.1 2) (rd (Sh.int IntKind.u8) y.1 3)),
                      Go.Gfn.dot (2#8) (3#8) (1#8) (1#8)
                        (Go.Gfn.dot (14#8) (11#8) (13#8) (9#8) (rd (Sh.int IntKind.u8) y.1 2) (rd (Sh.int IntKind.u8) y.1 3)
                          (rd (Sh.int IntKind.u8) y.1 0) (rd (Sh.int IntKind.u8) y.1 1))
                        (Go.Gfn.dot (14#8) (11#8) (13#8) (9#8) (rd (Sh.int IntKind.u8) y.1 3) (rd (Sh.int IntKind.u8) y.1 0)
                          (rd (Sh.int IntKind.u8) y.1 1) (rd (Sh.int IntKind.u8) y.1 2))
                        (Go.Gfn.dot (14#8) (11#8) (13#8) (9#8) (rd (Sh.int IntKind.u8) y.1 0) (rd (Sh.int IntKind.u8) y.1 1)
                          (rd (Sh.int IntKind.u8) y.1 2) (rd (Sh.int IntKind.u8) y.1 3))
                        (Go.Gfn.dot (14#8) (11#8) (13#8) (9#8) (rd (Sh.int IntKind.u8) y.1 1) (rd (Sh.int IntKind.u8) y.1 2)
                          (rd (Sh.int IntKind.u8) y.1 3) (rd (Sh.int IntKind.u8) y.1 0)),
                      Go.Gfn.dot (2#8) (3#8) (1#8) (1#8)
                        (Go.Gfn.dot (14#8) (11#8) (13#8) (9#8) (rd (Sh.int IntKind.u8) y.1 3) (rd (Sh.int IntKind.u8) y.1 0)
                          (rd (Sh.int IntKind.u8) y.1 1) (rd (Sh.int IntKind.u8) y.1 2))
                        (Go.Gfn.dot (14#8) (11#8) (13#8) (9#8) (rd (Sh.int IntKind.u8) y.1 0) (rd (Sh.int IntKind.u8) y.1 1)
                          (rd (Sh.int IntKind.u8) y.1 2) (rd (Sh.int IntKind.u8) y.1 3))
                        (Go.Gfn.dot (14#8) (11#8) (13#8) (9#8) (rd (Sh.int IntKind.u8) y.1 1) (rd (Sh.int IntKind.u8) y.1 2)
                          (rd (Sh.int IntKind.u8) y.1 3) (rd (Sh.int IntKind.u8) y.1 0))
                        (Go.Gfn.dot (14#8) (11#8) (13#8) (9#8) (rd (Sh.int IntKind.u8) y.1 2) (rd (Sh.int IntKind.u8) y.1 3)
                          (rd (Sh.int IntKind.u8) y.1 0) (rd (Sh.int IntKind.u8) y.1 1))]
                    y.1)
                  (ifB
                    (teq (Sh.arr 4 (Sh.int IntKind.u8))
                      [Go.Gfn.dot (2#8) (3#8) (1#8) (1#8)
                          (Go.Gfn.dot (2#8) (3#8) (1#8) (1#8)
                            (Go.Gfn.dot (2#8) (3#8) (1#8) (1#8) (rd (Sh.int IntKind.u8) y.2.2.1 0)
                              (rd (Sh.int IntKind.u8) y.2.2.1 1) (rd (Sh.int IntKind.u8) y.2.2.1 2)
                              (rd (Sh.int IntKind.u8) y.2.2.1 3))
                            (Go.Gfn.dot (2#8) (3#8) (1#8) (1#8) (rd (Sh.int IntKind.u8) y.2.2.1 1)
                              (rd (Sh.int IntKind.u8) y.2.2.1 2) (rd (Sh.int IntKind.u8) y.2.2.1 3)
                              (rd (Sh.int IntKind.u8) y.2.2.1 0))
                            (Go.Gfn.dot (2#8) (3#8) (1#8) (1#8) (rd (Sh.int IntKind.u8) y.2.2.1 2)
                              (rd (Sh.int IntKind.u8) y.2.2.1 3) (rd (Sh.int IntKind.u8) y.2.2.1 0)
                              (rd (Sh.int IntKind.u8) y.2.2.1 1))
                            (Go.Gfn.dot (2#8) (3#8) (1#8) (1#8) (rd (Sh.int IntKind.u8) y.2.2.1 3)
                              (rd (Sh.int IntKind.u8) y.2.2.1 0) (rd (Sh.int IntKind.u8) y.2.2.1 1)
                              (rd (Sh.int IntKind.u8) y.2.2.1 2)))
                          (Go.Gfn.dot (2#8) (3#8) (1#8) (1#8)
                            (Go.Gfn.dot (2#8) (3#8) (1#8) (1#8) (rd (Sh.int IntKind.u8) y.2.2.1 1)
                              (rd (Sh.int IntKind.u8) y.2.2.1 2) (rd (Sh.int IntKind.u8) y.2.2.1 3)
                              (rd (Sh.int IntKind.u8) y.2.2.1 0))
                            (Go.Gfn.dot (2#8) (3#8) (1#8) (1#8) (rd (Sh.int IntKind.u8) y.2.2.1 2)
                              (rd (Sh.int IntKind.u8) y.2.2.1 3) (rd (Sh.int IntKind.u8) y.2.2.1 0)
                              (rd (Sh.int IntKind.u8) y.2.2.1 1))
                            (Go.Gfn.dot (2#8) (3#8) (1#8) (1#8) (rd (Sh.int IntKind.u8) y.2.2.1 3)
                              (rd (Sh.int IntKind.u8) y.2.2.1 0) (rd (Sh.int IntKind.u8) y.2.2.1 1)
                              (rd (Sh.int IntKind.u8) y.2.2.1 2))
                            (Go.Gfn.dot (2#8) (3#8) (1#8) (1#8) (rd (Sh.int IntKind.u8) y.2.2.1 0)
                              (rd (Sh.int IntKind.u8) y.2.2.1 1) (rd (Sh.int IntKind.u8) y.2.2.1 2)
                              (rd (Sh.int IntKind.u8) y.2.2.1 3)))
                          (Go.Gfn.dot (2#8) (3#8) (1#8) (1#8)
                            (Go.Gfn.dot (2#8) (3#8) (1#8) (1#8) (rd (Sh.int IntKind.u8) y.2.2.1 2)
                              (rd (Sh.int IntKind.u8) y.2.2.1 3) (rd (Sh.int IntKind.u8) y.2.2.1 0)
                              (rd (Sh.int IntKind.u8) y.2.2.1 1))
                            (Go.Gfn.dot (2#8) (3#8) (1#8) (1#8) (rd (Sh.int IntKind.u8) y.2.2.1 3)
                              (rd (Sh.int IntKind.u8) y.2.2.1 0) (rd (Sh.int IntKind.u8) y.2.2.1 1)
                              (rd (Sh.int IntKind.u8) y.2.2.1 2))
                            (Go.Gfn.dot (2#8) (3#8) (1#8) (1#8) (rd (Sh.int IntKind.u8) y.2.2.1 0)
                              (rd (Sh.int IntKind.u8) y.2.2.1 1) (rd (Sh.int IntKind.u8) y.2.2.1 2)
                              (rd (Sh.int IntKind.u8) y.2.2.1 3))
                            (Go.Gfn.dot (2#8) (3#8) (1#8) (1#8) (rd (Sh.int IntKind.u8) y.2.2.1 1)
                              (rd (Sh.int IntKind.u8) y.2.2.1 2) (rd (Sh.int IntKind.u8) y.2.2.1 3)
                              (rd (Sh.int IntKind.u8) y.2.2.1 0)))
                          (Go.Gfn.dot (2#8) (3#8) (1#8) (1#8)
                            (Go.Gfn.dot (2#8) (3#8) (1#8) (1#8) (rd (Sh.int IntKind.u8) y.2.2.1 3)
                              (rd (Sh.int IntKind.u8) y.2.2.1 0) (rd (Sh.int IntKind.u8) y.2.2.1 1)
                              (rd (Sh.int IntKind.u8) y.2.2.1 2))
                            (Go.Gfn.dot (2#8) (3#8) (1#8) (1#8) (rd (Sh.int IntKind.u8) y.2.2.1 0)
                              (rd (Sh.int IntKind.u8) y.2.2.1 1) (rd (Sh.int IntKind.u8) y.2.2.1 2)
                              (rd (Sh.int IntKind.u8) y.2.2.1 3))
                            (Go.Gfn.dot (2#8) (3#8) (1#8) (1#8) (rd (Sh.int IntKind.u8) y.2.2.1 1)
                              (rd (Sh.int IntKind.u8) y.2.2.1 2) (rd (Sh.int IntKind.u8) y.2.2.1 3)
                              (rd (Sh.int IntKind.u8) y.2.2.1 0))
                            (Go.Gfn.dot (2#8) (3#8) (1#8) (1#8) (rd (Sh.int IntKind.u8) y.2.2.1 2)
                              (rd (Sh.int IntKind.u8) y.2.2.1 3) (rd (Sh.int IntKind.u8) y.2.2.1 0)
                              (rd (Sh.int IntKind.u8) y.2.2.1 1))),
                        Go.Gfn.dot (2#8) (3#8) (1#8) (1#8)
                          (Go.Gfn.dot (2#8) (3#8) (1#8) (1#8)
                            (Go.Gfn.dot (2#8) (3#8) (1#8) (1#8) (rd (Sh.int IntKind.u8) y.2.2.1 1)
                              (rd (Sh.int IntKind.u8) y.2.2.1 2) (rd (Sh.int IntKind.u8) y.2.2.1 3)
                              (rd (Sh.int IntKind.u8) y.2.2.1 0))
                            (Go.Gfn.dot (2#8) (3#8) (1#8) (1#8) (rd (Sh.int IntKind.u8) y.2.2.1 2)
                              (rd (Sh.int IntKind.u8) y.2.2.1 3) (rd (Sh.int IntKind.u8) y.2.2.1 0)
                              (rd (Sh.int IntKind.u8) y.2.2.1 1))
                            (Go.Gfn.dot (2#8) (3#8) (1#8) (1#8) (rd (Sh.int IntKind.u8) y.2.2.1 3)
                              (rd (Sh.int IntKind.u8) y.2.2.1 0) (rd (Sh.int IntKind.u8) y.2.2.1 1)
                              (rd (Sh.int IntKind.u8) y.2.2.1 2))
                            (Go.Gfn.dot (2#8) (3#8) (1#8) (1#8) (rd (Sh.int IntKind.u8) y.2.2.1 0)
                              (rd (Sh.int IntKind.u8) y.2.2.1 1) (rd (Sh.int IntKind.u8) y.2.2.1 2)
                              (rd (Sh.int IntKind.u8) y.2.2.1 3)))
                          (Go.Gfn.dot (2#8) (3#8) (1#8) (1#8)
                            (Go.Gfn.dot (2#8) (3#8) (1#8) (1#8) (rd (Sh.int IntKind.u8) y.2.2.1 2)
                              (rd (Sh.int IntKind.u8) y.2.2.1 3) (rd (Sh.int IntKind.u8) y.2.2.1 0)
                              (rd (Sh.int IntKind.u8) y.2.2.1 1))
                            (Go.Gfn.dot (2#8) (3#8) (1#8) (1#8) (rd (Sh.int IntKind.u8) y.2.2.1 3)
                              (rd (Sh.int IntKind.u8) y.2.2.1 0) (rd (Sh.int IntKind.u8) y.2.2.1 1)
                              (rd (Sh.int IntKind.u8) y.2.2.1 2))
                            (Go.Gfn.dot (2#8) (3#8) (1#8) (1#8) (rd (Sh.int IntKind.u8) y.2.2.1 0)
                              (rd (Sh.int IntKind.u8) y.2.2.1 1) (rd (Sh.int IntKind.u8) y.2.2.1 2)
                              (rd (Sh.int IntKind.u8) y.2.2.1 3))
                            (Go.Gfn.dot (2#8) (3#8) (1#8) (1#8) (rd (Sh.int IntKind.u8) y.2.2.1 1)
                              (rd (Sh.int IntKind.u8) y.2.2.1 2) (rd (Sh.int IntKind.u8) y.2.2.1 3)
                              (rd (Sh.int IntKind.u8) y.2.2.1 0)))
                          (Go.Gfn.dot (2#8) (3#8) (1#8) (1#8)
                            (Go.Gfn.dot (2#8) (3#8) (1#8) (1#8) (rd (Sh.int IntKind.u8) y.2.2.1 3)
                              (rd (Sh.int IntKind.u8) y.2.2.1 0) (rd (Sh.int IntKind.u8) y.2.2.1 1)
                              (rd (Sh.int IntKind.u8) y.2.2.1 2))
                            (Go.Gfn.dot (2#8) (3#8) (1#8) (1#8) (rd (Sh.int IntKind.u8) y.2.2.1 0)
                              (rd (Sh.int IntKind.u8) y.2.2.1 1) (rd (Sh.int IntKind.u8) y.2.2.1 2)
                              (rd (Sh.int IntKind.u8) y.2.2.1 3))
                            (Go.Gfn.dot (2#8) (3#8) (1#8) (1#8) (rd (Sh.int IntKind.u8) y.2.2.1 1)
                              (rd (Sh.int IntKind.u8) y.2.2.1 2) (rd (Sh.int IntKind.u8) y.2.2.1 3)
                              (rd (Sh.int IntKind.u8) y.2.2.1 0))
                            (Go.Gfn.dot (2#8) (3#8) (1#8) (1#8) (rd (Sh.int IntKind.u8) y.2.2.1 2)
                              (rd (Sh.int IntKind.u8) y.2.2.1 3) (rd (Sh.int IntKind.u8) y.2.2.1 0)
                              (rd (Sh.int IntKind.u8) y.2.2.1 1)))
                          (Go.Gfn.dot (2#8) (3#8) (1#8) (1#8)
                            (Go.Gfn.dot (2#8) (3#8) (1#8) (1#8) (rd (Sh.int IntKind.u8) y.2.2.1 0)
                              (rd (Sh.int IntKind.u8) y.2.2.1 1) (rd (Sh.int IntKind.u8) y.2.2.1 2)
                              (rd (Sh.int IntKind.u8) y.2.2.1 3))
                            (Go.Gfn.dot (2#8) (3#8) (1#8) (1#8) (rd (Sh.int IntKind.u8) y.2.2.1 1)
                              (rd (Sh.int IntKind.u8) y.2.2.1 2) (rd (Sh.int IntKind.u8) y.2.2.1 3)
                              (rd (Sh.int IntKind.u8) y.2.2.1 0))
                            (Go.Gfn.dot (2#8) (3#8) (1#8) (1#8) (rd (Sh.int IntKind.u8) y.2.2.1 2)
                              (rd (Sh.int IntKind.u8) y.2.2.1 3) (rd (Sh.int IntKind.u8) y.2.2.1 0)
                              (rd (Sh.int IntKind.u8) y.2.2.1 1))
                            (Go.Gfn.dot (2#8) (3#8) (1#8) (1#8) (rd (Sh.int IntKind.u8) y.2.2.1 3)
                              (rd (Sh.int IntKind.u8) y.2.2.1 0) (rd (Sh.int IntKind.u8) y.2.2.1 1)
                              (rd (Sh.int IntKind.u8) y.2.2.1 2))),
                        Go.Gfn.dot (2#8) (3#8) (1#8) (1#8)
                          (Go.Gfn.dot (2#8) (3#8) (1#8) (1#8)
                            (Go.Gfn.dot (2#8) (3#8) (1#8) (1#8) (rd (Sh.int IntKind.u8) y.2.2.1 2)
                              (rd (Sh.int IntKind.u8) y.2.2.1 3) (rd (Sh.int IntKind.u8) y.2.2.1 0)
                              (rd (Sh.int IntKind.u8) y.2.2.1 1))
                            (Go.Gfn.dot (2#8) (3#8) (1#8) (1#8) (rd (Sh.int IntKind.u8) y.2.2.1 3)
                              (rd (Sh.int IntKind.u8) y.2.2.1 0) (rd (Sh.int IntKind.u8) y.2.2.1 1)
                              (rd (Sh.int IntKind.u8) y.2.2.1 2))
                            (Go.Gfn.dot (2#8) (3#8) (1#8) (1#8) (rd (Sh.int IntKind.u8) y.2.2.1 0)
                              (rd (Sh.int IntKind.u8) y.2.2.1 1) (rd (Sh.int IntKind.u8) y.2.2.1 2)
                              (rd (Sh.int IntKind.u8) y.2.2.1 3))
                            (Go.Gfn.dot (2#8) (3#8) (1#8) (1#8) (rd (Sh.int IntKind.u8) y.2.2.1 1)
                              (rd (Sh.int IntKind.u8) y.2.2.1 2) (rd (Sh.int IntKind.u8) y.2.2.1 3)
                              (rd (Sh.int IntKind.u8) y.2.2.1 0)))
                          (Go.Gfn.dot (2#8) (3#8) (1#8) (1#8)
                            (Go.Gfn.dot (2#8) (3#8) (1#8) (1#8) (rd (Sh.int IntKind.u8) y.2.2.1 3)
                              (rd (Sh.int IntKind.u8) y.2.2.1 0) (rd (Sh.int IntKind.u8) y.2.2.1 1)
                              (rd (Sh.int IntKind.u8) y.2.2.1 2))
                            (Go.Gfn.dot (2#8) (3#8) (1#8) (1#8) (rd (Sh.int IntKind.u8) y.2.2.1 0)
                              (rd (Sh.int IntKind.u8) y.2.2.1 1) (rd (Sh.int IntKind.u8) y.2.2.1 2)
                              (rd (Sh.int IntKind.u8) y.2.2.1 3))
                            (Go.Gfn.dot (2#8) (3#8) (1#8) (1#8) (rd (Sh.int IntKind.u8) y.2.2.1 1)
                              (rd (Sh.int IntKind.u8) y.2.2.1 2) (rd (Sh.int IntKind.u8) y.2.2.1 3)
                              (rd (Sh.int IntKind.u8) y.2.2.1 0))
                            (Go.Gfn.dot (2#8) (3#8) (1#8) (1#8) (rd (Sh.int IntKind.u8) y.2.2.1 2)
                              (rd (Sh.int IntKind.u8) y.2.2.1 3) (rd (Sh.int IntKind.u8) y.2.2.1 0)
                              (rd (Sh.int IntKind.u8) y.2.2.1 1)))
                          (Go.Gfn.dot (2#8) (3#8) (1#8) (1#8)
                            (Go.Gfn.dot (2#8) (3#8) (1#8) (1#8) (rd (Sh.int IntKind.u8) y.2.2.1 0)
                              (rd (Sh.int IntKind.u8) y.2.2.1 1) (rd (Sh.int IntKind.u8) y.2.2.1 2)
                              (rd (Sh.int IntKind.u8) y.2.2.1 3))
                            (Go.Gfn.dot (2#8) (3#8) (1#8) (1#8) (rd (Sh.int IntKind.u8) y.2.2.1 1)
                              (rd (Sh.int IntKind.u8) y.2.2.1 2) (rd (Sh.int IntKind.u8) y.2.2.1 3)
                              (rd (Sh.int IntKind.u8) y.2.2.1 0))
                            (Go.Gfn.dot (2#8) (3#8) (1#8) (1#8) (rd (Sh.int IntKind.u8) y.2.2.1 2)
                              (rd (Sh.int IntKind.u8) y.2.2.1 3) (rd (Sh.int IntKind.u8) y.2.2.1 0)
                              (rd (Sh.int IntKind.u8) y.2.2.1 1))
                            (Go.Gfn.dot (2#8) (3#8) (1#8) (1#8) (rd (Sh.int IntKind.u8) y.2.2.1 3)
                              (rd (Sh.int IntKind.u8) y.2.2.1 0) (rd (Sh.int IntKind.u8) y.2.2.1 1)
                              (rd (Sh.int IntKind.u8) y.2.2.1 2)))
                          (Go.Gfn.dot (2#8) (3#8) (1#8) (1#8)
                            (Go.Gfn.dot (2#8) (3#8) (1#8) (1#8) (rd (Sh.int IntKind.u8) y.2.2.1 1)
                              (rd (Sh.int IntKind.u8) y.2.2.1 2) (rd (Sh.int IntKind.u8) y.2.2.1 3)
                              (rd (Sh.int IntKind.u8) y.2.2.1 0))
                            (Go.Gfn.dot (2#8) (3#8) (1#8) (1#8) (rd (Sh.int IntKind.u8) y.2.2.1 2)
                              (rd (Sh.int IntKind.u8) y.2.2.1 3) (rd (Sh.int IntKind.u8) y.2.2.1 0)
                              (rd (Sh.int IntKind.u8) y.2.2.1 1))
                            (Go.Gfn.dot (2#8) (3#8) (1#8) (1#8) (rd (Sh.int IntKind.u8) y.2.2.1 3)
                              (rd (Sh.int IntKind.u8) y.2.2.1 0) (rd (Sh.int IntKind.u8) y.2.2.1 1)
                              (rd (Sh.int IntKind.u8) y.2.2.1 2))
                            (Go.Gfn.dot (2#8) (3#8) (1#8) (1#8) (rd (Sh.int IntKind.u8) y.2.2.1 0)
                              (rd (Sh.int IntKind.u8) y.2.2.1 1) (rd (Sh.int IntKind.u8) y.2.2.1 2)
                              (rd (Sh.int IntKind.u8) y.2.2.1 3))),
                        Go.Gfn.dot (2#8) (3#8) (1#8) (1#8)
                          (Go.Gfn.dot (2#8) (3#8) (1#8) (1#8)
                            (Go.Gfn.dot (2#8) (3#8) (1#8) (1#8) (rd (Sh.int IntKind.u8) y.2.2.1 3)
                              (rd (Sh.int IntKind.u8) y.2.2.1 0) (rd (Sh.int IntKind.u8) y.2.2.1 1)
                              (rd (Sh.int IntKind.u8) y.2.2.1 2))
                            (Go.Gfn.dot (2#8) (3#8) (1#8) (1#8) (rd (Sh.int IntKind.u8) y.2.2.1 0)
                              (rd (Sh.int IntKind.u8) y.2.2.1 1) (rd (Sh.int IntKind.u8) y.2.2.1 2)
                              (rd (Sh.int IntKind.u8) y.2.2.1 3))
                            (Go.Gfn.dot (2#8) (3#8) (1#8) (1#8) (rd (Sh.int IntKind.u8) y.2.2.1 1)
                              (rd (Sh.int IntKind.u8) y.2.2.1 2) (rd (Sh.int IntKind.u8) y.2.2.1 3)
                              (rd (Sh.int IntKind.u8) y.2.2.1 0))
                            (Go.Gfn.dot (2#8) (3#8) (1#8) (1#8) (rd (Sh.int IntKind.u8) y.2.2.1 2)
                              (rd (Sh.int IntKind.u8) y.2.2.1 3) (rd (Sh.int IntKind.u8) y.2.2.1 0)
                              (rd (Sh.int IntKind.u8) y.2.2.1 1)))
                          (Go.Gfn.dot (2#8) (3#8) (1#8) (1#8)
                            (Go.Gfn.dot (2#8) (3#8) (1#8) (1#8) (rd (Sh.int IntKind.u8) y.2.2.1 0)
                              (rd (Sh.int IntKind.u8) y.2.2.1 1) (rd (Sh.int IntKind.u8) y.2.2.1 2)
                              (rd (Sh.int IntKind.u8) y.2.2.1 3))
                            (Go.Gfn.dot (2#8) (3#8) (1#8) (1#8) (rd (Sh.int IntKind.u8) y.2.2.1 1)
                              (rd (Sh.int IntKind.u8) y.2.2.1 2) (rd (Sh.int IntKind.u8) y.2.2.1 3)
                              (rd (Sh.int IntKind.u8) y.2.2.1 0))
                            (Go.Gfn.dot (2#8) (3#8) (1#8) (1#8) (rd (Sh.int IntKind.u8) y.2.2.1 2)
                              (rd (Sh.int IntKind.u8) y.2.2.1 3) (rd (Sh.int IntKind.u8) y.2.2.1 0)
                              (rd (Sh.int IntKind.u8) y.2.2.1 1))
                            (Go.Gfn.dot (2#8) (3#8) (1#8) (1#8) (rd (Sh.int IntKind.u8) y.2.2.1 3)
                              (rd (Sh.int IntKind.u8) y.2.2.1 0) (rd (Sh.int IntKind.u8) y.2.2.1 1)
                              (rd (Sh.int IntKind.u8) y.2.2.1 2)))
                          (Go.Gfn.dot (2#8) (3#8) (1#8) (1#8)
                            (Go.Gfn.dot (2#8) (3#8) (1#8) (1#8) (rd (Sh.int IntKind.u8) y.2.2.1 1)
                              (rd (Sh.int IntKind.u8) y.2.2.1 2) (rd (Sh.int IntKind.u8) y.2.2.1 3)
                              (rd (Sh.int IntKind.u8) y.2.2.1 0))
                            (Go.Gfn.dot (2#8) (3#8) (1#8) (1#8) (rd (Sh.int IntKind.u8) y.2.2.1 2)
                              (rd (Sh.int IntKind.u8) y.2.2.1 3) (rd (Sh.int IntKind.u8) y.2.2.1 0)
                              (rd (Sh.int IntKind.u8) y.2.2.1 1))
                            (Go.Gfn.dot (2#8) (3#8) (1#8) (1#8) (rd (Sh.int IntKind.u8) y.2.2.1 3)
                              (rd (Sh.int IntKind.u8) y.2.2.1 0) (rd (Sh.int IntKind.u8) y.2.2.1 1)
                              (rd (Sh.int IntKind.u8) y.2.2.1 2))
                            (Go.Gfn.dot (2#8) (3#8) (1#8) (1#8) (rd (Sh.int IntKind.u8) y.2.2.1 0)
                              (rd (Sh.int IntKind.u8) y.2.2.1 1) (rd (Sh.int IntKind.u8) y.2.2.1 2)
                              (rd (Sh.int IntKind.u8) y.2.2.1 3)))
                          (Go.Gfn.dot (2#8) (3#8) (1#8) (1#8)
                            (Go.Gfn.dot (2#8) (3#8) (1#8) (1#8) (rd (Sh.int IntKind.u8) y.2.2.1 2)
                              (rd (Sh.int IntKind.u8) y.2.2.1 3) (rd (Sh.int IntKind.u8) y.2.2.1 0)
                              (rd (Sh.int IntKind.u8) y.2.2.1 1))
                            (Go.Gfn.dot (2#8) (3#8) (1#8) (1#8) (rd (Sh.int IntKind.u8) y.2.2.1 3)
                              (rd (Sh.int IntKind.u8) y.2.2.1 0) (rd (Sh.int IntKind.u8) y.2.2.1 1)
                              (rd (Sh.int IntKind.u8) y.2.2.1 2))
                            (Go.Gfn.dot (2#8) (3#8) (1#8) (1#8) (rd (Sh.int IntKind.u8) y.2.2.1 0)
                              (rd (Sh.int IntKind.u8) y.2.2.1 1) (rd (Sh.int IntKind.u8) y.2.2.1 2)
                              (rd (Sh.int IntKind.u8) y.2.2.1 3))
                            (Go.Gfn.dot (2#8) (3#8) (1#8) (1#8) (rd (Sh.int IntKind.u8) y.2.2.1 1)
                              (rd (Sh.int IntKind.u8) y.2.2.1 2) (rd (Sh.int IntKind.u8) y.2.2.1 3)
                              (rd (Sh.int IntKind.u8) y.2.2.1 0)))]
                      y.1)
                    (ifB (decide (5 ≤ y.2.2.2.2.2.1)) (P (SV.av (AV.val Sh.bool true)))
                      (P (SV.av (AV.val Sh.bool (teq (Sh.arr 4 (Sh.int IntKind.u8)) y.1 [0#8, 0#8, 0#8, 0#8])))))
                    (P (SV.av (AV.val Sh.bool false))))
                  (P (SV.av (AV.val Sh.bool false))))
                (P (SV.av (AV.val Sh.bool false))))))),
      PUnit.unit)) := by kernel_rfl
theorem nz_le (a : BitVec 8) : Go.Gfn.nz a ≤ 1 := by
  by_cases h : a = 0#8
  · rw [Go.Gfn.nz0 h]; omega
  · rw [Go.Gfn.nz1 h]; omega
theorem stepg (c d x y z : List (BitVec 8)) (n k m : Nat) (hk : k < 4) (hn : n ≤ 8) (Kr : HI [] → Prop) (Kx : HP og)
    (h : untl (W A5 Try.f3.ntmps (LTab.look Lg) (bodyAt bg 5)) Ig [] og m (c, d, x, y, List.set z k (rd u8S c k ^^^ rd u8S d k), ((n + Go.Gfn.nz (rd u8S c k) + Go.Gfn.nz (rd u8S x k) : Nat) : Int), ((k + 1 : Nat) : Int), ()) Kr Kx) :
    untl (W A5 Try.f3.ntmps (LTab.look Lg) (bodyAt bg 5)) Ig [] og (m + 1) (c, d, x, y, z, (n : Int), (k : Int), ()) Kr Kx := by
  rw [untl_succ, roundg]
  have hB : (decide ((0 : Int) ≤ (k : Int)) && decide ((k : Int) < 4)) = true := by
    rw [decide_eq_true (show (0 : Int) ≤ (k : Int) by omega), decide_eq_true (show (k : Int) < 4 by omega)]; rfl
  have e1 : IntKind.i64.wrap ((k : Int) + 1) = ((k + 1 : Nat) : Int) := by rw [IntWalk.i64_in _ (by omega)]; omega
  have e2 : IntKind.i64.wrap ((n : Int) + 1) = ((n + 1 : Nat) : Int) := by rw [IntWalk.i64_in _ (by omega)]; omega
  have e3 : IntKind.i64.wrap (((n + 1 : Nat) : Int) + 1) = ((n + 1 + 1 : Nat) : Int) := by rw [IntWalk.i64_in _ (by omega)]; omega
  rw [e1, e2, e3, Int.toNat_natCast]
  refine ifB_of (fun _ => dmd_of hB (dmd_of hB (dmd_of hB (dmd_of hB ?_)))) (fun h => absurd (of_decide_eq_false h) (by omega))
  by_cases hc : rd (Sh.int IntKind.u8) c k = 0#8
  · have z1 : Go.Gfn.nz (rd u8S c k) = 0 := Go.Gfn.nz0 hc
    rw [decide_eq_true hc]
    refine ifB_of (fun h => absurd h (by decide)) (fun _ => dmd_of hB ?_)
    by_cases hx : rd (Sh.int IntKind.u8) x k = 0#8
    · have z2 : Go.Gfn.nz (rd u8S x k) = 0 := Go.Gfn.nz0 hx
      rw [decide_eq_true hx]
      rw [z1, z2] at h
      exact ifB_of (fun h => absurd h (by decide)) (fun _ => h)
    · have z2 : Go.Gfn.nz (rd u8S x k) = 1 := Go.Gfn.nz1 hx
      rw [decide_eq_false hx]
      rw [z1, z2] at h
      exact ifB_of (fun _ => h) (fun h => absurd h (by decide))
  · have z1 : Go.Gfn.nz (rd u8S c k) = 1 := Go.Gfn.nz1 hc
    rw [decide_eq_false hc]
    refine ifB_of (fun _ => dmd_of hB ?_) (fun h => absurd h (by decide))
    by_cases hx : rd (Sh.int IntKind.u8) x k = 0#8
    · have z2 : Go.Gfn.nz (rd u8S x k) = 0 := Go.Gfn.nz0 hx
      rw [decide_eq_true hx]
      rw [z1, z2] at h
      exact ifB_of (fun h => absurd h (by decide)) (fun _ => h)
    · have z2 : Go.Gfn.nz (rd u8S x k) = 1 := Go.Gfn.nz1 hx
      rw [decide_eq_false hx]
      rw [z1, z2] at h
      exact ifB_of (fun _ => h) (fun h => absurd h (by decide))
theorem loopg : ∀ x Kr Kx, Qg x Kr Kx → ∃ n, untl (W A5 Try.f3.ntmps (LTab.look Lg) (bodyAt bg 5)) Ig [] og n x Kr Kx := by
  rintro ⟨c, d, x, y, z0, n0, i0, u⟩ Kr Kx ⟨⟨h1, h2, h3⟩, hK⟩
  have h1 : z0 = [0#8, 0#8, 0#8, 0#8] := h1
  have h2 : n0 = ((0 : Nat) : Int) := h2
  have h3 : i0 = ((0 : Nat) : Int) := h3
  have b := nz_le
  refine ⟨5, ?_⟩
  rw [h1, h2, h3]
  have p0 := b (rd u8S c 0); have p1 := b (rd u8S c 1); have p2 := b (rd u8S c 2); have p3 := b (rd u8S c 3)
  have q0 := b (rd u8S x 0); have q1 := b (rd u8S x 1); have q2 := b (rd u8S x 2); have q3 := b (rd u8S x 3)
  refine stepg c d x y _ 0 0 4 (by omega) (by omega) Kr Kx (stepg c d x y _ _ 1 3 (by omega) (by omega) Kr Kx (stepg c d x y _ _ 2 2 (by omega) (by omega) Kr Kx (stepg c d x y _ _ 3 1 (by omega) (by omega) Kr Kx ?_)))
  rw [untl_succ, roundg]
  exact ifB_of (fun h => absurd (of_decide_eq_true h) (by decide)) (fun _ => hK)
theorem walkGfMix (xs : HL [a4S, a4S]) (h : okHL [a4S, a4S] xs) : PC (bx Try.prog noGl) 3 (argsOf [a4S, a4S] xs) (.av (.val .bool true)) := by
  obtain ⟨c, d, ⟨⟩⟩ := xs
  obtain ⟨c0, c1, c2, c3, hc⟩ := of4b (show List.length c = 4 from h.1.1)
  obtain ⟨d0, d1, d2, d3, hd⟩ := of4b (show List.length d = 4 from h.2.1.1)
  have hc : c = [c0, c1, c2, c3] := hc
  have hd : d = [d0, d1, d2, d3] := hd
  subst hc hd
  refine PC_of_fw (t := Lg) shA_ok a5_ok mixed Try.func3 (c := bg) rfl (by kernel_rfl) (by kernel_rfl) (loopsOK (by kernel_rfl) (LTCons (loop_of shA_ok a5_ok mixed (loopsOK (by kernel_rfl) (LTCons (noLoop (by kernel_rfl)) LTNil)) (by kernel_rfl) loopg) LTNil)) rfl ?_
  refine (fwGfMix c0 c1 c2 c3 d0 d1 d2 d3 _).mpr ⟨⟨rfl, rfl, rfl⟩, ?_⟩
  have lin : ∀ a b c d a' b' c' d', decide (Go.Gfn.dot 2 3 1 1 (a ^^^ a') (b ^^^ b') (c ^^^ c') (d ^^^ d') = Go.Gfn.dot 2 3 1 1 a b c d ^^^ Go.Gfn.dot 2 3 1 1 a' b' c' d') = true := fun a b c d a' b' c' d' => decide_eq_true (Go.Gfn.dot_add _ _ _ _ _ _ _ _ _ _ _ _)
  have no : ∀ {b : Bool} {p q : Prop}, b = true → q → ifB (!b) p q := fun {b p q} hb hq => by rw [hb]; exact hq
  have um := Go.Gfn.unmix_mix (c0, c1, c2, c3)
  have mu := Go.Gfn.mix_unmix (c0, c1, c2, c3)
  have m4 := Go.Gfn.mix_four (c0, c1, c2, c3)
  have four : ∀ {x : BitVec 8 × BitVec 8 × BitVec 8 × BitVec 8}, x = (c0, c1, c2, c3) → [x.1, x.2.1, x.2.2.1, x.2.2.2] = [c0, c1, c2, c3] := fun {x} e => by rw [e]
  refine no (lin c0 c1 c2 c3 d0 d1 d2 d3) (no (lin c1 c2 c3 c0 d1 d2 d3 d0) (no (lin c2 c3 c0 c1 d2 d3 d0 d1) (no (lin c3 c0 c1 c2 d3 d0 d1 d2) ?_)))
  refine step_t (s := a4S) (four um) (step_t (s := a4S) (four mu) (step_t (s := a4S) (four m4) ?_))
  refine ifB_of (fun _ => rfl) (fun hlt => ?_)
  have hlt : ¬ (5 : Int) ≤ ((cnt4 [c0, c1, c2, c3] [Go.Gfn.dot 2 3 1 1 c0 c1 c2 c3, Go.Gfn.dot 2 3 1 1 c1 c2 c3 c0, Go.Gfn.dot 2 3 1 1 c2 c3 c0 c1, Go.Gfn.dot 2 3 1 1 c3 c0 c1 c2] : Nat) : Int) := of_decide_eq_false hlt
  have e : cnt4 [c0, c1, c2, c3] [Go.Gfn.dot 2 3 1 1 c0 c1 c2 c3, Go.Gfn.dot 2 3 1 1 c1 c2 c3 c0, Go.Gfn.dot 2 3 1 1 c2 c3 c0 c1, Go.Gfn.dot 2 3 1 1 c3 c0 c1 c2] = Go.Gfn.nz c0 + Go.Gfn.nz c1 + Go.Gfn.nz c2 + Go.Gfn.nz c3 + (Go.Gfn.nz (Go.Gfn.dot 2 3 1 1 c0 c1 c2 c3) + Go.Gfn.nz (Go.Gfn.dot 2 3 1 1 c1 c2 c3 c0) + Go.Gfn.nz (Go.Gfn.dot 2 3 1 1 c2 c3 c0 c1) + Go.Gfn.nz (Go.Gfn.dot 2 3 1 1 c3 c0 c1 c2)) := by
    show 0 + Go.Gfn.nz c0 + Go.Gfn.nz (Go.Gfn.dot 2 3 1 1 c0 c1 c2 c3) + Go.Gfn.nz c1 + Go.Gfn.nz (Go.Gfn.dot 2 3 1 1 c1 c2 c3 c0) + Go.Gfn.nz c2 + Go.Gfn.nz (Go.Gfn.dot 2 3 1 1 c2 c3 c0 c1) + Go.Gfn.nz c3 + Go.Gfn.nz (Go.Gfn.dot 2 3 1 1 c3 c0 c1 c2) = _
    omega
  rw [e] at hlt
  obtain ⟨rfl, rfl, rfl, rfl⟩ := Go.Gfn.five c0 c1 c2 c3 (by omega)
  exact pbool (teq_of (s := a4S) rfl)
end Go.Proofs.Ytehgaljcpbaplaa
