import Derived.Test.YtonlmamfggfanaaDoorDp
namespace Go.Proofs.YtonlmamfggfanaaDoor
open Go.Ty

/-! ## What is drawn in two parts -/
theorem fwDParts (k : Sh.T (.sl u8S)) (n : Sh.T (i64S)) (m : Sh.T (i64S)) (P : SV → Prop) : FW R4 Tryd.f13.ntmps (LTab.look []) Tryd.f13 (argsOf [.sl u8S, i64S, i64S] (k, n, m, ())) P =
 (  ifB (decide (n < 0)) (P (SV.av (AV.val Sh.bool true)))
    (ifB (decide (m < 0)) (P (SV.av (AV.val Sh.bool true)))
      (ifB (decide (2000 < n)) (P (SV.av (AV.val Sh.bool true)))
        (ifB (decide (2000 < m)) (P (SV.av (AV.val Sh.bool true)))
          (dmd ((List.length k).ble 140737488355328)
            (dmd ((List.length k).ble 140737488355328)
              (dmd ((List.length k).ble 140737488355328)
                (ifB (decide (fitsE n = 0))
                  (ifB (decide (fitsE m = 0))
                    (ifB (decide (fitsE (IntKind.i64.wrap (n + m)) = 0))
                      (ifB (decide (fitsE m = 0))
                        (ifB (decide (fitsE n = 0))
                          (dmd
                            ((outB (srcN k 0#64) (Int.toNat n) (Int.toNat n)).length.beq
                                (outB (srcN k 0#64) (Int.toNat n) (Int.toNat n)).length &&
                              (((outB (srcN k 0#64) (Int.toNat n) (Int.toNat n)).length +
                                      (List.take (outB (bytG (srcN k 0#64) n) (Int.toNat m) (Int.toNat m)).length
                                          (List.drop 0
                                            (outB (bytG (srcN k 0#64) n) (Int.toNat m) (Int.toNat m)))).length) *
                                    1).ble
                                140737488355328)
                            (ifB
                              (teq (Sh.int IntKind.u8).sl
                                (List.take
                                  ((outB (srcN k 0#64) (Int.toNat n) (Int.toNat n)).length +
                                    (List.take (outB (bytG (srcN k 0#64) n) (Int.toNat m) (Int.toNat m)).length
                                        (List.drop 0 (outB (bytG (srcN k 0#64) n) (Int.toNat m) (Int.toNat m)))).length)
                                  (List.drop 0
                                    ((outB (srcN k 0#64) (Int.toNat n) (Int.toNat n)).append
                                      (List.take (outB (bytG (srcN k 0#64) n) (Int.toNat m) (Int.toNat m)).length
                                        (List.drop 0 (outB (bytG (srcN k 0#64) n) (Int.toNat m) (Int.toNat m)))))))
                                (List.take
                                  (outB (srcN k 0#64) (IntKind.i64.wrap (n + m)).toNat
                                      (IntKind.i64.wrap (n + m)).toNat).length
                                  (List.drop 0
                                    (outB (srcN k 0#64) (IntKind.i64.wrap (n + m)).toNat
                                      (IntKind.i64.wrap (n + m)).toNat))))
                              (ifB
                                (teq (Sh.int IntKind.u8).sl
                                  (List.take (outB (bytG (srcN k 0#64) n) (Int.toNat m) (Int.toNat m)).length
                                    (List.drop 0 (outB (bytG (srcN k 0#64) n) (Int.toNat m) (Int.toNat m))))
                                  (List.take (outB (skpG (srcN k 0#64) n) (Int.toNat m) (Int.toNat m)).length
                                    (List.drop 0 (outB (skpG (srcN k 0#64) n) (Int.toNat m) (Int.toNat m)))))
                                (ifB
                                  (decide
                                    ((bytG (bytG (srcN k 0#64) n) m).2.1 = BitVec.ofInt 64 (IntKind.i64.wrap (n + m))))
                                  (ifB
                                    (decide
                                      ((bytG (srcN k 0#64) (IntKind.i64.wrap (n + m))).2.1 =
                                        (bytG (bytG (srcN k 0#64) n) m).2.1))
                                    (P
                                      (SV.av
                                        (AV.val Sh.bool
                                          (decide
                                            ((bytG (skpG (srcN k 0#64) n) m).2.1 =
                                              (bytG (bytG (srcN k 0#64) n) m).2.1)))))
                                    (P (SV.av (AV.val Sh.bool false))))
                                  (P (SV.av (AV.val Sh.bool false))))
                                (P (SV.av (AV.val Sh.bool false))))
                              (P (SV.av (AV.val Sh.bool false)))))
                          (P (SV.av (AV.val Sh.bool false))))
                        (ifB (decide (fitsE n = 0))
                          (ifB (decide (fitsE m = 0))
                            (dmd
                              ((outB (srcN k 0#64) (Int.toNat n) (Int.toNat n)).length.beq
                                  (outB (srcN k 0#64) (Int.toNat n) (Int.toNat n)).length &&
                                (((outB (srcN k 0#64) (Int.toNat n) (Int.toNat n)).length +
                                        (List.take (outB (bytG (srcN k 0#64) n) (Int.toNat m) (Int.toNat m)).length
                                            (List.drop 0
                                              (outB (bytG (srcN k 0#64) n) (Int.toNat m) (Int.toNat m)))).length) *
                                      1).ble
                                  140737488355328)
                              (ifB
                                (teq (Sh.int IntKind.u8).sl
                                  (List.take
                                    ((outB (srcN k 0#64) (Int.toNat n) (Int.toNat n)).length +
                                      (List.take (outB (bytG (srcN k 0#64) n) (Int.toNat m) (Int.toNat m)).length
                                          (List.drop 0 (outB (bytG (srcN k 0#64) n) (Int.toNat m) (Int.toNat m)))).length)
                                    (List.drop 0
                                      ((outB (srcN k 0#64) (Int.toNat n) (Int.toNat n)).append
                                        (List.take (outB (bytG (srcN k 0#64) n) (Int.toNat m) (Int.toNat m)).length
                                          (List.drop 0 (outB (bytG (srcN k 0#64) n) (Int.toNat m) (Int.toNat m)))))))
                                  (List.take
                                    (outB (srcN k 0#64) (IntKind.i64.wrap (n + m)).toNat
                                        (IntKind.i64.wrap (n + m)).toNat).length
                                    (List.drop 0
                                      (outB (srcN k 0#64) (IntKind.i64.wrap (n + m)).toNat
                                        (IntKind.i64.wrap (n + m)).toNat))))
                                (ifB
                                  (teq (Sh.int IntKind.u8).sl
                                    (List.take (outB (bytG (srcN k 0#64) n) (Int.toNat m) (Int.toNat m)).length
                                      (List.drop 0 (outB (bytG (srcN k 0#64) n) (Int.toNat m) (Int.toNat m))))
                                    [])
                                  (ifB
                                    (decide
                                      ((bytG (bytG (srcN k 0#64) n) m).2.1 = BitVec.ofInt 64 (IntKind.i64.wrap (n + m))))
                                    (ifB
                                      (decide
                                        ((bytG (srcN k 0#64) (IntKind.i64.wrap (n + m))).2.1 =
                                          (bytG (bytG (srcN k 0#64) n) m).2.1))
                                      (P
                                        (SV.av
                                          (AV.val Sh.bool
                                            (decide
                                              ((bytG (skpG (srcN k 0#64) n) m).2.1 =
                                                (bytG (bytG (srcN k 0#64) n) m).2.1)))))
                                      (P (SV.av (AV.val Sh.bool false))))
                                    (P (SV.av (AV.val Sh.bool false))))
                                  (P (SV.av (AV.val Sh.bool false))))
                                (P (SV.av (AV.val Sh.bool false)))))
                            (P (SV.av (AV.val Sh.bool false))))
                          (P (SV.av (AV.val Sh.bool false)))))
                      (ifB (decide (fitsE m = 0))
                        (ifB (decide (fitsE (IntKind.i64.wrap (n + m)) = 0))
                          (ifB (decide (fitsE n = 0))
                            (dmd
                              ((outB (srcN k 0#64) (Int.toNat n) (Int.toNat n)).length.beq
                                  (outB (srcN k 0#64) (Int.toNat n) (Int.toNat n)).length &&
                                (((outB (srcN k 0#64) (Int.toNat n) (Int.toNat n)).length +
                                        (List.take (outB (bytG (srcN k 0#64) n) (Int.toNat m) (Int.toNat m)).length
                                            (List.drop 0
                                              (outB (bytG (srcN k 0#64) n) (Int.toNat m) (Int.toNat m)))).length) *
                                      1).ble
                                  140737488355328)
                              (ifB
                                (teq (Sh.int IntKind.u8).sl
                                  (List.take
                                    ((outB (srcN k 0#64) (Int.toNat n) (Int.toNat n)).length +
                                      (List.take (outB (bytG (srcN k 0#64) n) (Int.toNat m) (Int.toNat m)).length
                                          (List.drop 0 (outB (bytG (srcN k 0#64) n) (Int.toNat m) (Int.toNat m)))).length)
                                    (List.drop 0
                                      ((outB (srcN k 0#64) (Int.toNat n) (Int.toNat n)).append
                                        (List.take (outB (bytG (srcN k 0#64) n) (Int.toNat m) (Int.toNat m)).length
                                          (List.drop 0 (outB (bytG (srcN k 0#64) n) (Int.toNat m) (Int.toNat m)))))))
                                  [])
                                (ifB
                                  (teq (Sh.int IntKind.u8).sl
                                    (List.take (outB (bytG (srcN k 0#64) n) (Int.toNat m) (Int.toNat m)).length
                                      (List.drop 0 (outB (bytG (srcN k 0#64) n) (Int.toNat m) (Int.toNat m))))
                                    (List.take (outB (skpG (srcN k 0#64) n) (Int.toNat m) (Int.toNat m)).length
                                      (List.drop 0 (outB (skpG (srcN k 0#64) n) (Int.toNat m) (Int.toNat m)))))
                                  (ifB
                                    (decide
                                      ((bytG (bytG (srcN k 0#64) n) m).2.1 = BitVec.ofInt 64 (IntKind.i64.wrap (n + m))))
                                    (ifB
                                      (decide
                                        ((bytG (srcN k 0#64) (IntKind.i64.wrap (n + m))).2.1 =
                                          (bytG (bytG (srcN k 0#64) n) m).2.1))
                                      (P
                                        (SV.av
                                          (AV.val Sh.bool
                                            (decide
                                              ((bytG (skpG (srcN k 0#64) n) m).2.1 =
                                                (bytG (bytG (srcN k 0#64) n) m).2.1)))))
                                      (P (SV.av (AV.val Sh.bool false))))
                                    (P (SV.av (AV.val Sh.bool false))))
                                  (P (SV.av (AV.val Sh.bool false))))
                                (P (SV.av (AV.val Sh.bool false)))))
                            (P (SV.av (AV.val Sh.bool false))))
                          (P (SV.av (AV.val Sh.bool false))))
                        (ifB (decide (fitsE (IntKind.i64.wrap (n + m)) = 0))
                          (ifB (decide (fitsE n = 0))
                            (ifB (decide (fitsE m = 0))
                              (dmd
                                ((outB (srcN k 0#64) (Int.toNat n) (Int.toNat n)).length.beq
                                    (outB (srcN k 0#64) (Int.toNat n) (Int.toNat n)).length &&
                                  (((outB (srcN k 0#64) (Int.toNat n) (Int.toNat n)).length +
                                          (List.take (outB (bytG (srcN k 0#64) n) (Int.toNat m) (Int.toNat m)).length
                                              (List.drop 0
                                                (outB (bytG (srcN k 0#64) n) (Int.toNat m) (Int.toNat m)))).length) *
                                        1).ble
                                    140737488355328)
                                (ifB
                                  (teq (Sh.int IntKind.u8).sl
                                    (List.take
                                      ((outB (srcN k 0#64) (Int.toNat n) (Int.toNat n)).length +
                                        (List.take (outB (bytG (srcN k 0#64) n) (Int.toNat m) (Int.toNat m)).length
                                            (List.drop 0
                                              (outB (bytG (srcN k 0#64) n) (Int.toNat m) (Int.toNat m)))).length)
                                      (List.drop 0
                                        ((outB (srcN k 0#64) (Int.toNat n) (Int.toNat n)).append
                                          (List.take (outB (bytG (srcN k 0#64) n) (Int.toNat m) (Int.toNat m)).length
                                            (List.drop 0 (outB (bytG (srcN k 0#64) n) (Int.toNat m) (Int.toNat m)))))))
                                    [])
                                  (ifB
                                    (teq (Sh.int IntKind.u8).sl
                                      (List.take (outB (bytG (srcN k 0#64) n) (Int.toNat m) (Int.toNat m)).length
                                        (List.drop 0 (outB (bytG (srcN k 0#64) n) (Int.toNat m) (Int.toNat m))))
                                      [])
                                    (ifB
                                      (decide
                                        ((bytG (bytG (srcN k 0#64) n) m).2.1 =
                                          BitVec.ofInt 64 (IntKind.i64.wrap (n + m))))
                                      (ifB
                                        (decide
                                          ((bytG (srcN k 0#64) (IntKind.i64.wrap (n + m))).2.1 =
                                            (bytG (bytG (srcN k 0#64) n) m).2.1))
                                        (P
                                          (SV.av
                                            (AV.val Sh.bool
                                              (decide
                                                ((bytG (skpG (srcN k 0#64) n) m).2.1 =
                                                  (bytG (bytG (srcN k 0#64) n) m).2.1)))))
                                        (P (SV.av (AV.val Sh.bool false))))
                                      (P (SV.av (AV.val Sh.bool false))))
                                    (P (SV.av (AV.val Sh.bool false))))
                                  (P (SV.av (AV.val Sh.bool false)))))
                              (P (SV.av (AV.val Sh.bool false))))
                            (P (SV.av (AV.val Sh.bool false))))
                          (P (SV.av (AV.val Sh.bool false))))))
                    (ifB (decide (fitsE (IntKind.i64.wrap (n + m)) = 0))
                      (ifB (decide (fitsE m = 0))
                        (ifB (decide (fitsE m = 0))
                          (ifB (decide (fitsE n = 0))
                            (dmd
                              ((outB (srcN k 0#64) (Int.toNat n) (Int.toNat n)).length.beq
                                  (outB (srcN k 0#64) (Int.toNat n) (Int.toNat n)).length &&
                                (((outB (srcN k 0#64) (Int.toNat n) (Int.toNat n)).length + 0) * 1).ble 140737488355328)
                              (ifB
                                (teq (Sh.int IntKind.u8).sl
                                  (List.take ((outB (srcN k 0#64) (Int.toNat n) (Int.toNat n)).length + 0)
                                    (List.drop 0 ((outB (srcN k 0#64) (Int.toNat n) (Int.toNat n)).append [])))
                                  (List.take
                                    (outB (srcN k 0#64) (IntKind.i64.wrap (n + m)).toNat
                                        (IntKind.i64.wrap (n + m)).toNat).length
                                    (List.drop 0
                                      (outB (srcN k 0#64) (IntKind.i64.wrap (n + m)).toNat
                                        (IntKind.i64.wrap (n + m)).toNat))))
                                (ifB
                                  (teq (Sh.int IntKind.u8).sl []
                                    (List.take (outB (skpG (srcN k 0#64) n) (Int.toNat m) (Int.toNat m)).length
                                      (List.drop 0 (outB (skpG (srcN k 0#64) n) (Int.toNat m) (Int.toNat m)))))
                                  (ifB
                                    (decide
                                      ((bytG (bytG (srcN k 0#64) n) m).2.1 = BitVec.ofInt 64 (IntKind.i64.wrap (n + m))))
                                    (ifB
                                      (decide
                                        ((bytG (srcN k 0#64) (IntKind.i64.wrap (n + m))).2.1 =
                                          (bytG (bytG (srcN k 0#64) n) m).2.1))
                                      (P
                                        (SV.av
                                          (AV.val Sh.bool
                                            (decide
                                              ((bytG (skpG (srcN k 0#64) n) m).2.1 =
                                                (bytG (bytG (srcN k 0#64) n) m).2.1)))))
                                      (P (SV.av (AV.val Sh.bool false))))
                                    (P (SV.av (AV.val Sh.bool false))))
                                  (P (SV.av (AV.val Sh.bool false))))
                                (P (SV.av (AV.val Sh.bool false)))))
                            (P (SV.av (AV.val Sh.bool false))))
                          (P (SV.av (AV.val Sh.bool false))))
                        (ifB (decide (fitsE m = 0))
                          (ifB (decide (fitsE n = 0))
                            (ifB (decide (fitsE m = 0))
                              (dmd
                                ((outB (srcN k 0#64) (Int.toNat n) (Int.toNat n)).length.beq
                                    (outB (srcN k 0#64) (Int.toNat n) (Int.toNat n)).length &&
                                  (((outB (srcN k 0#64) (Int.toNat n) (Int.toNat n)).length + 0) * 1).ble 140737488355328)
                                (ifB
                                  (teq (Sh.int IntKind.u8).sl
                                    (List.take ((outB (srcN k 0#64) (Int.toNat n) (Int.toNat n)).length + 0)
                                      (List.drop 0 ((outB (srcN k 0#64) (Int.toNat n) (Int.toNat n)).append [])))
                                    (List.take
                                      (outB (srcN k 0#64) (IntKind.i64.wrap (n + m)).toNat
                                          (IntKind.i64.wrap (n + m)).toNat).length
                                      (List.drop 0
                                        (outB (srcN k 0#64) (IntKind.i64.wrap (n + m)).toNat
                                          (IntKind.i64.wrap (n + m)).toNat))))
                                  (ifB true
                                    (ifB
                                      (decide
                                        ((bytG (bytG (srcN k 0#64) n) m).2.1 =
                                          BitVec.ofInt 64 (IntKind.i64.wrap (n + m))))
                                      (ifB
                                        (decide
                                          ((bytG (srcN k 0#64) (IntKind.i64.wrap (n + m))).2.1 =
                                            (bytG (bytG (srcN k 0#64) n) m).2.1))
                                        (P
                                          (SV.av
                                            (AV.val Sh.bool
                                              (decide
                                                ((bytG (skpG (srcN k 0#64) n) m).2.1 =
                                                  (bytG (bytG (srcN k 0#64) n) m).2.1)))))
                                        (P (SV.av (AV.val Sh.bool false))))
                                      (P (SV.av (AV.val Sh.bool false))))
                                    (P (SV.av (AV.val Sh.bool false))))
                                  (P (SV.av (AV.val Sh.bool false)))))
                              (P (SV.av (AV.val Sh.bool false))))
                            (P (SV.av (AV.val Sh.bool false))))
                          (P (SV.av (AV.val Sh.bool false)))))
                      (ifB (decide (fitsE m = 0))
                        (ifB (decide (fitsE m = 0))
                          (ifB (decide (fitsE (IntKind.i64.wrap (n + m)) = 0))
                            (ifB (decide (fitsE n = 0))
                              (dmd
                                ((outB (srcN k 0#64) (Int.toNat n) (Int.toNat n)).length.beq
                                    (outB (srcN k 0#64) (Int.toNat n) (Int.toNat n)).length &&
                                  (((outB (srcN k 0#64) (Int.toNat n) (Int.toNat n)).length + 0) * 1).ble 140737488355328)
                                (ifB
                                  (teq (Sh.int IntKind.u8).sl
                                    (List.take ((outB (srcN k 0#64) (Int.toNat n) (Int.toNat n)).length + 0)
                                      (List.drop 0 ((outB (srcN k 0#64) (Int.toNat n) (Int.toNat n)).append [])))
                                    [])
                                  (ifB
                                    (teq (Sh.int IntKind.u8).sl []
                                      (List.take (outB (skpG (srcN k 0#64) n) (Int.toNat m) (Int.toNat m)).length
                                        (List.drop 0 (outB (skpG (srcN k 0#64) n) (Int.toNat m) (Int.toNat m)))))
                                    (ifB
                                      (decide
                                        ((bytG (bytG (srcN k 0#64) n) m).2.1 =
                                          BitVec.ofInt 64 (IntKind.i64.wrap (n + m))))
                                      (ifB
                                        (decide
                                          ((bytG (srcN k 0#64) (IntKind.i64.wrap (n + m))).2.1 =
                                            (bytG (bytG (srcN k 0#64) n) m).2.1))
                                        (P
                                          (SV.av
                                            (AV.val Sh.bool
                                              (decide
                                                ((bytG (skpG (srcN k 0#64) n) m).2.1 =
                                                  (bytG (bytG (srcN k 0#64) n) m).2.1)))))
                                        (P (SV.av (AV.val Sh.bool false))))
                                      (P (SV.av (AV.val Sh.bool false))))
                                    (P (SV.av (AV.val Sh.bool false))))
                                  (P (SV.av (AV.val Sh.bool false)))))
                              (P (SV.av (AV.val Sh.bool false))))
                            (P (SV.av (AV.val Sh.bool false))))
                          (P (SV.av (AV.val Sh.bool false))))
                        (ifB (decide (fitsE m = 0))
                          (ifB (decide (fitsE (IntKind.i64.wrap (n + m)) = 0))
                            (ifB (decide (fitsE n = 0))
                              (ifB (decide (fitsE m = 0))
                                (dmd
                                  ((outB (srcN k 0#64) (Int.toNat n) (Int.toNat n)).length.beq
                                      (outB (srcN k 0#64) (Int.toNat n) (Int.toNat n)).length &&
                                    (((outB (srcN k 0#64) (Int.toNat n) (Int.toNat n)).length + 0) * 1).ble
                                      140737488355328)
                                  (ifB
                                    (teq (Sh.int IntKind.u8).sl
                                      (List.take ((outB (srcN k 0#64) (Int.toNat n) (Int.toNat n)).length + 0)
                                        (List.drop 0 ((outB (srcN k 0#64) (Int.toNat n) (Int.toNat n)).append [])))
                                      [])
                                    (ifB true
                                      (ifB
                                        (decide
                                          ((bytG (bytG (srcN k 0#64) n) m).2.1 =
                                            BitVec.ofInt 64 (IntKind.i64.wrap (n + m))))
                                        (ifB
                                          (decide
                                            ((bytG (srcN k 0#64) (IntKind.i64.wrap (n + m))).2.1 =
                                              (bytG (bytG (srcN k 0#64) n) m).2.1))
                                          (P
                                            (SV.av
                                              (AV.val Sh.bool
                                                (decide
                                                  ((bytG (skpG (srcN k 0#64) n) m).2.1 =
                                                    (bytG (bytG (srcN k 0#64) n) m).2.1)))))
                                          (P (SV.av (AV.val Sh.bool false))))
                                        (P (SV.av (AV.val Sh.bool false))))
                                      (P (SV.av (AV.val Sh.bool false))))
                                    (P (SV.av (AV.val Sh.bool false)))))
                                (P (SV.av (AV.val Sh.bool false))))
                              (P (SV.av (AV.val Sh.bool false))))
                            (P (SV.av (AV.val Sh.bool false))))
                          (P (SV.av (AV.val Sh.bool false)))))))
                  (ifB (decide (fitsE m = 0))
                    (ifB (decide (fitsE (IntKind.i64.wrap (n + m)) = 0))
                      (ifB (decide (fitsE m = 0))
                        (ifB (decide (fitsE n = 0))
                          (ifB (decide (fitsE n = 0))
                            (ifB
                              ((List.take (outB (bytG (srcN k 0#64) n) (Int.toNat m) (Int.toNat m)).length
                                      (List.drop 0 (outB (bytG (srcN k 0#64) n) (Int.toNat m) (Int.toNat m)))).length.beq
                                0)
                              (ifB
                                (teq (Sh.int IntKind.u8).sl []
                                  (List.take
                                    (outB (srcN k 0#64) (IntKind.i64.wrap (n + m)).toNat
                                        (IntKind.i64.wrap (n + m)).toNat).length
                                    (List.drop 0
                                      (outB (srcN k 0#64) (IntKind.i64.wrap (n + m)).toNat
                                        (IntKind.i64.wrap (n + m)).toNat))))
                                (ifB
                                  (teq (Sh.int IntKind.u8).sl
                                    (List.take (outB (bytG (srcN k 0#64) n) (Int.toNat m) (Int.toNat m)).length
                                      (List.drop 0 (outB (bytG (srcN k 0#64) n) (Int.toNat m) (Int.toNat m))))
                                    (List.take (outB (skpG (srcN k 0#64) n) (Int.toNat m) (Int.toNat m)).length
                                      (List.drop 0 (outB (skpG (srcN k 0#64) n) (Int.toNat m) (Int.toNat m)))))
                                  (ifB
                                    (decide
                                      ((bytG (bytG (srcN k 0#64) n) m).2.1 = BitVec.ofInt 64 (IntKind.i64.wrap (n + m))))
                                    (ifB
                                      (decide
                                        ((bytG (srcN k 0#64) (IntKind.i64.wrap (n + m))).2.1 =
                                          (bytG (bytG (srcN k 0#64) n) m).2.1))
                                      (P
                                        (SV.av
                                          (AV.val Sh.bool
                                            (decide
                                              ((bytG (skpG (srcN k 0#64) n) m).2.1 =
                                                (bytG (bytG (srcN k 0#64) n) m).2.1)))))
                                      (P (SV.av (AV.val Sh.bool false))))
                                    (P (SV.av (AV.val Sh.bool false))))
                                  (P (SV.av (AV.val Sh.bool false))))
                                (P (SV.av (AV.val Sh.bool false))))
                              (dmd
                                (((List.take (outB (bytG (srcN k 0#64) n) (Int.toNat m) (Int.toNat m)).length
                                          (List.drop 0
                                            (outB (bytG (srcN k 0#64) n) (Int.toNat m) (Int.toNat m)))).length *
                                      1).ble
                                  140737488355328)
                                (ifB
                                  (teq (Sh.int IntKind.u8).sl
                                    (List.take
                                      (List.take (outB (bytG (srcN k 0#64) n) (Int.toNat m) (Int.toNat m)).length
                                          (List.drop 0 (outB (bytG (srcN k 0#64) n) (Int.toNat m) (Int.toNat m)))).length
                                      (List.drop 0
                                        (List.take (outB (bytG (srcN k 0#64) n) (Int.toNat m) (Int.toNat m)).length
                                          (List.drop 0 (outB (bytG (srcN k 0#64) n) (Int.toNat m) (Int.toNat m))))))
                                    (List.take
                                      (outB (srcN k 0#64) (IntKind.i64.wrap (n + m)).toNat
                                          (IntKind.i64.wrap (n + m)).toNat).length
                                      (List.drop 0
                                        (outB (srcN k 0#64) (IntKind.i64.wrap (n + m)).toNat
                                          (IntKind.i64.wrap (n + m)).toNat))))
                                  (ifB
                                    (teq (Sh.int IntKind.u8).sl
                                      (List.take (outB (bytG (srcN k 0#64) n) (Int.toNat m) (Int.toNat m)).length
                                        (List.drop 0 (outB (bytG (srcN k 0#64) n) (Int.toNat m) (Int.toNat m))))
                                      (List.take (outB (skpG (srcN k 0#64) n) (Int.toNat m) (Int.toNat m)).length
                                        (List.drop 0 (outB (skpG (srcN k 0#64) n) (Int.toNat m) (Int.toNat m)))))
                                    (ifB
                                      (decide
                                        ((bytG (bytG (srcN k 0#64) n) m).2.1 =
                                          BitVec.ofInt 64 (IntKind.i64.wrap (n + m))))
                                      (ifB
                                        (decide
                                          ((bytG (srcN k 0#64) (IntKind.i64.wrap (n + m))).2.1 =
                                            (bytG (bytG (srcN k 0#64) n) m).2.1))
                                        (P
                                          (SV.av
                                            (AV.val Sh.bool
                                              (decide
                                                ((bytG (skpG (srcN k 0#64) n) m).2.1 =
                                                  (bytG (bytG (srcN k 0#64) n) m).2.1)))))
                                        (P (SV.av (AV.val Sh.bool false))))
                                      (P (SV.av (AV.val Sh.bool false))))
                                    (P (SV.av (AV.val Sh.bool false))))
                                  (P (SV.av (AV.val Sh.bool false))))))
                            (P (SV.av (AV.val Sh.bool false))))
                          (P (SV.av (AV.val Sh.bool false))))
                        (ifB (decide (fitsE n = 0))
                          (ifB (decide (fitsE n = 0))
                            (ifB (decide (fitsE m = 0))
                              (ifB
                                ((List.take (outB (bytG (srcN k 0#64) n) (Int.toNat m) (Int.toNat m)).length
                                        (List.drop 0
                                          (outB (bytG (srcN k 0#64) n) (Int.toNat m) (Int.toNat m)))).length.beq
                                  0)
                                (ifB
                                  (teq (Sh.int IntKind.u8).sl []
                                    (List.take
                                      (outB (srcN k 0#64) (IntKind.i64.wrap (n + m)).toNat
                                          (IntKind.i64.wrap (n + m)).toNat).length
                                      (List.drop 0
                                        (outB (srcN k 0#64) (IntKind.i64.wrap (n + m)).toNat
                                          (IntKind.i64.wrap (n + m)).toNat))))
                                  (ifB
                                    (teq (Sh.int IntKind.u8).sl
                                      (List.take (outB (bytG (srcN k 0#64) n) (Int.toNat m) (Int.toNat m)).length
                                        (List.drop 0 (outB (bytG (srcN k 0#64) n) (Int.toNat m) (Int.toNat m))))
                                      [])
                                    (ifB
                                      (decide
                                        ((bytG (bytG (srcN k 0#64) n) m).2.1 =
                                          BitVec.ofInt 64 (IntKind.i64.wrap (n + m))))
                                      (ifB
                                        (decide
                                          ((bytG (srcN k 0#64) (IntKind.i64.wrap (n + m))).2.1 =
                                            (bytG (bytG (srcN k 0#64) n) m).2.1))
                                        (P
                                          (SV.av
                                            (AV.val Sh.bool
                                              (decide
                                                ((bytG (skpG (srcN k 0#64) n) m).2.1 =
                                                  (bytG (bytG (srcN k 0#64) n) m).2.1)))))
                                        (P (SV.av (AV.val Sh.bool false))))
                                      (P (SV.av (AV.val Sh.bool false))))
                                    (P (SV.av (AV.val Sh.bool false))))
                                  (P (SV.av (AV.val Sh.bool false))))
                                (dmd
                                  (((List.take (outB (bytG (srcN k 0#64) n) (Int.toNat m) (Int.toNat m)).length
                                            (List.drop 0
                                              (outB (bytG (srcN k 0#64) n) (Int.toNat m) (Int.toNat m)))).length *
                                        1).ble
                                    140737488355328)
                                  (ifB
                                    (teq (Sh.int IntKind.u8).sl
                                      (List.take
                                        (List.take (outB (bytG (srcN k 0#64) n) (Int.toNat m) (Int.toNat m)).length
                                            (List.drop 0
                                              (outB (bytG (srcN k 0#64) n) (Int.toNat m) (Int.toNat m)))).length
                                        (List.drop 0
                                          (List.take (outB (bytG (srcN k 0#64) n) (Int.toNat m) (Int.toNat m)).length
                                            (List.drop 0 (outB (bytG (srcN k 0#64) n) (Int.toNat m) (Int.toNat m))))))
                                      (List.take
                                        (outB (srcN k 0#64) (IntKind.i64.wrap (n + m)).toNat
                                            (IntKind.i64.wrap (n + m)).toNat).length
                                        (List.drop 0
                                          (outB (srcN k 0#64) (IntKind.i64.wrap (n + m)).toNat
                                            (IntKind.i64.wrap (n + m)).toNat))))
                                    (ifB
                                      (teq (Sh.int IntKind.u8).sl
                                        (List.take (outB (bytG (srcN k 0#64) n) (Int.toNat m) (Int.toNat m)).length
                                          (List.drop 0 (outB (bytG (srcN k 0#64) n) (Int.toNat m) (Int.toNat m))))
                                        [])
                                      (ifB
                                        (decide
                                          ((bytG (bytG (srcN k 0#64) n) m).2.1 =
                                            BitVec.ofInt 64 (IntKind.i64.wrap (n + m))))
                                        (ifB
                                          (decide
                                            ((bytG (srcN k 0#64) (IntKind.i64.wrap (n + m))).2.1 =
                                              (bytG (bytG (srcN k 0#64) n) m).2.1))
                                          (P
                                            (SV.av
                                              (AV.val Sh.bool
                                                (decide
                                                  ((bytG (skpG (srcN k 0#64) n) m).2.1 =
                                                    (bytG (bytG (srcN k 0#64) n) m).2.1)))))
                                          (P (SV.av (AV.val Sh.bool false))))
                                        (P (SV.av (AV.val Sh.bool false))))
                                      (P (SV.av (AV.val Sh.bool false))))
                                    (P (SV.av (AV.val Sh.bool false))))))
                              (P (SV.av (AV.val Sh.bool false))))
                            (P (SV.av (AV.val Sh.bool false))))
                          (P (SV.av (AV.val Sh.bool false)))))
                      (ifB (decide (fitsE m = 0))
                        (ifB (decide (fitsE n = 0))
                          (ifB (decide (fitsE (IntKind.i64.wrap (n + m)) = 0))
                            (ifB (decide (fitsE n = 0))
                              (ifB
                                ((List.take (outB (bytG (srcN k 0#64) n) (Int.toNat m) (Int.toNat m)).length
                                        (List.drop 0
                                          (outB (bytG (srcN k 0#64) n) (Int.toNat m) (Int.toNat m)))).length.beq
                                  0)
                                (ifB true
                                  (ifB
                                    (teq (Sh.int IntKind.u8).sl
                                      (List.take (outB (bytG (srcN k 0#64) n) (Int.toNat m) (Int.toNat m)).length
                                        (List.drop 0 (outB (bytG (srcN k 0#64) n) (Int.toNat m) (Int.toNat m))))
                                      (List.take (outB (skpG (srcN k 0#64) n) (Int.toNat m) (Int.toNat m)).length
                                        (List.drop 0 (outB (skpG (srcN k 0#64) n) (Int.toNat m) (Int.toNat m)))))
                                    (ifB
                                      (decide
                                        ((bytG (bytG (srcN k 0#64) n) m).2.1 =
                                          BitVec.ofInt 64 (IntKind.i64.wrap (n + m))))
                                      (ifB
                                        (decide
                                          ((bytG (srcN k 0#64) (IntKind.i64.wrap (n + m))).2.1 =
                                            (bytG (bytG (srcN k 0#64) n) m).2.1))
                                        (P
                                          (SV.av
                                            (AV.val Sh.bool
                                              (decide
                                                ((bytG (skpG (srcN k 0#64) n) m).2.1 =
                                                  (bytG (bytG (srcN k 0#64) n) m).2.1)))))
                                        (P (SV.av (AV.val Sh.bool false))))
                                      (P (SV.av (AV.val Sh.bool false))))
                                    (P (SV.av (AV.val Sh.bool false))))
                                  (P (SV.av (AV.val Sh.bool false))))
                                (dmd
                                  (((List.take (outB (bytG (srcN k 0#64) n) (Int.toNat m) (Int.toNat m)).length
                                            (List.drop 0
                                              (outB (bytG (srcN k 0#64) n) (Int.toNat m) (Int.toNat m)))).length *
                                        1).ble
                                    140737488355328)
                                  (ifB
                                    (teq (Sh.int IntKind.u8).sl
                                      (List.take
                                        (List.take (outB (bytG (srcN k 0#64) n) (Int.toNat m) (Int.toNat m)).length
                                            (List.drop 0
                                              (outB (bytG (srcN k 0#64) n) (Int.toNat m) (Int.toNat m)))).length
                                        (List.drop 0
                                          (List.take (outB (bytG (srcN k 0#64) n) (Int.toNat m) (Int.toNat m)).length
                                            (List.drop 0 (outB (bytG (srcN k 0#64) n) (Int.toNat m) (Int.toNat m))))))
                                      [])
                                    (ifB
                                      (teq (Sh.int IntKind.u8).sl
                                        (List.take (outB (bytG (srcN k 0#64) n) (Int.toNat m) (Int.toNat m)).length
                                          (List.drop 0 (outB (bytG (srcN k 0#64) n) (Int.toNat m) (Int.toNat m))))
                                        (List.take (outB (skpG (srcN k 0#64) n) (Int.toNat m) (Int.toNat m)).length
                                          (List.drop 0 (outB (skpG (srcN k 0#64) n) (Int.toNat m) (Int.toNat m)))))
                                      (ifB
                                        (decide
                                          ((bytG (bytG (srcN k 0#64) n) m).2.1 =
                                            BitVec.ofInt 64 (IntKind.i64.wrap (n + m))))
                                        (ifB
                                          (decide
                                            ((bytG (srcN k 0#64) (IntKind.i64.wrap (n + m))).2.1 =
                                              (bytG (bytG (srcN k 0#64) n) m).2.1))
                                          (P
                                            (SV.av
                                              (AV.val Sh.bool
                                                (decide
                                                  ((bytG (skpG (srcN k 0#64) n) m).2.1 =
                                                    (bytG (bytG (srcN k 0#64) n) m).2.1)))))
                                          (P (SV.av (AV.val Sh.bool false))))
                                        (P (SV.av (AV.val Sh.bool false))))
                                      (P (SV.av (AV.val Sh.bool false))))
                                    (P (SV.av (AV.val Sh.bool false))))))
                              (P (SV.av (AV.val Sh.bool false))))
                            (P (SV.av (AV.val Sh.bool false))))
                          (P (SV.av (AV.val Sh.bool false))))
                        (ifB (decide (fitsE n = 0))
                          (ifB (decide (fitsE (IntKind.i64.wrap (n + m)) = 0))
                            (ifB (decide (fitsE n = 0))
                              (ifB (decide (fitsE m = 0))
                                (ifB
                                  ((List.take (outB (bytG (srcN k 0#64) n) (Int.toNat m) (Int.toNat m)).length
                                          (List.drop 0
                                            (outB (bytG (srcN k 0#64) n) (Int.toNat m) (Int.toNat m)))).length.beq
                                    0)
                                  (ifB true
                                    (ifB
                                      (teq (Sh.int IntKind.u8).sl
                                        (List.take (outB (bytG (srcN k 0#64) n) (Int.toNat m) (Int.toNat m)).length
                                          (List.drop 0 (outB (bytG (srcN k 0#64) n) (Int.toNat m) (Int.toNat m))))
                                        [])
                                      (ifB
                                        (decide
                                          ((bytG (bytG (srcN k 0#64) n) m).2.1 =
                                            BitVec.ofInt 64 (IntKind.i64.wrap (n + m))))
                                        (ifB
                                          (decide
                                            ((bytG (srcN k 0#64) (IntKind.i64.wrap (n + m))).2.1 =
                                              (bytG (bytG (srcN k 0#64) n) m).2.1))
                                          (P
                                            (SV.av
                                              (AV.val Sh.bool
                                                (decide
                                                  ((bytG (skpG (srcN k 0#64) n) m).2.1 =
                                                    (bytG (bytG (srcN k 0#64) n) m).2.1)))))
                                          (P (SV.av (AV.val Sh.bool false))))
                                        (P (SV.av (AV.val Sh.bool false))))
                                      (P (SV.av (AV.val Sh.bool false))))
                                    (P (SV.av (AV.val Sh.bool false))))
                                  (dmd
                                    (((List.take (outB (bytG (srcN k 0#64) n) (Int.toNat m) (Int.toNat m)).length
                                              (List.drop 0
                                                (outB (bytG (srcN k 0#64) n) (Int.toNat m) (Int.toNat m)))).length *
                                          1).ble
                                      140737488355328)
                                    (ifB
                                      (teq (Sh.int IntKind.u8).sl
                                        (List.take
                                          (List.take (outB (bytG (srcN k 0#64) n) (Int.toNat m) (Int.toNat m)).length
                                              (List.drop 0
                                                (outB (bytG (srcN k 0#64) n) (Int.toNat m) (Int.toNat m)))).length
                                          (List.drop 0
                                            (List.take (outB (bytG (srcN k 0#64) n) (Int.toNat m) (Int.toNat m)).length
                                              (List.drop 0 (outB (bytG (srcN k 0#64) n) (Int.toNat m) (Int.toNat m))))))
                                        [])
                                      (ifB
                                        (teq (Sh.int IntKind.u8).sl
                                          (List.take (outB (bytG (srcN k 0#64) n) (Int.toNat m) (Int.toNat m)).length
                                            (List.drop 0 (outB (bytG (srcN k 0#64) n) (Int.toNat m) (Int.toNat m))))
                                          [])
                                        (ifB
                                          (decide
                                            ((bytG (bytG (srcN k 0#64) n) m).2.1 =
                                              BitVec.ofInt 64 (IntKind.i64.wrap (n + m))))
                                          (ifB
                                            (decide
                                              ((bytG (srcN k 0#64) (IntKind.i64.wrap (n + m))).2.1 =
                                                (bytG (bytG (srcN k 0#64) n) m).2.1))
                                            (P
                                              (SV.av
                                                (AV.val Sh.bool
                                                  (decide
                                                    ((bytG (skpG (srcN k 0#64) n) m).2.1 =
                                                      (bytG (bytG (srcN k 0#64) n) m).2.1)))))
                                            (P (SV.av (AV.val Sh.bool false))))
                                          (P (SV.av (AV.val Sh.bool false))))
                                        (P (SV.av (AV.val Sh.bool false))))
                                      (P (SV.av (AV.val Sh.bool false))))))
                                (P (SV.av (AV.val Sh.bool false))))
                              (P (SV.av (AV.val Sh.bool false))))
                            (P (SV.av (AV.val Sh.bool false))))
                          (P (SV.av (AV.val Sh.bool false))))))
                    (ifB (decide (fitsE (IntKind.i64.wrap (n + m)) = 0))
                      (ifB (decide (fitsE m = 0))
                        (ifB (decide (fitsE n = 0))
                          (ifB (decide (fitsE m = 0))
                            (ifB (decide (fitsE n = 0))
                              (ifB
                                (teq (Sh.int IntKind.u8).sl []
                                  (List.take
                                    (outB (srcN k 0#64) (IntKind.i64.wrap (n + m)).toNat
                                        (IntKind.i64.wrap (n + m)).toNat).length
                                    (List.drop 0
                                      (outB (srcN k 0#64) (IntKind.i64.wrap (n + m)).toNat
                                        (IntKind.i64.wrap (n + m)).toNat))))
                                (ifB
                                  (teq (Sh.int IntKind.u8).sl []
                                    (List.take (outB (skpG (srcN k 0#64) n) (Int.toNat m) (Int.toNat m)).length
                                      (List.drop 0 (outB (skpG (srcN k 0#64) n) (Int.toNat m) (Int.toNat m)))))
                                  (ifB
                                    (decide
                                      ((bytG (bytG (srcN k 0#64) n) m).2.1 = BitVec.ofInt 64 (IntKind.i64.wrap (n + m))))
                                    (ifB
                                      (decide
                                        ((bytG (srcN k 0#64) (IntKind.i64.wrap (n + m))).2.1 =
                                          (bytG (bytG (srcN k 0#64) n) m).2.1))
                                      (P
                                        (SV.av
                                          (AV.val Sh.bool
                                            (decide
                                              ((bytG (skpG (srcN k 0#64) n) m).2.1 =
                                                (bytG (bytG (srcN k 0#64) n) m).2.1)))))
                                      (P (SV.av (AV.val Sh.bool false))))
                                    (P (SV.av (AV.val Sh.bool false))))
                                  (P (SV.av (AV.val Sh.bool false))))
                                (P (SV.av (AV.val Sh.bool false))))
                              (P (SV.av (AV.val Sh.bool false))))
                            (P (SV.av (AV.val Sh.bool false))))
                          (P (SV.av (AV.val Sh.bool false))))
                        (ifB (decide (fitsE n = 0))
                          (ifB (decide (fitsE m = 0))
                            (ifB (decide (fitsE n = 0))
                              (ifB (decide (fitsE m = 0))
                                (ifB
                                  (teq (Sh.int IntKind.u8).sl []
                                    (List.take
                                      (outB (srcN k 0#64) (IntKind.i64.wrap (n + m)).toNat
                                          (IntKind.i64.wrap (n + m)).toNat).length
                                      (List.drop 0
                                        (outB (srcN k 0#64) (IntKind.i64.wrap (n + m)).toNat
                                          (IntKind.i64.wrap (n + m)).toNat))))
                                  (ifB true
                                    (ifB
                                      (decide
                                        ((bytG (bytG (srcN k 0#64) n) m).2.1 =
                                          BitVec.ofInt 64 (IntKind.i64.wrap (n + m))))
                                      (ifB
                                        (decide
                                          ((bytG (srcN k 0#64) (IntKind.i64.wrap (n + m))).2.1 =
                                            (bytG (bytG (srcN k 0#64) n) m).2.1))
                                        (P
                                          (SV.av
                                            (AV.val Sh.bool
                                              (decide
                                                ((bytG (skpG (srcN k 0#64) n) m).2.1 =
                                                  (bytG (bytG (srcN k 0#64) n) m).2.1)))))
                                        (P (SV.av (AV.val Sh.bool false))))
                                      (P (SV.av (AV.val Sh.bool false))))
                                    (P (SV.av (AV.val Sh.bool false))))
                                  (P (SV.av (AV.val Sh.bool false))))
                                (P (SV.av (AV.val Sh.bool false))))
                              (P (SV.av (AV.val Sh.bool false))))
                            (P (SV.av (AV.val Sh.bool false))))
                          (P (SV.av (AV.val Sh.bool false)))))
                      (ifB (decide (fitsE m = 0))
                        (ifB (decide (fitsE n = 0))
                          (ifB (decide (fitsE m = 0))
                            (ifB (decide (fitsE (IntKind.i64.wrap (n + m)) = 0))
                              (ifB (decide (fitsE n = 0))
                                (ifB true
                                  (ifB
                                    (teq (Sh.int IntKind.u8).sl []
                                      (List.take (outB (skpG (srcN k 0#64) n) (Int.toNat m) (Int.toNat m)).length
                                        (List.drop 0 (outB (skpG (srcN k 0#64) n) (Int.toNat m) (Int.toNat m)))))
                                    (ifB
                                      (decide
                                        ((bytG (bytG (srcN k 0#64) n) m).2.1 =
                                          BitVec.ofInt 64 (IntKind.i64.wrap (n + m))))
                                      (ifB
                                        (decide
                                          ((bytG (srcN k 0#64) (IntKind.i64.wrap (n + m))).2.1 =
                                            (bytG (bytG (srcN k 0#64) n) m).2.1))
                                        (P
                                          (SV.av
                                            (AV.val Sh.bool
                                              (decide
                                                ((bytG (skpG (srcN k 0#64) n) m).2.1 =
                                                  (bytG (bytG (srcN k 0#64) n) m).2.1)))))
                                        (P (SV.av (AV.val Sh.bool false))))
                                      (P (SV.av (AV.val Sh.bool false))))
                                    (P (SV.av (AV.val Sh.bool false))))
                                  (P (SV.av (AV.val Sh.bool false))))
                                (P (SV.av (AV.val Sh.bool false))))
                              (P (SV.av (AV.val Sh.bool false))))
                            (P (SV.av (AV.val Sh.bool false))))
                          (P (SV.av (AV.val Sh.bool false))))
                        (ifB (decide (fitsE n = 0))
                          (ifB (decide (fitsE m = 0))
                            (ifB (decide (fitsE (IntKind.i64.wrap (n + m)) = 0))
                              (ifB (decide (fitsE n = 0))
                                (ifB (decide (fitsE m = 0))
                                  (ifB true
                                    (ifB true
                                      (ifB
                                        (decide
                                          ((bytG (bytG (srcN k 0#64) n) m).2.1 =
                                            BitVec.ofInt 64 (IntKind.i64.wrap (n + m))))
                                        (ifB
                                          (decide
                                            ((bytG (srcN k 0#64) (IntKind.i64.wrap (n + m))).2.1 =
                                              (bytG (bytG (srcN k 0#64) n) m).2.1))
                                          (P
                                            (SV.av
                                              (AV.val Sh.bool
                                                (decide
                                                  ((bytG (skpG (srcN k 0#64) n) m).2.1 =
                                                    (bytG (bytG (srcN k 0#64) n) m).2.1)))))
                                          (P (SV.av (AV.val Sh.bool false))))
                                        (P (SV.av (AV.val Sh.bool false))))
                                      (P (SV.av (AV.val Sh.bool false))))
                                    (P (SV.av (AV.val Sh.bool false))))
                                  (P (SV.av (AV.val Sh.bool false))))
                                (P (SV.av (AV.val Sh.bool false))))
                              (P (SV.av (AV.val Sh.bool false))))
                            (P (SV.av (AV.val Sh.bool false))))
                          (P (SV.av (AV.val Sh.bool false))))))))))))))) := by kernel_rfl
theorem run_1 (x : Src) : ∀ i, (runG x i).1 = x.1
  | 0 => rfl
  | i + 1 => run_1 x i
theorem run_2 (x : Src) : ∀ i, (runG x i).2.1 = x.2.1 + BitVec.ofNat 64 i
  | 0 => (BitVec.add_zero _).symm
  | i + 1 => by
    show (runG x i).2.1 + 1#64 = _
    rw [run_2 x i, BitVec.ofNat_add, BitVec.add_assoc]
theorem run_add (x : Src) (n : Nat) : ∀ i, runG (runG x n) i = runG x (n + i)
  | 0 => rfl
  | i + 1 => by
    show nextG (runG (runG x n) i) = nextG (runG x (n + i))
    rw [run_add x n i]
set_option maxRecDepth 20000 in
theorem same_blk {p : BitVec 64} (h : ¬ (p + 1#64) % 32#64 = 0#64) : (p + 1#64) / 32#64 = p / 32#64 := by
  have h : ¬ ((p + 1#64) % 32#64).toNat = 0 := fun e => h (BitVec.eq_of_toNat_eq e)
  rw [BitVec.toNat_umod, BitVec.toNat_add] at h
  have h : ¬ (p.toNat + 1) % 2 ^ 64 % 32 = 0 := h
  apply BitVec.eq_of_toNat_eq
  rw [BitVec.toNat_udiv, BitVec.toNat_udiv, BitVec.toNat_add]
  show (p.toNat + 1) % 2 ^ 64 / 32 = p.toNat / 32
  have := p.isLt
  omega
set_option maxRecDepth 20000 in
theorem good_run (m : MS) (p : BitVec 64) (c : List (BitVec 8)) : ∀ i, curB (runG (m, p, c, false, ()) i) = blkN m (runG (m, p, c, false, ()) i).2.1
  | 0 => by
    show curB (m, p, c, false, ()) = blkN m p
    unfold curB
    by_cases h : p % 32#64 = 0#64
    · exact cond_pos (decTr h)
    · exact (cond_neg (decFa h)).trans (cond_pos rfl)
  | i + 1 => by
    have ih := good_run m p c i
    generalize hx : runG (m, p, c, false, ()) i = x at ih
    have h1 : x.1 = m := by rw [← hx]; exact run_1 _ i
    have e : runG (m, p, c, false, ()) (i + 1) = nextG x := by rw [← hx]; rfl
    rw [e]
    have e1 : (nextG x).1 = m := h1
    have e2 : (nextG x).2.1 = x.2.1 + 1#64 := rfl
    have e3 : (nextG x).2.2.2.1 = true := rfl
    have e4 : (nextG x).2.2.1 = curB x := rfl
    generalize nextG x = y at *
    unfold curB
    rw [e1, e2, e3, e4]
    by_cases h : (x.2.1 + 1#64) % 32#64 = 0#64
    · exact cond_pos (decTr h)
    · refine (cond_neg (decFa h)).trans ((cond_neg rfl).trans ?_)
      rw [ih]
      unfold blkN
      rw [same_blk h]
theorem out_rng (x : Src) (n : Nat) : ∀ i, i ≤ n → outB x n i = (List.range i).map (fun k => nextB (runG x k)) ++ List.replicate (n - i) 0#8
  | 0, _ => rfl
  | i + 1, hi => by
    show (outB x n i).set i (nextB (runG x i)) = _
    rw [out_rng x n i (by omega)]
    have hl : ((List.range i).map (fun k => nextB (runG x k))).length = i := by rw [List.length_map, List.length_range]
    rw [List.set_append_right _ _ (by omega), hl, Nat.sub_self, show n - i = (n - (i + 1)) + 1 by omega, List.replicate_succ, List.set_cons_zero, List.range_succ, List.map_append, List.append_assoc]
    rfl
theorem out_all (x : Src) (n : Nat) : outB x n n = (List.range n).map (fun k => nextB (runG x k)) := by
  rw [out_rng x n n (Nat.le_refl n), Nat.sub_self]; exact List.append_nil _
set_option maxRecDepth 20000 in
theorem out_parts (x : Src) (n m : Nat) : outB x n n ++ outB (runG x n) m m = outB x (n + m) (n + m) := by
  rw [out_all, out_all, out_all, List.range_add, List.map_append, List.map_map]
  congr 1
  exact List.map_congr_left fun i _ => by rw [run_add]; rfl
set_option maxRecDepth 20000 in
theorem out_skip (m : MS) (p : BitVec 64) (c : List (BitVec 8)) (n : Nat) (k : Nat) : outB (runG (m, p, c, false, ()) n) k k = outB (m, p + BitVec.ofNat 64 n, c, false, ()) k k := by
  rw [out_all, out_all]
  refine List.map_congr_left fun i _ => ?_
  have e : (runG (m, p, c, false, ()) (n + i)).2.1 = (runG (m, p + BitVec.ofNat 64 n, c, false, ()) i).2.1 := by
    rw [run_2, run_2]
    show p + BitVec.ofNat 64 (n + i) = p + BitVec.ofNat 64 n + BitVec.ofNat 64 i
    rw [BitVec.ofNat_add, BitVec.add_assoc]
  unfold nextB
  rw [run_add, good_run m p c (n + i), good_run m (p + BitVec.ofNat 64 n) c i, e]
set_option maxRecDepth 20000 in
theorem dparts_fw (k : List (BitVec 8)) (n m : Int) (hk : k.length ≤ 140737488355328) : FW R4 Tryd.f13.ntmps (LTab.look []) Tryd.f13 (argsOf [.sl u8S, i64S, i64S] (k, n, m, ())) (fun r => r = .av (.val .bool true)) := by
  have hk := bleT hk
  rw [fwDParts]
  refine ifB_dec (fun _ => rfl) (fun a => ifB_dec (fun _ => rfl) (fun b => ifB_dec (fun _ => rfl) (fun c => ifB_dec (fun _ => rfl) (fun d => dmd_of hk (dmd_of hk (dmd_of hk ?_))))))
  have a : ¬ n < (0 : Int) := a
  have b : ¬ m < (0 : Int) := b
  have c : ¬ (2000 : Int) < n := c
  have d : ¬ (2000 : Int) < m := d
  obtain ⟨n, rfl⟩ := Int.eq_ofNat_of_zero_le (show 0 ≤ n by omega)
  obtain ⟨m, rfl⟩ := Int.eq_ofNat_of_zero_le (show 0 ≤ m by omega)
  have fit : ∀ j : Nat, j ≤ 4096 → fitsE ((j : Nat) : Int) = 0 := fun j hj => by
    unfold fitsE
    rw [cond_neg (decFa (by omega)), cond_neg (decFa (by omega))]
  have hw : IntKind.i64.wrap (((n : Nat) : Int) + ((m : Nat) : Int)) = ((n + m : Nat) : Int) := i64w (by omega) (by omega)
  have f1 := fit n (by omega)
  have f2 := fit m (by omega)
  have f3 := fit (n + m) (by omega)
  rw [hw]
  refine ifB_dec (fun _ => ifB_dec (fun _ => ifB_dec (fun _ => ifB_dec (fun _ => ifB_dec (fun _ => ?_) (fun h => absurd f1 h)) (fun h => absurd f2 h)) (fun h => absurd f3 h)) (fun h => absurd f2 h)) (fun h => absurd f1 h)
  have g1 : ∀ x : Src, bytG x ((n : Nat) : Int) = runG x n := fun x => by unfold bytG; exact cond_pos (decTr f1)
  have g2 : ∀ x : Src, bytG x ((m : Nat) : Int) = runG x m := fun x => by unfold bytG; exact cond_pos (decTr f2)
  have g3 : ∀ x : Src, bytG x ((n + m : Nat) : Int) = runG x (n + m) := fun x => by unfold bytG; exact cond_pos (decTr f3)
  have g4 : skpG (srcN k 0#64) ((n : Nat) : Int) = (newM k, 0#64 + BitVec.ofNat 64 n, List.replicate 32 0#8, false, ()) := by
    unfold skpG
    refine (cond_pos (decTr f1)).trans ?_
    show (newM k, 0#64 + BitVec.ofInt 64 ((n : Nat) : Int), List.replicate 32 0#8, false, ()) = _
    rw [BitVec.ofInt_natCast]
  have g5 : outB (runG (srcN k 0#64) n) m m = outB (newM k, 0#64 + BitVec.ofNat 64 n, List.replicate 32 0#8, false, ()) m m := out_skip (newM k) 0#64 _ n m
  rw [g1, g2, g2, g3, g4, Int.toNat_natCast, Int.toNat_natCast, Int.toNat_natCast, BitVec.ofInt_natCast, ← g5]
  have tk : ∀ (x : Src) (j : Nat), List.take (outB x j j).length (List.drop 0 (outB x j j)) = outB x j j := fun x j => drop0_take _ _ rfl
  have ta : List.take ((outB (srcN k 0#64) n n).length + (outB (runG (srcN k 0#64) n) m m).length) (List.drop 0 ((outB (srcN k 0#64) n n).append (outB (runG (srcN k 0#64) n) m m))) = outB (srcN k 0#64) n n ++ outB (runG (srcN k 0#64) n) m m := drop0_take (outB (srcN k 0#64) n n ++ outB (runG (srcN k 0#64) n) m m) _ List.length_append.symm
  rw [tk, tk, ta, outB_len, outB_len, out_parts, teq_self (s := .sl u8S), teq_self (s := .sl u8S)]
  have p1 : (runG (runG (srcN k 0#64) n) m).2.1 = BitVec.ofNat 64 (n + m) := by
    rw [run_add, run_2]; exact BitVec.zero_add _
  have p2 : (runG (srcN k 0#64) (n + m)).2.1 = (runG (runG (srcN k 0#64) n) m).2.1 := by rw [run_add]
  have p3 : (runG (newM k, 0#64 + BitVec.ofNat 64 n, List.replicate 32 0#8, false, ()) m).2.1 = (runG (runG (srcN k 0#64) n) m).2.1 := by
    rw [p1, run_2]
    show 0#64 + BitVec.ofNat 64 n + BitVec.ofNat 64 m = _
    rw [BitVec.zero_add, BitVec.ofNat_add]
  exact dmd_of (andT (beqn _) (bleT (by omega))) (ifB_dec (fun _ => ifB_dec (fun _ => pbool (decTr p3)) (fun h => absurd p2 h)) (fun h => absurd p1 h))
theorem walkDrawParts (xs : HL [.sl u8S, i64S, i64S]) (h : okHL [.sl u8S, i64S, i64S] xs) : PC (bx Tryd.prog GL) 13 (argsOf [.sl u8S, i64S, i64S] xs) (.av (.val .bool true)) := by
  have h1 : List.length xs.1 * 1 ≤ 140737488351232 := h.1.1
  exact PC_of_fw (t := []) shA_ok R4_ok mixed Tryd.func13 (c := Tryd.f13.body.getD .skip) rfl (by kernel_rfl) (by kernel_rfl) loopsNil rfl (dparts_fw xs.1 xs.2.1 xs.2.2.1 (by omega))
end Go.Proofs.YtonlmamfggfanaaDoor
