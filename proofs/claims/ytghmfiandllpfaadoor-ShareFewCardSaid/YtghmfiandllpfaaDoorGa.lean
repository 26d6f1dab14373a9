import Derived.Test.YtghmfiandllpfaaDoorB0
import Derived.Test.YtghmfiandllpfaaDoorFh
namespace Go.Proofs.YtghmfiandllpfaaDoor.Lb
open Go.Ty

/-! ## Bytes and numbers -/
def valB : List (BitVec 8) → Nat
  | [] => 0
  | x :: l => x.toNat + 256 * valB l
def bytesB : Nat → Nat → List (BitVec 8)
  | 0, _ => []
  | n + 1, N => BitVec.ofNat 8 N :: bytesB n (N / 256)
abbrev b32S : Sh := .arr 32 u8S
theorem valB_lt : ∀ l : List (BitVec 8), valB l < 256 ^ l.length
  | [] => Nat.one_pos
  | x :: l => by
    have := valB_lt l
    have hx := x.isLt
    rw [List.length_cons, Nat.pow_succ]
    unfold valB
    omega
theorem bytesB_len : ∀ n N, (bytesB n N).length = n
  | 0, _ => rfl
  | n + 1, N => by unfold bytesB; rw [List.length_cons, bytesB_len n]
theorem valB_bytes : ∀ n N, N < 256 ^ n → valB (bytesB n N) = N
  | 0, N, h => by unfold bytesB valB; omega
  | n + 1, N, h => by
    unfold bytesB valB
    rw [valB_bytes n (N / 256) (by rw [Nat.pow_succ] at h; omega), BitVec.toNat_ofNat]
    omega
theorem bytes_valB : ∀ l : List (BitVec 8), bytesB l.length (valB l) = l
  | [] => rfl
  | x :: l => by
    have hx := x.isLt
    rw [List.length_cons]
    unfold bytesB valB
    rw [show (x.toNat + 256 * valB l) / 256 = valB l by omega, bytes_valB l]
    congr 1
    refine BitVec.eq_of_toNat_eq ?_
    rw [BitVec.toNat_ofNat]; omega
theorem of32 {xs : List (BitVec 8)} (h : xs.length = 32) : ∃ b0 b1 b2 b3 b4 b5 b6 b7 b8 b9 b10 b11 b12 b13 b14 b15 b16 b17 b18 b19 b20 b21 b22 b23 b24 b25 b26 b27 b28 b29 b30 b31, xs = [b0, b1, b2, b3, b4, b5, b6, b7, b8, b9, b10, b11, b12, b13, b14, b15, b16, b17, b18, b19, b20, b21, b22, b23, b24, b25, b26, b27, b28, b29, b30, b31] := by
  match xs, h with
  | [b0, b1, b2, b3, b4, b5, b6, b7, b8, b9, b10, b11, b12, b13, b14, b15, b16, b17, b18, b19, b20, b21, b22, b23, b24, b25, b26, b27, b28, b29, b30, b31], _ => exact ⟨b0, b1, b2, b3, b4, b5, b6, b7, b8, b9, b10, b11, b12, b13, b14, b15, b16, b17, b18, b19, b20, b21, b22, b23, b24, b25, b26, b27, b28, b29, b30, b31, rfl⟩
noncomputable def ofF : HL [b32S] → SV := fun xs => .av (.val numS (wordsN 4 (valB xs.1)))
def bytesF : HL [numS] → SV := fun xs => .av (.val b32S (bytesB 32 (valN xs.1)))
theorem chunk_val (b0 b1 b2 b3 b4 b5 b6 b7 : BitVec 8) (l : List (BitVec 8)) : valB (b0 :: b1 :: b2 :: b3 :: b4 :: b5 :: b6 :: b7 :: l) = wd (toI .u8 b0) (toI .u8 b1) (toI .u8 b2) (toI .u8 b3) (toI .u8 b4) (toI .u8 b5) (toI .u8 b6) (toI .u8 b7) + 2 ^ 64 * valB l := by
  show _ = wd (b0.toNat : Int) (b1.toNat : Int) (b2.toNat : Int) (b3.toNat : Int) (b4.toNat : Int) (b5.toNat : Int) (b6.toNat : Int) (b7.toNat : Int) + _
  unfold wd
  simp only [valB, Int.toNat_natCast]
  omega
theorem wd_lt (b0 b1 b2 b3 b4 b5 b6 b7 : BitVec 8) : wd (toI .u8 b0) (toI .u8 b1) (toI .u8 b2) (toI .u8 b3) (toI .u8 b4) (toI .u8 b5) (toI .u8 b6) (toI .u8 b7) < 2 ^ 64 := by
  show wd (b0.toNat : Int) (b1.toNat : Int) (b2.toNat : Int) (b3.toNat : Int) (b4.toNat : Int) (b5.toNat : Int) (b6.toNat : Int) (b7.toNat : Int) < _
  unfold wd
  simp only [Int.toNat_natCast]
  have := b0.isLt; have := b1.isLt; have := b2.isLt; have := b3.isLt; have := b4.isLt; have := b5.isLt; have := b6.isLt; have := b7.isLt
  omega
theorem numV_words {w0 w1 w2 w3 : Nat} (h0 : w0 < 2 ^ 64) (h1 : w1 < 2 ^ 64) (h2 : w2 < 2 ^ 64) (h3 : w3 < 2 ^ 64) : Value.agg ⟨[u64 w0, u64 w1, u64 w2, u64 w3]⟩ = numV (w0 + 2 ^ 64 * (w1 + 2 ^ 64 * (w2 + 2 ^ 64 * (w3 + 2 ^ 64 * 0)))) := by
  have e0 : (w0 + 2 ^ 64 * (w1 + 2 ^ 64 * (w2 + 2 ^ 64 * (w3 + 2 ^ 64 * 0)))) / 2 ^ (64 * 0) % 2 ^ 64 = w0 := by omega
  have e1 : (w0 + 2 ^ 64 * (w1 + 2 ^ 64 * (w2 + 2 ^ 64 * (w3 + 2 ^ 64 * 0)))) / 2 ^ (64 * 1) % 2 ^ 64 = w1 := by omega
  have e2 : (w0 + 2 ^ 64 * (w1 + 2 ^ 64 * (w2 + 2 ^ 64 * (w3 + 2 ^ 64 * 0)))) / 2 ^ (64 * 2) % 2 ^ 64 = w2 := by omega
  have e3 : (w0 + 2 ^ 64 * (w1 + 2 ^ 64 * (w2 + 2 ^ 64 * (w3 + 2 ^ 64 * 0)))) / 2 ^ (64 * 3) % 2 ^ 64 = w3 := by omega
  unfold numV w64
  simp only [e0, e1, e2, e3]
theorem of_ok : COK Tryd.prog GL 33 (conT [b32S] ofF) := by
  refine conT_ok (fun xs hw => ?_) (fun _ => rfl)
  obtain ⟨x, ⟨⟩⟩ := xs
  obtain ⟨b0, b1, b2, b3, b4, b5, b6, b7, b8, b9, b10, b11, b12, b13, b14, b15, b16, b17, b18, b19, b20, b21, b22, b23, b24, b25, b26, b27, b28, b29, b30, b31, rfl⟩ := of32 hw.1.1
  refine PC_of_wcon of_con rfl ⟨rfl, num_wf _⟩ rfl ?_
  show some (Value.agg ⟨[u64 (wd (toI .u8 b0) (toI .u8 b1) (toI .u8 b2) (toI .u8 b3) (toI .u8 b4) (toI .u8 b5) (toI .u8 b6) (toI .u8 b7)), u64 (wd (toI .u8 b8) (toI .u8 b9) (toI .u8 b10) (toI .u8 b11) (toI .u8 b12) (toI .u8 b13) (toI .u8 b14) (toI .u8 b15)), u64 (wd (toI .u8 b16) (toI .u8 b17) (toI .u8 b18) (toI .u8 b19) (toI .u8 b20) (toI .u8 b21) (toI .u8 b22) (toI .u8 b23)), u64 (wd (toI .u8 b24) (toI .u8 b25) (toI .u8 b26) (toI .u8 b27) (toI .u8 b28) (toI .u8 b29) (toI .u8 b30) (toI .u8 b31))]⟩) = some (flatV numS (wordsN 4 (valB [b0, b1, b2, b3, b4, b5, b6, b7, b8, b9, b10, b11, b12, b13, b14, b15, b16, b17, b18, b19, b20, b21, b22, b23, b24, b25, b26, b27, b28, b29, b30, b31])))
  rw [flat_num, chunk_val, chunk_val, chunk_val, chunk_val, numV_words (wd_lt _ _ _ _ _ _ _ _) (wd_lt _ _ _ _ _ _ _ _) (wd_lt _ _ _ _ _ _ _ _) (wd_lt _ _ _ _ _ _ _ _)]
  rfl
theorem chunk_bytes {x : Nat} (hx : x < 2 ^ 64) (n M : Nat) : bytesB (n + 8) (x + 2 ^ 64 * M) = BitVec.ofNat 8 (x / 2 ^ (8 * 0)) :: BitVec.ofNat 8 (x / 2 ^ (8 * 1)) :: BitVec.ofNat 8 (x / 2 ^ (8 * 2)) :: BitVec.ofNat 8 (x / 2 ^ (8 * 3)) :: BitVec.ofNat 8 (x / 2 ^ (8 * 4)) :: BitVec.ofNat 8 (x / 2 ^ (8 * 5)) :: BitVec.ofNat 8 (x / 2 ^ (8 * 6)) :: BitVec.ofNat 8 (x / 2 ^ (8 * 7)) :: bytesB n M := by
  have e : ∀ u v : Nat, u % 256 = v % 256 → BitVec.ofNat 8 u = BitVec.ofNat 8 v := fun u v h => BitVec.eq_of_toNat_eq (by rw [BitVec.toNat_ofNat, BitVec.toNat_ofNat]; exact h)
  simp only [bytesB]
  rw [e (x + 2 ^ 64 * M) (x / 2 ^ (8 * 0)) (by omega), e ((x + 2 ^ 64 * M) / 256) (x / 2 ^ (8 * 1)) (by omega), e ((x + 2 ^ 64 * M) / 256 / 256) (x / 2 ^ (8 * 2)) (by omega),
    e ((x + 2 ^ 64 * M) / 256 / 256 / 256) (x / 2 ^ (8 * 3)) (by omega), e ((x + 2 ^ 64 * M) / 256 / 256 / 256 / 256) (x / 2 ^ (8 * 4)) (by omega), e ((x + 2 ^ 64 * M) / 256 / 256 / 256 / 256 / 256) (x / 2 ^ (8 * 5)) (by omega),
    e ((x + 2 ^ 64 * M) / 256 / 256 / 256 / 256 / 256 / 256) (x / 2 ^ (8 * 6)) (by omega), e ((x + 2 ^ 64 * M) / 256 / 256 / 256 / 256 / 256 / 256 / 256) (x / 2 ^ (8 * 7)) (by omega), show (x + 2 ^ 64 * M) / 256 / 256 / 256 / 256 / 256 / 256 / 256 / 256 = M by omega]
theorem valN4 (a b c d : BitVec 64) : valN [a, b, c, d] = a.toNat + 2 ^ 64 * (b.toNat + 2 ^ 64 * (c.toNat + 2 ^ 64 * (d.toNat + 2 ^ 64 * 0))) := by
  simp only [valN]
theorem bytes_ok : COK Tryd.prog GL 43 (conT [numS] bytesF) := by
  refine conT_ok (fun xs hw => ?_) (fun _ => rfl)
  obtain ⟨x, ⟨⟩⟩ := xs
  obtain ⟨a, b, c, d, rfl⟩ := of4 hw.1
  have e : bytesB 32 (valN [a, b, c, d]) = _ := (congrArg (bytesB 32) (valN4 a b c d)).trans ((chunk_bytes a.isLt 24 _).trans (congrArg _ (congrArg _ (congrArg _ (congrArg _ (congrArg _ (congrArg _ (congrArg _ (congrArg _ ((chunk_bytes b.isLt 16 _).trans (congrArg _ (congrArg _ (congrArg _ (congrArg _ (congrArg _ (congrArg _ (congrArg _ (congrArg _ ((chunk_bytes c.isLt 8 _).trans (congrArg _ (congrArg _ (congrArg _ (congrArg _ (congrArg _ (congrArg _ (congrArg _ (congrArg _ (chunk_bytes d.isLt 0 _))))))))))))))))))))))))))))
  have e2 : flatV b32S (bytesB 32 (valN [a, b, c, d])) = _ := congrArg (flatV b32S) e
  exact PC_of_wcon bytes_con rfl ⟨rfl, bytesB_len 32 _, fun _ _ => trivial⟩ rfl (congrArg some e2.symm)
noncomputable def g1 : CTab := (33, conT [b32S] ofF) :: (43, conT [numS] bytesF) :: f6
theorem g1_ok : ∀ p ∈ g1, COK Tryd.prog GL p.1 p.2 := CCons of_ok (CCons bytes_ok f6_ok)
end Go.Proofs.YtghmfiandllpfaaDoor.Lb
