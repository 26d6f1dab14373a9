import Derived.Test.YtghmfiandllpfaaDoorRows
import Derived.Test.YtghmfiandllpfaaDoorTyC
namespace Go.Proofs.YtghmfiandllpfaaDoor
open Go.Ty

/-! ## What the bound on a reading's bulk gives -/
section
variable {H : Type} {P : Program} {N M : Nat}
def stepOk (P : Program) (n M : Nat) (t : TypeId) : Bool := match P.underlying t with
  | some (.slice e) => Nat.blt e n && Nat.ble (P.bytesOf e) M
  | some (.pointer e) => Nat.blt e n
  | some (.array _ e) => Nat.blt e n
  | some (.struct fs) => fs.toList.all fun f => Nat.blt f.type n
  | some (.map k e) => Nat.blt e n && (Nat.ble (P.bytesOf k) M && Nat.ble (P.bytesOf e) M)
  | _ => true
theorem lt_of_blt {a b : Nat} (h : Nat.blt a b = true) : a < b := Nat.le_of_ble_eq_true h
theorem bulk_one : ∀ d : DataW H, 1 ≤ Rows.uptoBulk d
  | .lit l => by cases l <;> simp [Rows.uptoBulk]
  | .nil => by simp [Rows.uptoBulk]
  | .ptr d => by simp [Rows.uptoBulk]
  | .slice elems spare => by simp [Rows.uptoBulk]
  | .agg parts => by simp [Rows.uptoBulk]
  | .iface t d => by simp [Rows.uptoBulk]
  | .map entries => by simp [Rows.uptoBulk]
  | .held h => by simp [Rows.uptoBulk]
theorem bulk_len : ∀ l : List (DataW H), l.length ≤ Rows.uptoBulkAll l
  | [] => by simp [Rows.uptoBulkAll]
  | x :: r => by have := bulk_one x; have := bulk_len r; simp only [Rows.uptoBulkAll, List.length_cons]; omega
theorem bulk_ents : ∀ l : List (Lit × DataW H), l.length ≤ Rows.uptoBulkEntries l
  | [] => by simp [Rows.uptoBulkEntries]
  | (x, d) :: r => by
    have := bulk_ents r
    have : 1 ≤ Rows.uptoBulkEntry (x, d) := by cases x <;> simp [Rows.uptoBulkEntry]
    simp only [Rows.uptoBulkEntries, List.length_cons]; omega
theorem mulM {a b n : Nat} (h : n ≤ a * M) (hab : a ≤ b) : n ≤ b * M := Nat.le_trans h (Nat.mul_le_mul_right M hab)
mutual
theorem bulk_w (h1 : 1 ≤ M) (hS : ∀ t, t < N → stepOk P N M t = true) : ∀ (d : DataW H) (t : TypeId), t < N → ∀ n : Nat, n ∈ d.weights P t → n ≤ Rows.uptoBulk d * (2 * M)
  | .lit l, t, ht, n, hn => by
    cases l with
    | string b =>
      simp only [DataW.weights, List.mem_singleton] at hn
      subst hn
      simp only [Rows.uptoBulk]
      have := Nat.mul_le_mul (show b.length ≤ b.length + 1 by omega) (show 1 ≤ 2 * M by omega)
      omega
    | _ => simp [DataW.weights] at hn
  | .nil, t, ht, n, hn => by simp [DataW.weights] at hn
  | .ptr d, t, ht, n, hn => by
    simp only [DataW.weights] at hn
    split at hn
    · rename_i e hu
      have hS' := hS t ht
      simp only [stepOk, hu] at hS'
      exact mulM (bulk_w h1 hS d _ (lt_of_blt hS') n hn) (by simp [Rows.uptoBulk])
    · cases hn
  | .slice elems spare, t, ht, n, hn => by
    simp only [DataW.weights] at hn
    have hu : Rows.uptoBulk (.slice elems spare) = Rows.uptoBulkAll elems + Rows.uptoBulkAll spare + 1 := by simp only [Rows.uptoBulk]
    split at hn
    · rename_i e hue
      have hS' := hS t ht
      simp only [stepOk, hue, Bool.and_eq_true] at hS'
      have he := lt_of_blt hS'.1
      rcases List.mem_cons.1 hn with rfl | hn
      · have a := bulk_len elems
        have b := bulk_len spare
        have hb := Nat.le_of_ble_eq_true hS'.2
        refine Nat.mul_le_mul (by omega) (by omega)
      · rcases List.mem_append.1 hn with hn | hn
        · exact mulM (bulk_wa h1 hS elems e he n hn) (by omega)
        · exact mulM (bulk_wa h1 hS spare e he n hn) (by omega)
    · cases hn
  | .agg parts, t, ht, n, hn => by
    simp only [DataW.weights] at hn
    have hu : Rows.uptoBulk (.agg parts) = Rows.uptoBulkAll parts + 1 := by simp only [Rows.uptoBulk]
    split at hn
    · rename_i fs hue
      have hS' := hS t ht
      simp only [stepOk, hue, List.all_eq_true] at hS'
      exact mulM (bulk_we h1 hS parts _ (fun t' ht' => by
        obtain ⟨f, hf, rfl⟩ := List.mem_map.1 ht'
        exact lt_of_blt (hS' f hf)) n hn) (by omega)
    · rename_i k e hue
      have hS' := hS t ht
      simp only [stepOk, hue] at hS'
      exact mulM (bulk_wa h1 hS parts _ (lt_of_blt hS') n hn) (by omega)
    · cases hn
  | .iface _ _, t, ht, n, hn => by simp [DataW.weights] at hn
  | .map entries, t, ht, n, hn => by
    simp only [DataW.weights] at hn
    have hu : Rows.uptoBulk (.map entries) = Rows.uptoBulkEntries entries + 1 := by simp only [Rows.uptoBulk]
    split at hn
    · rename_i k e hue
      have hS' := hS t ht
      simp only [stepOk, hue, Bool.and_eq_true] at hS'
      have he := lt_of_blt hS'.1
      rcases List.mem_cons.1 hn with rfl | hn
      · have a := bulk_ents entries
        have hb := Nat.le_of_ble_eq_true hS'.2.1
        have hc := Nat.le_of_ble_eq_true hS'.2.2
        exact Nat.mul_le_mul (by omega) (by omega)
      · exact mulM (bulk_wn h1 hS entries e he n hn) (by omega)
    · cases hn
  | .held _, t, ht, n, hn => by simp [DataW.weights] at hn
theorem bulk_wa (h1 : 1 ≤ M) (hS : ∀ t, t < N → stepOk P N M t = true) : ∀ (l : List (DataW H)) (e : TypeId), e < N → ∀ n : Nat, n ∈ DataW.weightsAll P e l → n ≤ Rows.uptoBulkAll l * (2 * M)
  | [], e, he, n, hn => by simp [DataW.weightsAll] at hn
  | d :: r, e, he, n, hn => by
    simp only [DataW.weightsAll] at hn
    have hu : Rows.uptoBulkAll (d :: r) = Rows.uptoBulk d + Rows.uptoBulkAll r := by simp only [Rows.uptoBulkAll]
    rcases List.mem_append.1 hn with hn | hn
    · exact mulM (bulk_w h1 hS d e he n hn) (by omega)
    · exact mulM (bulk_wa h1 hS r e he n hn) (by omega)
theorem bulk_we (h1 : 1 ≤ M) (hS : ∀ t, t < N → stepOk P N M t = true) : ∀ (l : List (DataW H)) (ts : List TypeId), (∀ t ∈ ts, t < N) → ∀ n : Nat, n ∈ DataW.weightsEach P ts l → n ≤ Rows.uptoBulkAll l * (2 * M)
  | [], ts, hts, n, hn => by cases ts <;> simp [DataW.weightsEach] at hn
  | d :: r, [], hts, n, hn => by simp [DataW.weightsEach] at hn
  | d :: r, t :: ts, hts, n, hn => by
    simp only [DataW.weightsEach] at hn
    have hu : Rows.uptoBulkAll (d :: r) = Rows.uptoBulk d + Rows.uptoBulkAll r := by simp only [Rows.uptoBulkAll]
    rcases List.mem_append.1 hn with hn | hn
    · exact mulM (bulk_w h1 hS d t (hts t (by simp)) n hn) (by omega)
    · exact mulM (bulk_we h1 hS r ts (fun t ht => hts t (by simp [ht])) n hn) (by omega)
theorem bulk_wn (h1 : 1 ≤ M) (hS : ∀ t, t < N → stepOk P N M t = true) : ∀ (l : List (Lit × DataW H)) (e : TypeId), e < N → ∀ n : Nat, n ∈ DataW.weightsEntries P e l → n ≤ Rows.uptoBulkEntries l * (2 * M)
  | [], e, he, n, hn => by simp [DataW.weightsEntries] at hn
  | (x, d) :: r, e, he, n, hn => by
    simp only [DataW.weightsEntries] at hn
    have hu : Rows.uptoBulkEntries ((x, d) :: r) = Rows.uptoBulkEntry (x, d) + Rows.uptoBulkEntries r := by simp only [Rows.uptoBulkEntries]
    have ih := fun hm => bulk_w h1 hS d e he n hm
    have one : n ∈ DataW.weightsEntry P e (x, d) → n ≤ Rows.uptoBulkEntry (x, d) * (2 * M) := by
      intro hm
      cases x with
      | string b =>
        simp only [DataW.weightsEntry] at hm
        have hv : Rows.uptoBulkEntry (.string b, d) = b.length + Rows.uptoBulk d + 1 := by simp only [Rows.uptoBulkEntry]
        rcases List.mem_cons.1 hm with rfl | hm
        · have := Nat.mul_le_mul (show b.length ≤ Rows.uptoBulkEntry (.string b, d) by omega) (show 1 ≤ 2 * M by omega)
          omega
        · exact mulM (ih hm) (by omega)
      | _ =>
        simp only [DataW.weightsEntry] at hm
        exact mulM (ih hm) (by simp only [Rows.uptoBulkEntry]; omega)
    rcases List.mem_append.1 hn with hn | hn
    · exact mulM (one hn) (by omega)
    · exact mulM (bulk_wn h1 hS r e he n hn) (by omega)
end
end
theorem step_all : ∀ t, t < Tryd.prog.types.size → stepOk Tryd.prog Tryd.prog.types.size 8192 t = true := by
  have hall : (List.range Tryd.prog.types.size).all (stepOk Tryd.prog Tryd.prog.types.size 8192) = true := by kernel_rfl
  intro t ht
  exact List.all_eq_true.1 hall t (List.mem_range.2 ht)
/-- so much at the most, in bytes, of each slice and string -/
theorem upto_w {H : Type} {l : List (DataW H)} {ts : List TypeId} (hk : Rows.uptoSmall H l = true) (hts : ∀ t ∈ ts, t < Tryd.prog.types.size) : ∀ n ∈ DataW.weightsEach Tryd.prog ts l, n ≤ 17179869184 := by
  intro n hn
  have h : Rows.uptoBulkAll l ≤ 1048576 := of_decide_eq_true hk
  have := bulk_we (M := 8192) (by decide) step_all l ts hts n hn
  have h2 := Nat.mul_le_mul_right (2 * 8192) h
  omega
end Go.Proofs.YtghmfiandllpfaaDoor
