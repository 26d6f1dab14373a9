import Derived.Test.YtmekcdapbpioaaaGe
import Derived.Test.YtmekcdapbpioaaaSa
import Derived.Test.YtmekcdapbpioaaaEdw
namespace Go.Proofs.Ytmekcdapbpioaaa
open Go.Ty

/-! ## The field of P numbers -/
instance ppNe : NeZero PP := ⟨by have := PP_pos; omega⟩
abbrev FF := Fin PP
noncomputable def tf (n : Nat) : FF := Fin.ofNat PP n
theorem tf_val (n : Nat) : (tf n).val = n % PP := rfl
theorem tf_eq {a b : Nat} : tf a = tf b ↔ a % PP = b % PP := ⟨fun h => congrArg Fin.val h, fun h => Fin.ext h⟩
theorem tf_mod (n : Nat) : tf (n % PP) = tf n := tf_eq.2 (Nat.mod_mod _ _)
theorem tf_add (a b : Nat) : tf (a + b) = tf a + tf b := Fin.ext (by rw [Fin.val_add, tf_val, tf_val, tf_val, ← Nat.add_mod])
theorem tf_mul (a b : Nat) : tf (a * b) = tf a * tf b := Fin.ext (by rw [Fin.val_mul, tf_val, tf_val, tf_val, ← Nat.mul_mod])
theorem tf_self (a : FF) : tf a.val = a := Fin.ext (by rw [tf_val]; exact Nat.mod_eq_of_lt a.isLt)
theorem tf_sub (a b : Nat) : tf (a + PP - b % PP) = tf a - tf b := by
  have hb := Nat.mod_lt b PP_pos
  refine Fin.ext ?_
  rw [Fin.val_sub, tf_val, tf_val, tf_val, show a + PP - b % PP = (PP - b % PP) + a by omega, Nat.add_mod_mod]
theorem tf_zero : tf 0 = 0 := rfl
theorem tf_one : tf 1 = 1 := rfl
theorem tf_two : tf 2 = 2 := rfl
theorem tf_nz {a : Nat} (h : a % PP ≠ 0) : tf a ≠ 0 := fun e => h (by have := tf_eq.1 (e.trans tf_zero.symm); rwa [Nat.zero_mod] at this)
theorem tf_z {a : Nat} (h : a % PP = 0) : tf a = 0 := by rw [← tf_zero]; exact tf_eq.2 (by rw [h, Nat.zero_mod])
theorem tf_add_nz {a : FF} (h : a ≠ 0) : a.val % PP ≠ 0 := fun e => h (by rw [← tf_self a]; exact tf_z e)
noncomputable def wf (a : FF) : List (BitVec 64) := wordsN 4 a.val
theorem wf_of {E : Nat} {a : FF} (h : tf E = a) : wordsN 4 (E % PP) = wf a := by rw [← h]; rfl
theorem vwf (a : FF) : valN (wf a) = a.val := v4 (by have := PP_lt; have := a.isLt; omega)
theorem tf_wf (a : FF) : tf (valN (wf a)) = a := by rw [vwf, tf_self]
theorem wf_tf {x : List (BitVec 64)} (h : numS.wfT x) (hl : valN x < PP) : wf (tf (valN x)) = x := by
  unfold wf
  rw [tf_val, Nat.mod_eq_of_lt hl]
  obtain ⟨a, b, e, d, rfl⟩ := of4 h
  exact words_valN [a, b, e, d]
theorem teq_wf (a b : FF) : teq (Sh.arr 4 (Sh.int IntKind.u64)) (wf a) (wf b) = decide (a = b) := by
  unfold wf
  rw [words_inj (by have := PP_lt; have := a.isLt; omega) (by have := PP_lt; have := b.isLt; omega)]
  exact decide_eq_decide.2 ⟨fun h => Fin.ext h, fun h => congrArg Fin.val h⟩
theorem wf_zero : wf 0 = wordsN 4 0 := rfl
theorem wf_one : wf 1 = wordsN 4 1 := by
  show wordsN 4 (1 % PP) = wordsN 4 1
  rw [Nat.mod_eq_of_lt PP_1]
noncomputable def ivF (a : FF) : FF := tf (powP a.val (PP - 2))
theorem tf_inv (a : Nat) : tf (powP a (PP - 2)) = ivF (tf a) := by
  unfold ivF powP
  rw [tf_val, ← Nat.pow_mod]
theorem ivF_zero : ivF 0 = 0 := by
  refine tf_z ?_
  show powP 0 (PP - 2) % PP = 0
  have := PP_3
  unfold powP
  rw [Nat.zero_pow (by omega), Nat.zero_mod, Nat.zero_mod]
theorem ivF_mul {a : FF} (h : a ≠ 0) : a * ivF a = 1 := by
  have h1 := inv_mul (tf_add_nz h)
  have e : tf (a.val * powP a.val (PP - 2)) = tf 1 := tf_eq.2 (by rw [h1, Nat.mod_eq_of_lt PP_1])
  rw [tf_mul, tf_self, tf_one] at e
  exact e
noncomputable def dF : FF := tf DD
noncomputable def iF : FF := tf (powP 2 E2)
theorem iF_sq : iF * iF = -1 := by
  have h : powP 2 E2 * powP 2 E2 % PP = PP - 1 := by
    unfold powP
    rw [← Nat.mul_mod, ← Nat.pow_add, show E2 + E2 = HH by have := E2_2; omega]
    exact two_chi
  have e : iF * iF + 1 = 0 := by
    unfold iF
    rw [← tf_mul, ← tf_one, ← tf_add]
    refine tf_z ?_
    have := PP_1
    rw [← Nat.mod_add_mod, h, Nat.sub_add_cancel (by omega), Nat.mod_self]
  grind
theorem sq_tf {s : FF} {A : Nat} (h : s * s = tf A) : sqrtB A = true := by
  refine sqrtB_sq (y := s.val) ?_
  rw [← tf_self s, ← tf_mul] at h
  exact tf_eq.1 h
theorem crv : Go.Edw.Crv dF iF ivF where
  ii := iF_sq
  hiv := fun a h => ivF_mul h
  two := by
    rw [← tf_two]
    refine tf_nz ?_
    have := PP_3
    rw [Nat.mod_eq_of_lt (by omega)]; omega
  nsq := by
    intro x y h
    by_cases hy : y = 0
    · exact hy
    · exfalso
      have h1 := ivF_mul hy
      have e : (x * ivF y) * (x * ivF y) = tf DD := by
        have : (x * ivF y) * (x * ivF y) = x * x * (ivF y * ivF y) := by grind
        rw [this, h]
        have : dF * (y * y) * (ivF y * ivF y) = dF * ((y * ivF y) * (y * ivF y)) := by grind
        rw [this, h1]
        show dF * (1 * 1) = dF
        grind
      have := sq_tf e
      rw [d_non] at this
      cases this
theorem root_tf {A : Nat} (h : sqrtB A = true) : tf (sqrtN A) * tf (sqrtN A) = tf A := by
  rw [← tf_mul]; exact tf_eq.2 (sqrtN_spec h).2.2
theorem dich (a : FF) : (∃ s, s * s = a) ∨ ∃ s, s * s = dF * a := by
  by_cases h : a = 0
  · left; refine ⟨0, ?_⟩; rw [h]; grind
  · cases hs : sqrtB a.val with
    | true => left; exact ⟨tf (sqrtN a.val), by rw [root_tf hs, tf_self]⟩
    | false =>
      right
      have := sqrt_mul d_nz (tf_add_nz h)
      rw [d_non, hs] at this
      refine ⟨_, (root_tf this).trans ?_⟩
      rw [tf_mod, tf_mul, tf_self]; rfl
theorem dF_nz : dF ≠ 0 := tf_nz d_nz
/-! ## Points as numbers of the field -/
noncomputable def toP (p : Sh.T ptS) : FF × FF := (tf (valN p.1), tf (valN p.2.1))
theorem on_iff {x y : Nat} : onN x y = true ↔ x < PP ∧ y < PP ∧ Go.Edw.On dF (tf x, tf y) := by
  unfold onN
  rw [Bool.and_eq_true, Bool.and_eq_true, decide_eq_true_eq, decide_eq_true_eq, decide_eq_true_eq]
  refine and_congr_right fun _ => and_congr_right fun _ => ?_
  have e : tf (y * y) = tf (x * x + (1 + DD * (x * x * (y * y)))) ↔ Go.Edw.On dF (tf x, tf y) := by
    unfold Go.Edw.On
    rw [tf_add, tf_add, tf_mul, tf_mul x x, tf_mul DD, tf_mul (x * x), tf_mul x x, tf_mul y y, tf_one, show tf DD = dF from rfl]
    constructor
    · intro h; dsimp only; rw [h]; grind
    · intro h; dsimp only at h; rw [h]; grind
  exact tf_eq.symm.trans e
theorem on_wf {P : FF × FF} (h : Go.Edw.On dF P) : onN P.1.val P.2.val = true := on_iff.2 ⟨P.1.isLt, P.2.isLt, by rw [tf_self, tf_self]; exact h⟩
/-! ## The base's order, and a point of order 8: closed sums -/
abbrev NQ := Nat × Nat × Nat × Nat
def frc {α : Type} (n : Nat) (k : Nat → α) : α := match n with
  | 0 => k 0
  | m + 1 => k (m + 1)
theorem frc_eq {α : Type} (n : Nat) (k : Nat → α) : frc n k = k n := by cases n <;> rfl
def fq {α : Type} (q : NQ) (k : NQ → α) : α := frc q.1 fun a => frc q.2.1 fun b => frc q.2.2.1 fun c => frc q.2.2.2 fun e => k (a, b, c, e)
theorem fq_eq {α : Type} (q : NQ) (k : NQ → α) : fq q k = k q := by unfold fq; rw [frc_eq, frc_eq, frc_eq, frc_eq]
def nplus (p d : Nat) (q r : NQ) : NQ :=
  frc ((q.2.1 + p - q.1 % p) * (r.2.1 + p - r.1 % p) % p) fun a => frc ((q.2.1 + q.1) * (r.2.1 + r.1) % p) fun b => frc (q.2.2.2 * r.2.2.2 * d % p) fun c => frc (q.2.2.1 * r.2.2.1 % p) fun z =>
  ((b + p - a % p) * (z + z + p - (c + c) % p) % p, (z + z + (c + c)) * (b + a) % p, (z + z + p - (c + c) % p) * (z + z + (c + c)) % p, (b + p - a % p) * (b + a) % p)
def nmul (p d : Nat) : Nat → NQ → Nat → NQ → NQ
  | 0, _, _, acc => acc
  | f + 1, b, n, acc => bif Nat.beq n 0 then acc else fq (nplus p d b b) fun b' => fq (bif Nat.beq (n % 2) 1 then nplus p d acc b else acc) fun acc' => nmul p d f b' (n / 2) acc'
noncomputable def tq (q : NQ) : Go.Edw.Qd PP := (tf q.1, tf q.2.1, tf q.2.2.1, tf q.2.2.2)
theorem tq_plus (q r : NQ) : tq (nplus PP DD q r) = Go.Edw.qplus dF (tq q) (tq r) := by
  unfold nplus
  simp only [frc_eq]
  unfold Go.Edw.qplus tq
  dsimp only
  simp only [tf_mod, tf_mul, tf_sub, tf_add]
  rfl
theorem nmul_eq : ∀ (f : Nat) (b : NQ) (n : Nat) (acc : NQ) (P Q : FF × FF), Go.Edw.Rep (tq b) P → Go.Edw.Rep (tq acc) Q → Go.Edw.On dF P → Go.Edw.On dF Q → n < 2 ^ f →
    Go.Edw.Rep (tq (nmul PP DD f b n acc)) (Go.Edw.add dF ivF Q (Go.Edw.mul dF ivF n P))
  | 0, b, n, acc, P, Q, _, hq, _, _, h => by
    have : n = 0 := by rw [Nat.pow_zero] at h; omega
    subst this
    show Go.Edw.Rep (tq acc) (Go.Edw.add dF ivF Q (0, 1))
    rw [crv.add_zero]; exact hq
  | f + 1, b, n, acc, P, Q, hp, hq, op, oq, h => by
    unfold nmul
    cases h0 : Nat.beq n 0 with
    | true =>
      have := Nat.eq_of_beq_eq_true h0
      subst this
      show Go.Edw.Rep (tq acc) (Go.Edw.add dF ivF Q (0, 1))
      rw [crv.add_zero]; exact hq
    | false =>
      rw [cond_false, fq_eq, fq_eq]
      have hlt : n / 2 < 2 ^ f := by rw [Nat.pow_succ] at h; omega
      have hd : Go.Edw.Rep (tq (nplus PP DD b b)) (Go.Edw.add dF ivF P P) := by rw [tq_plus]; exact crv.rep_plus hp hp op op
      have od := crv.add_on op op
      have e2 : Go.Edw.mul dF ivF (n / 2) (Go.Edw.add dF ivF P P) = Go.Edw.mul dF ivF (2 * (n / 2)) P := by
        rw [crv.mul_sum op op, ← crv.mul_add op]; congr 1; omega
      cases h1 : Nat.beq (n % 2) 1 with
      | true =>
        have h1 := Nat.eq_of_beq_eq_true h1
        rw [cond_true]
        have ha : Go.Edw.Rep (tq (nplus PP DD acc b)) (Go.Edw.add dF ivF Q P) := by rw [tq_plus]; exact crv.rep_plus hq hp oq op
        have := nmul_eq f _ (n / 2) _ _ _ hd ha od (crv.add_on oq op) hlt
        have e : Go.Edw.mul dF ivF n P = Go.Edw.add dF ivF P (Go.Edw.mul dF ivF (2 * (n / 2)) P) := by
          conv => lhs; rw [show n = 2 * (n / 2) + 1 by omega]
          exact Go.Edw.add_comm _ _
        rw [e2, crv.assoc oq op (crv.mul_on op _), ← e] at this
        exact this
      | false =>
        have h1 : n % 2 = 0 := by
          have : n % 2 ≠ 1 := fun c => by rw [c] at h1; cases h1
          omega
        rw [cond_false]
        have := nmul_eq f _ (n / 2) _ _ _ hd hq od oq hlt
        rw [e2, show 2 * (n / 2) = n by omega] at this
        exact this
/-- X is 0 and Y is z: it is Zero -/
theorem rep_zero {q : NQ} {P : FF × FF} (h : Go.Edw.Rep (tq q) P) (hx : q.1 = 0) (hy : q.2.1 = q.2.2.1) : P = (0, 1) := by
  obtain ⟨z0, h1, h2, _⟩ := h
  have h1 : tf q.1 = P.1 * tf q.2.2.1 := h1
  have h2 : tf q.2.1 = P.2 * tf q.2.2.1 := h2
  have z0 : tf q.2.2.1 ≠ 0 := z0
  rw [hx, tf_zero] at h1
  rw [hy] at h2
  generalize tf q.2.2.1 = z at *
  refine Prod.ext ((crv.hz h1.symm).resolve_right z0) ?_
  refine crv.canc z0 ?_
  show z * P.2 = z * 1
  grind
noncomputable def bF : FF × FF := (tf BX, tf BY)
noncomputable def t8 : FF × FF := (tf 14399317868200118260347934320527232580618823971194345261214217575416788799818, tf 55188659117513257062467267217118295137698188065244968500265048394206261417927)
theorem rep_pt (x y : Nat) : Go.Edw.Rep (tq (x, y, 1, x * y)) (tf x, tf y) := by
  have := crv.rep_of (tf x, tf y)
  unfold tq
  dsimp only
  rw [tf_one, tf_mul]; exact this
theorem rep_nought : Go.Edw.Rep (tq (0, 1, 1, 0)) (0, 1) := by
  have := crv.rep_of ((0, 1) : FF × FF)
  dsimp only at this
  rw [show (0 : FF) * 1 = 0 by grind] at this
  exact this
theorem nmul_zero {x y n : Nat} (h : Go.Edw.On dF (tf x, tf y)) (hn : n < 2 ^ 256) : Go.Edw.Rep (tq (nmul PP DD 256 (x, y, 1, x * y) n (0, 1, 1, 0))) (Go.Edw.mul dF ivF n (tf x, tf y)) := by
  have := nmul_eq 256 _ n _ _ _ (rep_pt x y) rep_nought h Go.Edw.on_zero hn
  rw [crv.zero_add] at this
  exact this
theorem base_chk : nmul (2 ^ 255 - 19) 37095705934669439343138083508754565189542113879843219016388785533085940283555 256 (15112221349535400772501151409588531511454012693041857206046113283949847762202, 46316835694926478169428394003475163141307993866256225615783033603165251855960, 1, 15112221349535400772501151409588531511454012693041857206046113283949847762202 * 46316835694926478169428394003475163141307993866256225615783033603165251855960) (2 ^ 252 + 27742317777372353535851937790883648493) (0, 1, 1, 0) = (0, 38292382948041718655884687669036288908542423670770664861780644333640719373017, 38292382948041718655884687669036288908542423670770664861780644333640719373017, 0) := by kernel_rfl
theorem t8_chk : nmul (2 ^ 255 - 19) 37095705934669439343138083508754565189542113879843219016388785533085940283555 256 (14399317868200118260347934320527232580618823971194345261214217575416788799818, 55188659117513257062467267217118295137698188065244968500265048394206261417927, 1, 14399317868200118260347934320527232580618823971194345261214217575416788799818 * 55188659117513257062467267217118295137698188065244968500265048394206261417927) 8 (0, 1, 1, 0) = (0, 9823057958978255104546259757219540041306522627734078258261459430886468831074, 9823057958978255104546259757219540041306522627734078258261459430886468831074, 0) := by kernel_rfl
theorem t4_chk : nmul (2 ^ 255 - 19) 37095705934669439343138083508754565189542113879843219016388785533085940283555 256 (14399317868200118260347934320527232580618823971194345261214217575416788799818, 55188659117513257062467267217118295137698188065244968500265048394206261417927, 1, 14399317868200118260347934320527232580618823971194345261214217575416788799818 * 55188659117513257062467267217118295137698188065244968500265048394206261417927) 4 (0, 1, 1, 0) = (0, 4317193571878955316311680748363316792327322370813235336849001377219600438253, 53578851046779142395473811755980637134307669962007046682879790626736964381696, 0) := by kernel_rfl
theorem on_closed {x y : Nat} (h : (decide (x < 2 ^ 255 - 19) && (decide (y < 2 ^ 255 - 19) && decide (y * y % (2 ^ 255 - 19) = (x * x + (1 + 37095705934669439343138083508754565189542113879843219016388785533085940283555 * (x * x * (y * y)))) % (2 ^ 255 - 19)))) = true) : Go.Edw.On dF (tf x, tf y) := by
  refine (on_iff.1 ?_).2.2
  unfold onN
  rw [PP_eq, DD_eq]
  exact h
theorem bF_on : Go.Edw.On dF bF := (on_iff.1 base_on).2.2
theorem t8_on : Go.Edw.On dF t8 := on_closed (by decide)
theorem base_ord : Go.Edw.mul dF ivF LL bF = (0, 1) := by
  have h := nmul_zero (n := LL) bF_on (by have := LL_lt; omega)
  have e : nmul PP DD 256 (BX, BY, 1, BX * BY) LL (0, 1, 1, 0) = (0, 38292382948041718655884687669036288908542423670770664861780644333640719373017, 38292382948041718655884687669036288908542423670770664861780644333640719373017, 0) := by rw [PP_eq, DD_eq, BX_eq, BY_eq, LL_eq]; exact base_chk
  rw [e] at h
  exact rep_zero h rfl rfl
theorem t8_eight : Go.Edw.mul dF ivF 8 t8 = (0, 1) := by
  have h := nmul_zero (n := 8) t8_on (by decide)
  have e : nmul PP DD 256 (14399317868200118260347934320527232580618823971194345261214217575416788799818, 55188659117513257062467267217118295137698188065244968500265048394206261417927, 1, 14399317868200118260347934320527232580618823971194345261214217575416788799818 * 55188659117513257062467267217118295137698188065244968500265048394206261417927) 8 (0, 1, 1, 0) = (0, 9823057958978255104546259757219540041306522627734078258261459430886468831074, 9823057958978255104546259757219540041306522627734078258261459430886468831074, 0) := by rw [PP_eq, DD_eq]; exact t8_chk
  rw [e] at h
  exact rep_zero h rfl rfl
theorem t8_four : Go.Edw.mul dF ivF 4 t8 ≠ (0, 1) := by
  have h := nmul_zero (n := 4) t8_on (by decide)
  have e : nmul PP DD 256 (14399317868200118260347934320527232580618823971194345261214217575416788799818, 55188659117513257062467267217118295137698188065244968500265048394206261417927, 1, 14399317868200118260347934320527232580618823971194345261214217575416788799818 * 55188659117513257062467267217118295137698188065244968500265048394206261417927) 4 (0, 1, 1, 0) = (0, 4317193571878955316311680748363316792327322370813235336849001377219600438253, 53578851046779142395473811755980637134307669962007046682879790626736964381696, 0) := by rw [PP_eq, DD_eq]; exact t4_chk
  rw [e] at h
  intro c
  have c : Go.Edw.mul dF ivF 4 (tf 14399317868200118260347934320527232580618823971194345261214217575416788799818, tf 55188659117513257062467267217118295137698188065244968500265048394206261417927) = (0, 1) := c
  rw [c] at h
  obtain ⟨_, _, h2, _⟩ := h
  have h2 : tf 4317193571878955316311680748363316792327322370813235336849001377219600438253 = 1 * tf 53578851046779142395473811755980637134307669962007046682879790626736964381696 := h2
  have h3 : tf 4317193571878955316311680748363316792327322370813235336849001377219600438253 = tf 53578851046779142395473811755980637134307669962007046682879790626736964381696 := by rw [h2]; grind
  have := tf_eq.1 h3
  rw [PP_eq] at this
  exact absurd this (by decide)
theorem base_ne : bF ≠ (0, 1) := by
  intro h
  have h : tf BX = tf 0 := congrArg Prod.fst h
  have := tf_eq.1 h
  rw [PP_eq, BX_eq] at this
  exact absurd this (by decide)
/-- LAGRANGE: eight times L times any point is Zero -/
theorem order8 {P : FF × FF} (h : Go.Edw.On dF P) : Go.Edw.mul dF ivF (8 * LL) P = (0, 1) := by
  refine crv.order bF_on t8_on (fun k hk => ferLL.prime hk) base_ord base_ne t8_eight t8_four ?_ ?_ h
  · rw [PP_eq, LL_eq]; decide
  · rw [LL_eq]
/-- how often counts modulo L for the base, and for nothing else it is Zero -/
theorem base_iff (n : Nat) : Go.Edw.mul dF ivF n bF = (0, 1) ↔ n % LL = 0 := by
  constructor
  · intro h
    exact Nat.mod_eq_zero_of_dvd (crv.ord_prime bF_on (fun k hk => ferLL.prime hk) base_ord base_ne h)
  · intro h
    exact crv.mul_of_dvd bF_on (Nat.dvd_of_mod_eq_zero h) base_ord
end Go.Proofs.Ytmekcdapbpioaaa
