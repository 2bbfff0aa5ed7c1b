/- What the program's functions on phases compute, in plain words, and the reference's. -/
import Derived.Test.YtbfkfobfhjgphaaSpA
set_option linter.unusedVariables false
set_option linter.unusedSimpArgs false
namespace Go.Proofs.Ytbfkfobfhjgphaa.Sp
open Go Go.Pev Go.Snd Go.Proofs.Ytbfkfobfhjgphaa.Fn

theorem checkS_zero (ok : Bool) (n : Int) : checkS ok n = 0 ↔ ok = true ∧ 0 ≤ n ∧ n ≤ 65536 := by
  unfold checkS
  cases ok
  · simp
  · simp only [if_true]
    split
    · simp; omega
    · split
      · simp; omega
      · simp; omega
def atS (num den adj pos frac n : Int) : Int × Int × Int :=
  if checkS (phOK num den adj pos frac) n = 0 then (pos + (ph num den adj frac).gone n, (ph num den adj frac).A n % (den * 65536), 0) else (0, 0, checkS (phOK num den adj pos frac) n)

/-- what is computed on the way to a position -/
theorem at_calc {num den adj pos frac : Int} (h : PhOK num den adj pos frac) {n : Int} (h0 : 0 ≤ n) (h1 : n ≤ 65536) :
    IntKind.wrap .i64 (frac + IntKind.wrap .i64 (IntKind.wrap .i64 (n * num) * IntKind.wrap .i64 (65536 + adj))) = (ph num den adj frac).A n ∧
    IntKind.wrap .i64 (frac + IntKind.wrap .i64 (n * IntKind.wrap .i64 (num * IntKind.wrap .i64 (65536 + adj)))) = (ph num den adj frac).A n ∧
    0 ≤ (ph num den adj frac).A n ∧ (ph num den adj frac).A n ≤ 3600000000000000 := by
  obtain ⟨b1, b2, b3, b4⟩ := h.step_bd h0 h1
  have g1 := h.a1
  have g2 := h.a2
  have g3 := h.f0
  have g4 := h.f1
  have g5 := h.d2
  have g6 := h.n1
  have g7 := h.n2
  have e1 : IntKind.wrap .i64 (65536 + adj) = 65536 + adj := w64 (by omega) (by omega)
  have e2 : IntKind.wrap .i64 (n * num) = n * num := w64 (by omega) (by omega)
  have e3 := ph_A num den adj frac n
  obtain ⟨b5, b6⟩ := mul_bd (show 0 ≤ num by omega) g7 (show 0 ≤ 65536 + adj by omega) (show 65536 + adj ≤ 69632 by omega)
  have e4 : n * (num * (65536 + adj)) = n * num * (65536 + adj) := (Int.mul_assoc _ _ _).symm
  refine ⟨?_, ?_, by omega, by omega⟩
  · rw [e1, e2, w64 (x := n * num * (65536 + adj)) (by omega) (by omega), e3, w64 (by omega) (by omega)]
  · rw [e1, w64 (x := num * (65536 + adj)) (by omega) (by omega), e4, w64 (x := n * num * (65536 + adj)) (by omega) (by omega), e3, w64 (by omega) (by omega)]
theorem gone_bd {num den adj pos frac : Int} (h : PhOK num den adj pos frac) {n : Int} (h0 : 0 ≤ n) (h1 : n ≤ 65536) :
    0 ≤ (ph num den adj frac).gone n ∧ (ph num den adj frac).gone n ≤ 3600000000000000 := by
  obtain ⟨_, _, h2, h3⟩ := at_calc h h0 h1
  have := h.d1
  refine ⟨(ph num den adj frac).gone_nonneg h.ok h0, ?_⟩
  show (ph num den adj frac).A n / (den * 65536) ≤ _
  exact Int.le_trans (Int.ediv_le_self _ h2) h3

theorem s160 {k : Nat} {num den adj pos frac : Int} (h : PhOK num den adj pos frac) {n : Int} (h0 : 0 ≤ n) (h1 : n ≤ 65536) : f160 k ((num, den, adj, pos, frac), n) = some ((ph num den adj frac).A n) := by
  unfold f160
  exact congrArg some (at_calc h h0 h1).1
theorem parts_ne {den : Int} (h : 1 ≤ den) : (den * 65536 == 0) = false := by simp; omega
theorem s141 {k : Nat} (hk : Big k) (num den adj pos frac n : Int) : f141 k ((num, den, adj, pos, frac), n) = some (atS num den adj pos frac n) := by
  unfold f141 atS
  rw [s138 hk, Option.bind_some]
  by_cases he : checkS (phOK num den adj pos frac) n = 0
  · obtain ⟨h1, h2, h3⟩ := (checkS_zero _ _).1 he
    have h := (phOK_iff _ _ _ _ _).1 h1
    obtain ⟨g1, g2⟩ := gone_bd h h2 h3
    obtain ⟨_, _, a1, a2⟩ := at_calc h h2 h3
    have p1 := h.p0
    have p2 := h.p1
    have gd : (ph num den adj frac).A n / (den * 65536) = (ph num den adj frac).gone n := rfl
    rw [he]
    simp only [bne_self_eq_false, cond_false, if_true, s160 h h2 h3, s137 k _ _ _ _ _ h.d1 h.d2, Option.bind_some, parts_ne h.d1, tdiv_pos a1, tmod_pos a1, gd]
    rw [w64 (x := (ph num den adj frac).gone n) (by omega) (by omega), w64 (by omega) (by omega)]
  · rw [if_neg he]
    have : (checkS (phOK num den adj pos frac) n != 0) = true := by simpa using he
    rw [this]
    simp
def zero5 : Int × Int × Int × Int × Int := (0, 0, 0, 0, 0)
/-- the phase after n frames, or the error -/
def advS (num den adj pos frac n : Int) : (Int × Int × Int × Int × Int) × Int :=
  if checkS (phOK num den adj pos frac) n = 0 then
    if 1125899906842624 < pos + (ph num den adj frac).gone n then ((0, 0, 0, 0, 0), 2) else ((num, den, adj, pos + (ph num den adj frac).gone n, (ph num den adj frac).A n % (den * 65536)), 0)
  else ((0, 0, 0, 0, 0), checkS (phOK num den adj pos frac) n)
theorem s140 {k : Nat} (hk : Big k) (num den adj pos frac n : Int) : f140 k ((num, den, adj, pos, frac), n) = some (advS num den adj pos frac n) := by
  unfold f140 advS
  rw [s141 hk, Option.bind_some]
  unfold atS
  by_cases he : checkS (phOK num den adj pos frac) n = 0
  · simp only [he, if_true, beq_self_eq_true, cond_true, cond_eq_ite, decide_eq_true_eq, gt_iff_lt]
    split <;> simp
  · have e1 : (checkS (phOK num den adj pos frac) n == 0) = false := by simpa using he
    have e2 : (checkS (phOK num den adj pos frac) n != 0) = true := by simpa using he
    simp only [if_neg he, e1, e2, cond_false, cond_true]
theorem s139 {k : Nat} {num den adj pos frac : Int} (h : PhOK num den adj pos frac) {n : Int} (h0 : 0 ≤ n) (h1 : n ≤ 65536) : f139 k ((num, den, adj, pos, frac), n) = some ((ph num den adj frac).need n) := by
  unfold f139
  by_cases hn : n = 0
  · subst hn; simp [Ph.need]
  · have e1 : (n == 0) = false := by simpa using hn
    have e2 : IntKind.wrap .i64 (n - 1) = n - 1 := w64 (by omega) (by omega)
    obtain ⟨_, _, a1, a2⟩ := at_calc h h0 h1
    obtain ⟨_, _, a3, a4⟩ := at_calc h (show 0 ≤ n - 1 by omega) (by omega)
    obtain ⟨g1, g2⟩ := gone_bd h h0 h1
    obtain ⟨g3, g4⟩ := gone_bd h (show 0 ≤ n - 1 by omega) (by omega)
    have gd : (ph num den adj frac).A n / (den * 65536) = (ph num den adj frac).gone n := rfl
    have gd' : (ph num den adj frac).A (n - 1) / (den * 65536) = (ph num den adj frac).gone (n - 1) := rfl
    simp only [e1, e2, cond_false, s160 h h0 h1, s160 h (show 0 ≤ n - 1 by omega) (show n - 1 ≤ 65536 by omega), s137 k _ _ _ _ _ h.d1 h.d2, Option.bind_some, parts_ne h.d1, tdiv_pos a1, tdiv_pos a3, gd, gd']
    rw [w64 (x := (ph num den adj frac).gone n) (by omega) (by omega), w64 (x := (ph num den adj frac).gone (n - 1)) (by omega) (by omega), w64 (by omega) (by omega), (ph num den adj frac).need_eq hn]
    congr 1
    split <;> omega
def needS (num den adj pos frac n : Int) : Int × Int :=
  if checkS (phOK num den adj pos frac) n = 0 then ((ph num den adj frac).need n, 0) else (0, checkS (phOK num den adj pos frac) n)
theorem s91 {k : Nat} (hk : Big k) (num den adj pos frac n : Int) : f91 k ((num, den, adj, pos, frac), n) = some (needS num den adj pos frac n) := by
  unfold f91 needS
  rw [s138 hk, Option.bind_some]
  by_cases he : checkS (phOK num den adj pos frac) n = 0
  · obtain ⟨h1, h2, h3⟩ := (checkS_zero _ _).1 he
    have h := (phOK_iff _ _ _ _ _).1 h1
    rw [he]
    simp only [bne_self_eq_false, cond_false, if_true, s139 h h2 h3, Option.bind_some]
  · rw [if_neg he]
    have : (checkS (phOK num den adj pos frac) n != 0) = true := by simpa using he
    rw [this]
    simp
noncomputable def makeS (num den adj pos frac n : Int) : Int × Int :=
  if phOK num den adj pos frac = true then if n < 0 ∨ 1099511627776 < n then (0, 2) else ((ph num den adj frac).make n, 0) else (0, 1)
theorem w_u64 {x : Int} (h1 : 0 ≤ x) (h2 : x ≤ 18446744073709551615) : IntKind.wrap .u64 x = x := by
  rw [IntKind.wrap_u64]; omega
theorem s146 {k : Nat} (hk : Big k) {num den adj pos frac : Int} (h : PhOK num den adj pos frac) {n : Int} (hn : 0 ≤ n) : f146 k (65536, (num, den, adj, pos, frac), n) = some ((ph num den adj frac).make n, (num, den, adj, pos, frac), n) := by
  unfold f146
  refine (loopC_spec _ (fun y => y.2.2 = ((num, den, adj, pos, frac), n) ∧ 0 ≤ y.1 ∧ y.1 ≤ y.2.1 ∧ y.2.1 ≤ 65536 ∧ (ph num den adj frac).need y.1 ≤ n ∧ (y.2.1 < 65536 → n < (ph num den adj frac).need (y.2.1 + 1))) (fun y => some ((ph num den adj frac).make n, (num, den, adj, pos, frac), n)) (fun y => (y.2.1 - y.1).toNat) ?_ k _ ⟨rfl, by simp, by simp, by simp, by simp [Ph.need]; omega, by simp⟩ (hk.lt (by simp)))
  rintro ⟨lo, hi, q⟩ next ⟨h1, h2, h3, h4, h5, h6⟩ hnext
  simp only at h1 h2 h3 h4 h5 h6 hnext
  subst h1
  unfold L146_2
  simp only
  by_cases hlt : lo < hi
  · have e1 : IntKind.wrap .i64 (lo + hi) = lo + hi := w64 (by omega) (by omega)
    have e2 : IntKind.wrap .u64 (lo + hi) = lo + hi := w_u64 (by omega) (by omega)
    have e3 : (2 : Int) ^ (min (Int.toNat (1 : Int)) (IntKind.bits .u64)) = 2 := by decide
    have e4 : Int.fdiv (lo + hi) 2 = (lo + hi) / 2 := Int.fdiv_eq_ediv_of_nonneg _ (by omega)
    have e5 : IntKind.wrap .i64 ((lo + hi) / 2) = (lo + hi) / 2 := w64 (by omega) (by omega)
    have e6 : IntKind.wrap .i64 ((lo + hi) / 2 + 1) = (lo + hi) / 2 + 1 := w64 (by omega) (by omega)
    simp only [hlt, decide_true, cond_true, e1, e2, e3, e4, e5]
    have e7 : f147 k ((lo + hi) / 2, (num, den, adj, pos, frac), n) = some (decide (n < (ph num den adj frac).need ((lo + hi) / 2 + 1)), (num, den, adj, pos, frac), n) := by
      unfold f147
      simp only [e6, s139 h (show 0 ≤ (lo + hi) / 2 + 1 by omega) (show (lo + hi) / 2 + 1 ≤ 65536 by omega), Option.bind_some, gt_iff_lt]
    rw [e7, Option.bind_some]
    by_cases hd : n < (ph num den adj frac).need ((lo + hi) / 2 + 1)
    · simp only [hd, decide_true, Bool.not_true, cond_false]
      exact hnext _ ⟨rfl, h2, by simp only; omega, by simp only; omega, h5, fun _ => hd⟩ (by simp only; omega)
    · simp only [hd, decide_false, Bool.not_false, cond_true, e6]
      exact hnext _ ⟨rfl, by simp only; omega, by simp only; omega, h4, by simp only; omega, h6⟩ (by simp only; omega)
  · have : lo = hi := by omega
    subst this
    simp only [Int.lt_irrefl, decide_false, cond_false]
    rw [(ph num den adj frac).make_unique h.ok hn h2 h4 h5 h6]
theorem s96 {k : Nat} (hk : Big k) (num den adj pos frac n : Int) : f96 k ((num, den, adj, pos, frac), n) = some (makeS num den adj pos frac n) := by
  unfold f96 makeS
  rw [s85 hk, Option.bind_some]
  by_cases h1 : phOK num den adj pos frac = true
  · have h := (phOK_iff _ _ _ _ _).1 h1
    rw [h1]
    simp only [Bool.not_true, if_true, cond_eq_ite, decide_eq_true_eq, Bool.false_eq_true, if_false]
    by_cases h2 : n < 0
    · rw [if_pos h2, if_pos (.inl h2)]
    · rw [if_neg h2]
      by_cases h3 : 1099511627776 < n
      · rw [if_pos (by omega), if_pos (.inr h3)]
      · rw [if_neg (by omega), if_neg (by omega), s146 hk h (by omega), Option.bind_some]
  · have h1 : phOK num den adj pos frac = false := by simpa using h1
    rw [h1]
    simp

/-! ### the reference -/
theorem s99 (k : Nat) (num den adj pos frac : Int) : f99 k (num, den, adj, pos, frac) = some (IntKind.wrap .i64 (num * IntKind.wrap .i64 (65536 + adj))) := rfl
theorem s100 (k : Nat) (num den adj pos frac : Int) (h0 : 1 ≤ den) (h1 : den ≤ 768000) : f100 k (num, den, adj, pos, frac) = some (den * 65536) := by
  unfold f100
  rw [w64 (by simp only; omega) (by simp only; omega)]
theorem s87 {k : Nat} (hk : Big k) (num den adj pos frac : Int) : f87 k (num, den, adj, pos, frac) = some (phOK num den adj pos frac) := by
  unfold f87 phOK
  simp only [s113 hk, Option.bind_some, ge_iff_le]
  by_cases h0 : ratOK num den = true
  · have hd : 1 ≤ den := by
      unfold ratOK at h0
      simp only [Bool.and_eq_true, decide_eq_true_eq] at h0
      omega
    simp only [h0, cond_true, Bool.true_and]
    by_cases h1 : num ≤ 768000 <;> simp only [h1, decide_true, decide_false, cond_true, cond_false, Bool.false_and, Bool.true_and]
    by_cases h2 : den ≤ 768000 <;> simp only [h2, decide_true, decide_false, cond_true, cond_false, Bool.false_and, Bool.true_and]
    by_cases h3 : -4096 ≤ adj <;> simp only [h3, decide_true, decide_false, cond_true, cond_false, Bool.false_and, Bool.true_and]
    by_cases h4 : adj ≤ 4096 <;> simp only [h4, decide_true, decide_false, cond_true, cond_false, Bool.false_and, Bool.true_and]
    by_cases h5 : 0 ≤ pos <;> simp only [h5, decide_true, decide_false, cond_true, cond_false, Bool.false_and, Bool.true_and]
    by_cases h6 : pos ≤ 1125899906842624 <;> simp only [h6, decide_true, decide_false, cond_true, cond_false, Bool.false_and, Bool.true_and]
    by_cases h7 : 0 ≤ frac <;> simp only [h7, decide_true, decide_false, cond_true, cond_false, Bool.false_and, Bool.true_and]
    rw [s100 k _ _ _ _ _ hd h2, Option.bind_some]
  · have h0 : ratOK num den = false := by simpa using h0
    simp [h0]
theorem s46 {k : Nat} (hk : Big k) (num den adj pos frac n : Int) : f46 k ((num, den, adj, pos, frac), n) = some (atS num den adj pos frac n) := by
  unfold f46 atS
  rw [s87 hk, Option.bind_some]
  by_cases h1 : phOK num den adj pos frac = true
  · have h := (phOK_iff _ _ _ _ _).1 h1
    unfold checkS
    rw [h1]
    simp only [Bool.not_true, if_true, cond_eq_ite, decide_eq_true_eq, gt_iff_lt, Bool.false_eq_true, if_false]
    by_cases h2 : n < 0
    · simp [h2]
    · by_cases h3 : 65536 < n
      · simp [h2, h3]
      · obtain ⟨g1, g2⟩ := gone_bd h (show 0 ≤ n by omega) (by omega)
        obtain ⟨_, a0, a1, a2⟩ := at_calc h (show 0 ≤ n by omega) (by omega)
        have p1 := h.p0
        have p2 := h.p1
        have gd : (ph num den adj frac).A n / (den * 65536) = (ph num den adj frac).gone n := rfl
        simp only [h2, h3, if_false, if_true, s99, s100 k _ _ _ _ _ h.d1 h.d2, Option.bind_some, parts_ne h.d1, Bool.false_eq_true, a0, tdiv_pos a1, tmod_pos a1, gd]
        rw [w64 (x := (ph num den adj frac).gone n) (by omega) (by omega), w64 (by omega) (by omega)]
  · have h1 : phOK num den adj pos frac = false := by simpa using h1
    rw [h1]
    simp [checkS]
theorem s144 {k : Nat} (hk : Big k) (num den adj pos frac n : Int) : f144 k ((num, den, adj, pos, frac), n) = some (advS num den adj pos frac n) := by
  unfold f144 advS
  rw [s46 hk, Option.bind_some]
  unfold atS
  by_cases he : checkS (phOK num den adj pos frac) n = 0
  · simp only [he, if_true, bne_self_eq_false, cond_false, cond_eq_ite, decide_eq_true_eq, gt_iff_lt]
    by_cases hx : 1125899906842624 < pos + (ph num den adj frac).gone n <;> simp [hx]
  · have e2 : (checkS (phOK num den adj pos frac) n != 0) = true := by simpa using he
    simp only [if_neg he, e2, cond_true]
theorem s93 {k : Nat} (hk : Big k) (num den adj pos frac n : Int) : f93 k ((num, den, adj, pos, frac), n) = some (needS num den adj pos frac n) := by
  unfold f93 needS
  rw [s46 hk, Option.bind_some]
  by_cases he : checkS (phOK num den adj pos frac) n = 0
  · obtain ⟨h1, h2, h3⟩ := (checkS_zero _ _).1 he
    have h := (phOK_iff _ _ _ _ _).1 h1
    have e0 : atS num den adj pos frac n = (pos + (ph num den adj frac).gone n, (ph num den adj frac).A n % (den * 65536), 0) := by unfold atS; rw [if_pos he]
    rw [e0, if_pos he]
    simp only [bne_self_eq_false, cond_false]
    by_cases hn : n = 0
    · subst hn; simp [Ph.need]
    · have e1 : (n == 0) = false := by simpa using hn
      have e2 : IntKind.wrap .i64 (n - 1) = n - 1 := w64 (by omega) (by omega)
      have he' : checkS (phOK num den adj pos frac) (n - 1) = 0 := (checkS_zero _ _).2 ⟨h1, by omega, by omega⟩
      have e3 : atS num den adj pos frac (n - 1) = (pos + (ph num den adj frac).gone (n - 1), (ph num den adj frac).A (n - 1) % (den * 65536), 0) := by unfold atS; rw [if_pos he']
      obtain ⟨g1, g2⟩ := gone_bd h h2 h3
      obtain ⟨g3, g4⟩ := gone_bd h (show 0 ≤ n - 1 by omega) (by omega)
      have p1 := h.p0
      have p2 := h.p1
      simp only [e1, e2, cond_false, s46 hk, e3, Option.bind_some]
      rw [w64 (x := pos + (ph num den adj frac).gone (n - 1) + 2) (by omega) (by omega), (ph num den adj frac).need_eq hn]
      congr 1
      simp only [Prod.mk.injEq, and_true]
      rw [w64] <;> split <;> omega
  · have e2 : (checkS (phOK num den adj pos frac) n != 0) = true := by simpa using he
    have e0 : atS num den adj pos frac n = (0, 0, checkS (phOK num den adj pos frac) n) := by unfold atS; rw [if_neg he]
    rw [e0, if_neg he]
    simp only [e2, cond_true]
theorem s45 {k : Nat} (hk : Big k) (num den adj pos frac n : Int) : f45 k ((num, den, adj, pos, frac), n) = some (makeS num den adj pos frac n) := by
  unfold f45 makeS
  rw [s87 hk, Option.bind_some]
  by_cases h1 : phOK num den adj pos frac = true
  · have h := (phOK_iff _ _ _ _ _).1 h1
    rw [h1]
    simp only [Bool.not_true, if_true, cond_eq_ite, decide_eq_true_eq, Bool.false_eq_true, if_false]
    by_cases h2 : n < 0
    · rw [if_pos h2, if_pos (.inl h2)]
    · rw [if_neg h2]
      by_cases h3 : 1099511627776 < n
      · rw [if_pos (by omega), if_pos (.inr h3)]
      · rw [if_neg (by omega), if_neg (by omega)]
        refine loopC_spec _ (fun y => y.2.2.2 = (num, den, adj, pos, frac) ∧ y.1 = n ∧ 0 ≤ y.2.1 ∧ y.2.1 ≤ y.2.2.1 ∧ y.2.2.1 ≤ 65536 ∧ (ph num den adj frac).need y.2.1 ≤ n ∧ (y.2.2.1 < 65536 → n < (ph num den adj frac).need (y.2.2.1 + 1))) (fun y => some ((ph num den adj frac).make n, 0)) (fun y => (y.2.2.1 - y.2.1).toNat) ?_ k _ ⟨rfl, rfl, by simp, by simp, by simp, by simp [Ph.need]; omega, by simp⟩ (hk.lt (by simp))
        rintro ⟨m, lo, hi, q⟩ next ⟨g1, g0, g2, g3, g4, g5, g6⟩ hnext
        simp only at g1 g0 g2 g3 g4 g5 g6 hnext
        subst g1 g0
        unfold L45_6
        simp only
        by_cases hlt : lo < hi
        · have e1 : IntKind.wrap .i64 (lo + hi) = lo + hi := w64 (by omega) (by omega)
          have e2 : IntKind.wrap .i64 (lo + hi + 1) = lo + hi + 1 := w64 (by omega) (by omega)
          have e4 : Int.tdiv (lo + hi + 1) 2 = (lo + hi + 1) / 2 := tdiv_pos (by omega)
          have e5 : IntKind.wrap .i64 ((lo + hi + 1) / 2) = (lo + hi + 1) / 2 := w64 (by omega) (by omega)
          have e6 : IntKind.wrap .i64 ((lo + hi + 1) / 2 - 1) = (lo + hi + 1) / 2 - 1 := w64 (by omega) (by omega)
          have e7 : needS num den adj pos frac ((lo + hi + 1) / 2) = ((ph num den adj frac).need ((lo + hi + 1) / 2), 0) := by
            unfold needS
            rw [if_pos ((checkS_zero _ _).2 ⟨h1, by omega, by omega⟩)]
          simp only [hlt, decide_true, cond_true, e1, e2, e4, e5, e6, s93 hk, e7, Option.bind_some]
          by_cases hd : (ph num den adj frac).need ((lo + hi + 1) / 2) ≤ m
          · simp only [hd, decide_true, cond_true]
            exact hnext _ ⟨rfl, rfl, by simp only; omega, by simp only; omega, g4, hd, g6⟩ (by simp only; omega)
          · simp only [hd, decide_false, cond_false]
            refine hnext _ ⟨rfl, rfl, g2, by simp only; omega, by simp only; omega, g5, fun _ => ?_⟩ (by simp only; omega)
            simp only
            rw [show (lo + hi + 1) / 2 - 1 + 1 = (lo + hi + 1) / 2 by omega]
            omega
        · have : lo = hi := by omega
          subst this
          simp only [Int.lt_irrefl, decide_false, cond_false]
          rw [(ph num den adj frac).make_unique h.ok (by omega) g2 g4 g5 g6]
  · have h1 : phOK num den adj pos frac = false := by simpa using h1
    rw [h1]
    simp
end Go.Proofs.Ytbfkfobfhjgphaa.Sp
