/- What the makers of inputs give: numbers, waves, ratios, resamplers. -/
import Derived.Test.YtbfkfobfhjgphaaSpE
set_option linter.unusedVariables false
set_option linter.unusedSimpArgs false
namespace Go.Proofs.Ytbfkfobfhjgphaa.Sp
open Go Go.Pev Go.Snd Go.Proofs.Ytbfkfobfhjgphaa.Fn

/-! ### dice -/
def D8 (l : List Int) : Prop := l.length ≤ 300 ∧ ∀ x ∈ l, 0 ≤ x ∧ x ≤ 255
theorem D8_of {l : List Int} (h : ∀ x ∈ l, (Lit.int .u8 x).wf = true) : ∀ x ∈ l, 0 ≤ x ∧ x ≤ 255 := by
  intro x hx
  have := h x hx
  simp only [Lit.wf, Bool.and_eq_true, decide_eq_true_eq] at this
  have e1 : IntKind.min .u8 = 0 := by decide
  have e2 : IntKind.max .u8 = 255 := by decide
  rw [e1, e2] at this
  exact this
theorem s22 (k : Nat) {l : List Int} (h : ∀ x ∈ l, 0 ≤ x ∧ x ≤ 255) : ∃ l', f22 k l = some l' ∧ D8 l' := by
  refine ⟨l.take 300, ?_, by simp; omega, fun x hx => h x (List.mem_of_mem_take hx)⟩
  unfold f22
  have e : (if (300 : Int) < (l.length : Int) then (300 : Int) else (l.length : Int)) = ((min 300 l.length : Nat) : Int) := by split <;> omega
  have d1 : decide ((0 : Int) ≤ ((min 300 l.length : Nat) : Int)) = true := by simp only [decide_eq_true_eq]; omega
  have d2 : decide (((min 300 l.length : Nat) : Int) ≤ (l.length : Int)) = true := by simp only [decide_eq_true_eq]; omega
  simp only [e, d1, d2, Int.le_refl, decide_true, Bool.and_self, cond_true, Int.toNat_natCast, Int.toNat_zero, List.drop_zero]
  rcases Nat.lt_or_ge 300 l.length with hh | hh
  · rw [show min 300 l.length = 300 by omega]
  · rw [show min 300 l.length = l.length by omega, List.take_of_length_le (Nat.le_refl _), List.take_of_length_le hh]
theorem s51 (k : Nat) {l : List Int} (h : D8 l) (n : Int) : ∃ r l', f51 k (l, n) = some (r, l') ∧ D8 l' ∧ 0 ≤ r ∧ (1 ≤ n → r < n) ∧ (l = [] → r = 0) := by
  unfold f51
  cases l with
  | nil => exact ⟨0, [], by simp, h, by omega, by omega, fun _ => rfl⟩
  | cons a l =>
    have h0 : ((((a :: l).length : Int)) == (0 : Int)) = false := by simp; omega
    simp only [h0, cond_false]
    by_cases hn : n ≤ 1
    · exact ⟨0, a :: l, by simp [hn], h, by omega, by omega, fun _ => rfl⟩
    · obtain ⟨a1, a2⟩ := h.2 a (by simp)
      have hl := h.1
      have e1 : IntKind.wrap .i64 a = a := w64 (by omega) (by omega)
      have hn0 : (n == 0) = false := by simp; omega
      have d1 : decide ((1 : Int) ≤ ((a :: l).length : Int)) = true := by simp only [decide_eq_true_eq, List.length_cons]; omega
      have d2 : decide ((0 : Int) < ((a :: l).length : Int)) = true := by simp only [decide_eq_true_eq, List.length_cons]; omega
      have e2 : (a :: l).getD (Int.toNat 0) 0 = a := rfl
      have e3 : ((a :: l).take ((a :: l).length : Int).toNat).drop (Int.toNat 1) = l := by
        rw [Int.toNat_natCast, List.take_length]; rfl
      refine ⟨a % n, l, ?_, ⟨by simp at hl; omega, fun x hx => h.2 x (by simp [hx])⟩, Int.emod_nonneg _ (by omega), fun _ => Int.emod_lt_of_pos _ (by omega), fun hh => by cases hh⟩
      simp only [hn, decide_false, cond_false, d1, d2, Int.le_refl, decide_true, Bool.and_self, cond_true, hn0, e2, e1, e3, tmod_pos a1, (show decide ((0 : Int) ≤ 1) = true from rfl)]

/-! ### waves -/
theorem wave_isS (X : Int) : isS (IntKind.wrap .i32 (IntKind.wrap .i64 ((IntKind.wrap .i64 ((Int.tmod X 4001) - (2000 : Int))) * (1000 : Int)))) := by
  have h1 : Int.tmod X 4001 < 4001 := Int.tmod_lt_of_pos X (by omega)
  have h2 : -4001 < Int.tmod X 4001 := by
    have := Int.tmod_lt_of_pos (-X) (show (0 : Int) < 4001 by omega)
    rw [Int.neg_tmod] at this
    omega
  generalize Int.tmod X 4001 = t at *
  rw [w64 (x := t - 2000) (by omega) (by omega), w64 (by omega) (by omega), w32 (by omega) (by omega)]
  exact ⟨by omega, by omega⟩
def waveV (seed i c : Int) : Int := IntKind.wrap .i32 (IntKind.wrap .i64 ((IntKind.wrap .i64 ((Int.tmod (IntKind.wrap .i64 ((IntKind.wrap .i64 ((IntKind.wrap .i64 (i * (7919 : Int))) + (IntKind.wrap .i64 (c * (104729 : Int))))) + (IntKind.wrap .i64 (seed * (15485863 : Int))))) (4001 : Int)) - (2000 : Int))) * (1000 : Int)))
def waveF (seed : Int) (ch i : Nat) : List Int := (List.range ch).map fun c : Nat => waveV seed i c
def waveL (seed : Int) (ch n : Nat) : List Int := (List.range n).flatMap (waveF seed ch)
theorem waveL_len (seed : Int) (ch : Nat) : ∀ n, (waveL seed ch n).length = n * ch
  | 0 => by simp [waveL]
  | n + 1 => by
    have := waveL_len seed ch n
    unfold waveL at *
    rw [List.range_succ, List.flatMap_append, List.length_append, this, Nat.add_mul]
    simp [waveF]
theorem waveL_isS (seed : Int) (ch n : Nat) : ∀ x ∈ waveL seed ch n, isS x := by
  intro x hx
  obtain ⟨i, _, hi⟩ := List.mem_flatMap.1 hx
  obtain ⟨c, _, rfl⟩ := List.mem_map.1 hi
  exact wave_isS _
theorem s24 {k : Nat} (hk : Big k) (seed ch n : Int) (hc : ch ≤ 100) (h0 : 0 ≤ n) (hn : n ≤ 1000000) : f24 k (seed, ch, 0, n) = some (ch, waveL seed ch.toNat n.toNat) := by
  have inner : ∀ {R : Type} (K0 : (Int × Int × Int × Int × Int × Int × Int × List Int) → Option R) (i : Nat) (z c' : Int) (data : List Int), data.length ≤ 100000000000 →
      loopC k (L24_6 k K0) (seed, ch, 0, n, (i : Int), 0, z, c', data) = K0 (seed, ch, 0, n, (i : Int), z, c', data ++ waveF seed ch.toNat i) := by
    intro R K0 i z c' data hlen
    refine (loopC_spec (L24_6 k K0) (fun y => ∃ c : Nat, ∃ e : List Int, y = (seed, ch, 0, n, (i : Int), (c : Int), z, c', e) ∧ c ≤ ch.toNat ∧ e.length ≤ 100000000000 + c)
      (fun y => K0 (seed, ch, 0, n, (i : Int), z, c', y.2.2.2.2.2.2.2.2 ++ (List.range' y.2.2.2.2.2.1.toNat (ch.toNat - y.2.2.2.2.2.1.toNat)).map fun c : Nat => waveV seed i c)) (fun y => (ch - y.2.2.2.2.2.1).toNat) ?_ k _ ⟨0, data, rfl, Nat.zero_le _, by omega⟩ (hk.lt (by simp; omega))).trans (by simp [waveF, List.range_eq_range'])
    rintro y next ⟨c, e, rfl, hc', hel⟩ hnext
    simp only at hnext
    have ec : ((c : Int)).toNat = c := by omega
    unfold L24_6
    simp only [ec]
    by_cases hlt : (c : Int) < ch
    · have hw : IntKind.wrap .i64 ((c : Int) + 1) = ((c + 1 : Nat) : Int) := by rw [w64 (by omega) (by omega)]; omega
      simp only [hlt, decide_true, cond_true, hw]
      rw [maxB (by simp; omega), cond_true, hnext _ ⟨c + 1, _, rfl, by omega, by simp; omega⟩ (by simp only; omega)]
      have ec' : (((c + 1 : Nat) : Int)).toNat = c + 1 := by omega
      simp only [ec']
      rw [show ch.toNat - c = (ch.toNat - (c + 1)) + 1 by omega, List.range'_succ, List.map_cons, List.append_assoc]
      rfl
    · simp only [hlt, decide_false, cond_false]
      rw [show ch.toNat - c = 0 by omega]
      simp
  unfold f24
  refine (loopC_spec (L24_3 k (fun z3 => some z3.2)) (fun y => ∃ i : Nat, ∃ e : List Int, y = (seed, ch, 0, n, (i : Int), 0, ch, e) ∧ i ≤ n.toNat ∧ e.length = i * ch.toNat)
    (fun y => some (ch, y.2.2.2.2.2.2.2 ++ (List.range' y.2.2.2.2.1.toNat (n.toNat - y.2.2.2.2.1.toNat)).flatMap (waveF seed ch.toNat))) (fun y => (n - y.2.2.2.2.1).toNat) ?_ k _ ⟨0, [], rfl, Nat.zero_le _, by simp⟩ (hk.lt (by simp; omega))).trans (by simp [waveL, List.range_eq_range'])
  rintro y next ⟨i, e, rfl, hi, hel⟩ hnext
  simp only at hnext
  have ei : ((i : Int)).toNat = i := by omega
  have hw : IntKind.wrap .i64 (0 + n) = n := by rw [Int.zero_add]; exact w64 (by omega) (by omega)
  unfold L24_3
  simp only [ei, hw]
  by_cases hlt : (i : Int) < n
  · have hw' : IntKind.wrap .i64 ((i : Int) + 1) = ((i + 1 : Nat) : Int) := by rw [w64 (by omega) (by omega)]; omega
    have hb : i * ch.toNat ≤ 1000000 * 100 := Nat.mul_le_mul (by omega) (by omega)
    simp only [hlt, decide_true, cond_true]
    rw [inner _ i 0 ch e (by omega)]
    simp only [hw']
    rw [hnext _ ⟨i + 1, _, rfl, by omega, by rw [List.length_append, hel]; simp [waveF, Nat.add_mul]⟩ (by simp only; omega)]
    have ei' : (((i + 1 : Nat) : Int)).toNat = i + 1 := by omega
    simp only [ei']
    rw [show n.toNat - i = (n.toNat - (i + 1)) + 1 by omega, List.range'_succ, List.flatMap_cons, List.append_assoc]
  · simp only [hlt, decide_false, cond_false]
    rw [show n.toNat - i = 0 by omega]
    simp
theorem wave_ok (seed : Int) {ch n : Int} (h1 : 1 ≤ ch) (h2 : ch ≤ 8) (h0 : 0 ≤ n) (hn : n ≤ 65536) : BkOK ch (waveL seed ch.toNat n.toNat) ∧ frames ch (waveL seed ch.toNat n.toNat) = n := by
  have hl := waveL_len seed ch.toNat n.toNat
  have hl' : ((waveL seed ch.toNat n.toNat).length : Int) = n * ch := by
    rw [hl, Int.natCast_mul]
    congr 1 <;> omega
  have hf : frames ch (waveL seed ch.toNat n.toNat) = n := by
    unfold frames
    rw [hl', Int.mul_ediv_cancel _ (by omega)]
  refine ⟨⟨h1, h2, ?_, ?_, waveL_isS _ _ _⟩, hf⟩
  · rw [hl', Int.mul_emod_left]
  · show frames ch _ ≤ _
    omega

/-! ### ratios of two rates -/
theorem s101 {k : Nat} (hk : Big k) {a b : Int} (ha : 1 ≤ a) (ha' : a ≤ 768000) (hb : 1 ≤ b) (hb' : b ≤ 768000) :
    f101 k (a, b) = some ((a / (Int.gcd a b : Int), b / (Int.gcd a b : Int)), 0) := by
  unfold f101
  have hg : 0 < Int.gcd a b := by
    rw [Int.gcd_pos_iff]; left; omega
  have g0 : ((Int.gcd a b : Int) == 0) = false := by simp only [beq_eq_false_iff_ne]; omega
  have e1 : ¬ a < 1 := by omega
  have e2 : ¬ b < 1 := by omega
  have q1 := Int.ediv_nonneg (show 0 ≤ a by omega) (show (0 : Int) ≤ (Int.gcd a b : Int) by omega)
  have q2 := Int.ediv_le_self (Int.gcd a b : Int) (show 0 ≤ a by omega)
  have q3 := Int.ediv_nonneg (show 0 ≤ b by omega) (show (0 : Int) ≤ (Int.gcd a b : Int) by omega)
  have q4 := Int.ediv_le_self (Int.gcd a b : Int) (show 0 ≤ b by omega)
  simp only [e1, e2, decide_false, cond_false, s148 hk a b (by omega) (by omega) (by omega), Option.bind_some, g0, tdiv_pos (show 0 ≤ a by omega), tdiv_pos (show 0 ≤ b by omega), w64 (show -9223372036854775808 ≤ a / (Int.gcd a b : Int) by omega) (by omega), w64 (show -9223372036854775808 ≤ b / (Int.gcd a b : Int) by omega) (by omega), gt_iff_lt]
  have e3 : ¬ 68719476736 < a / (Int.gcd a b : Int) := by omega
  have e4 : ¬ 68719476736 < b / (Int.gcd a b : Int) := by omega
  simp only [e3, e4, decide_false, cond_false]
/-- what a made ratio is -/
structure BaseOK (num den : Int) : Prop where
  n1 : 1 ≤ num
  n2 : num ≤ 768000
  d1 : 1 ≤ den
  d2 : den ≤ 768000
  g : Int.gcd num den = 1
  r1 : den ≤ 768 * num
  r2 : num ≤ 768 * den
theorem base_ok {a b : Int} (ha : 1000 ≤ a) (ha' : a ≤ 768000) (hb : 1000 ≤ b) (hb' : b ≤ 768000) : BaseOK (a / (Int.gcd a b : Int)) (b / (Int.gcd a b : Int)) := by
  obtain ⟨m, rfl⟩ : ∃ m : Nat, a = m := ⟨a.toNat, by omega⟩
  obtain ⟨n, rfl⟩ : ∃ n : Nat, b = n := ⟨b.toNat, by omega⟩
  rw [Int.gcd_natCast_natCast, ← Int.natCast_ediv, ← Int.natCast_ediv]
  have hg : 0 < Nat.gcd m n := Nat.gcd_pos_of_pos_left _ (by omega)
  obtain ⟨x, hx⟩ := Nat.gcd_dvd_left m n
  obtain ⟨y, hy⟩ := Nat.gcd_dvd_right m n
  have e1 : m / Nat.gcd m n = x := by
    conv => lhs; arg 1; rw [hx]
    exact Nat.mul_div_cancel_left _ hg
  have e2 : n / Nat.gcd m n = y := by
    conv => lhs; arg 1; rw [hy]
    exact Nat.mul_div_cancel_left _ hg
  have hc : Nat.gcd (m / Nat.gcd m n) (n / Nat.gcd m n) = 1 := Nat.gcd_div_gcd_div_gcd_of_pos_left (by omega)
  rw [e1, e2] at hc ⊢
  have x0 : 1 ≤ x := by
    rcases Nat.eq_zero_or_pos x with h | h
    · subst h; omega
    · exact h
  have y0 : 1 ≤ y := by
    rcases Nat.eq_zero_or_pos y with h | h
    · subst h; omega
    · exact h
  have x1 : x ≤ m := by rw [hx]; exact Nat.le_mul_of_pos_left _ hg
  have y1 : y ≤ n := by rw [hy]; exact Nat.le_mul_of_pos_left _ hg
  have r1 : y ≤ 768 * x := by
    have : Nat.gcd m n * y ≤ Nat.gcd m n * (768 * x) := by
      calc Nat.gcd m n * y = n := hy.symm
        _ ≤ 768 * m := by omega
        _ = Nat.gcd m n * (768 * x) := by conv => lhs; rw [hx]
                                          ac_rfl
    exact Nat.le_of_mul_le_mul_left this hg
  have r2 : x ≤ 768 * y := by
    have : Nat.gcd m n * x ≤ Nat.gcd m n * (768 * y) := by
      calc Nat.gcd m n * x = m := hx.symm
        _ ≤ 768 * n := by omega
        _ = Nat.gcd m n * (768 * y) := by conv => lhs; rw [hy]
                                          ac_rfl
    exact Nat.le_of_mul_le_mul_left this hg
  exact ⟨by omega, by omega, by omega, by omega, by simpa using hc, by omega, by omega⟩
theorem rates_ok {i : Int} (h0 : 0 ≤ i) (h1 : i < 10) : 1000 ≤ ([(48000 : Int), (48000 : Int), (44100 : Int), (96000 : Int), (8000 : Int), (32000 : Int), (192000 : Int), (1000 : Int), (768000 : Int), (47999 : Int)]).getD i.toNat 0 ∧ ([(48000 : Int), (48000 : Int), (44100 : Int), (96000 : Int), (8000 : Int), (32000 : Int), (192000 : Int), (1000 : Int), (768000 : Int), (47999 : Int)]).getD i.toNat 0 ≤ 768000 := by
  obtain ⟨n, rfl⟩ : ∃ n : Nat, i = n := ⟨i.toNat, by omega⟩
  rw [Int.toNat_natCast]
  match n, h1 with
  | 0, _ | 1, _ | 2, _ | 3, _ | 4, _ | 5, _ | 6, _ | 7, _ | 8, _ | 9, _ => simp
  | n + 10, h => omega
theorem s48 {k : Nat} (hk : Big k) {l : List Int} (h : D8 l) : ∃ num den l', f48 k l = some ((num, den), l') ∧ D8 l' ∧ BaseOK num den := by
  obtain ⟨r1, l1, e1, h1, a1, b1, _⟩ := s51 k h 10
  obtain ⟨r2, l2, e2, h2, a2, b2, _⟩ := s51 k h1 10
  obtain ⟨c1, c2⟩ := rates_ok a1 (b1 (by omega))
  obtain ⟨c3, c4⟩ := rates_ok a2 (b2 (by omega))
  refine ⟨_, _, l2, ?_, h2, base_ok c1 c2 c3 c4⟩
  unfold f48
  have d1 : decide (r1 < (([(48000 : Int), (48000 : Int), (44100 : Int), (96000 : Int), (8000 : Int), (32000 : Int), (192000 : Int), (1000 : Int), (768000 : Int), (47999 : Int)]).length : Int)) = true := by simp; have := b1 (by omega); omega
  have d2 : decide (r2 < (([(48000 : Int), (48000 : Int), (44100 : Int), (96000 : Int), (8000 : Int), (32000 : Int), (192000 : Int), (1000 : Int), (768000 : Int), (47999 : Int)]).length : Int)) = true := by simp; have := b2 (by omega); omega
  simp only [e1, e2, Option.bind_some, d1, d2, a1, a2, decide_true, Bool.and_self, cond_true]
  rw [s101 hk (by omega) c2 (by omega) c4, Option.bind_some]
end Go.Proofs.Ytbfkfobfhjgphaa.Sp
