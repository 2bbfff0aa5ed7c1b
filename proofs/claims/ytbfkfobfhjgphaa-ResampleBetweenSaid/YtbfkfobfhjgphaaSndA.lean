/- Plain arithmetic of phases and resamplers: positions, needs, the samples between two samples. No program in sight. -/
import Derived.KernelRfl
set_option linter.unusedVariables false
namespace Go.Snd

/-! ### floors -/
theorem floor_fix (s P : Int) (hP : 0 < P) : (if s.tmod P < 0 then s.tdiv P - 1 else s.tdiv P) = s / P := by
  have h1 := Int.tmod_add_mul_tdiv s P
  have h2 := Int.emod_add_mul_ediv s P
  have h3 := Int.emod_nonneg s (Int.ne_of_gt hP)
  have h4 := Int.emod_lt_of_pos s hP
  have h5 : s.tmod P < P := Int.tmod_lt_of_pos s hP
  have h6 : -P < s.tmod P := by
    have := Int.tmod_lt_of_pos (-s) hP
    rw [Int.neg_tmod] at this
    omega
  split
  · rename_i h
    have : P * (s.tdiv P - 1) + (s.tmod P + P) = P * (s / P) + s % P := by
      rw [Int.mul_sub]; omega
    have := (Int.ediv_emod_unique (a := s) (r := s.tmod P + P) (q := s.tdiv P - 1) hP).2 ⟨by rw [Int.mul_sub]; omega, by omega, by omega⟩
    exact this.1.symm
  · rename_i h
    have := (Int.ediv_emod_unique (a := s) (r := s.tmod P) (q := s.tdiv P) hP).2 ⟨by omega, by omega, by omega⟩
    exact this.1.symm

theorem mul_bd {a b A B : Int} (ha : 0 ≤ a) (hA : a ≤ A) (hb : 0 ≤ b) (hB : b ≤ B) : 0 ≤ a * b ∧ a * b ≤ A * B :=
  ⟨Int.mul_nonneg ha hb, Int.mul_le_mul hA hB hb (Int.le_trans ha hA)⟩

theorem div_add_mul (x q P : Int) (hP : 0 < P) : (x + P * q) / P = x / P + q := by
  rw [Int.add_mul_ediv_left _ _ (Int.ne_of_gt hP)]

/-! ### the sample between two samples -/
def ip (a b f P : Int) : Int := (a * (P - f) + b * f + P / 2) / P

theorem ip_same (a f P : Int) (hP : 0 < P) : ip a a f P = a := by
  unfold ip
  have : a * (P - f) + a * f = P * a := by rw [← Int.mul_add, Int.sub_add_cancel, Int.mul_comm]
  rw [this, Int.add_comm, div_add_mul _ _ _ hP]
  have : P / 2 / P = 0 := Int.ediv_eq_zero_of_lt (by omega) (by omega)
  omega
theorem ip_add (a b f P c : Int) (hP : 0 < P) : ip (a + c) (b + c) f P = ip a b f P + c := by
  unfold ip
  have : (a + c) * (P - f) + (b + c) * f + P / 2 = (a * (P - f) + b * f + P / 2) + P * c := by
    rw [Int.add_mul, Int.add_mul, Int.mul_sub c, Int.mul_comm c P]; omega
  rw [this, div_add_mul _ _ _ hP]
theorem ip_zero (a b P : Int) (hP : 0 < P) : ip a b 0 P = a := by
  have : ip a b 0 P = ip a a 0 P := by unfold ip; simp
  rw [this, ip_same _ _ _ hP]
theorem ip_ge (a b f P m : Int) (hP : 0 < P) (hf : 0 ≤ f) (hf' : f ≤ P) (ha : m ≤ a) (hb : m ≤ b) : m ≤ ip a b f P := by
  have h := ip_same m f P hP
  rw [← h]
  unfold ip
  have h1 := Int.mul_le_mul_of_nonneg_right ha (show 0 ≤ P - f by omega)
  have h2 := Int.mul_le_mul_of_nonneg_right hb hf
  exact Int.ediv_le_ediv hP (by omega)
theorem ip_le (a b f P m : Int) (hP : 0 < P) (hf : 0 ≤ f) (hf' : f ≤ P) (ha : a ≤ m) (hb : b ≤ m) : ip a b f P ≤ m := by
  have h := ip_same m f P hP
  have h1 := Int.mul_le_mul_of_nonneg_right ha (show 0 ≤ P - f by omega)
  have h2 := Int.mul_le_mul_of_nonneg_right hb hf
  have h3 : ip a b f P ≤ ip m m f P := by
    unfold ip
    exact Int.ediv_le_ediv hP (by omega)
  omega

/-! ### phases -/
/-- what a phase needs: the parts of a frame, the step, the fraction -/
structure Ph where
  P : Int
  S : Int
  F : Int
structure Ph.OK (p : Ph) : Prop where
  hP : 0 < p.P
  hS : 0 < p.S
  hF : 0 ≤ p.F
  hF' : p.F < p.P

def Ph.A (p : Ph) (n : Int) : Int := p.F + n * p.S
def Ph.need (p : Ph) (n : Int) : Int := if n = 0 then 0 else max (p.A (n - 1) / p.P + 2) (p.A n / p.P)
def Ph.adv (p : Ph) (n : Int) : Ph := ⟨p.P, p.S, p.A n % p.P⟩
def Ph.gone (p : Ph) (n : Int) : Int := p.A n / p.P

theorem Ph.A_mono (p : Ph) (h : p.OK) {m n : Int} (hmn : m ≤ n) : p.A m ≤ p.A n := by
  unfold Ph.A
  have := Int.mul_le_mul_of_nonneg_right hmn (Int.le_of_lt h.hS)
  omega
theorem Ph.A_nonneg (p : Ph) (h : p.OK) {n : Int} (hn : 0 ≤ n) : 0 ≤ p.A n := by
  unfold Ph.A
  have := Int.mul_nonneg hn (Int.le_of_lt h.hS)
  have := h.hF
  omega
theorem Ph.gone_nonneg (p : Ph) (h : p.OK) {n : Int} (hn : 0 ≤ n) : 0 ≤ p.gone n := Int.ediv_nonneg (p.A_nonneg h hn) (Int.le_of_lt h.hP)
theorem Ph.gone_mono (p : Ph) (h : p.OK) {m n : Int} (hmn : m ≤ n) : p.gone m ≤ p.gone n := Int.ediv_le_ediv h.hP (p.A_mono h hmn)
theorem Ph.gone_zero (p : Ph) (h : p.OK) : p.gone 0 = 0 := by
  unfold Ph.gone Ph.A
  rw [Int.zero_mul, Int.add_zero]
  exact Int.ediv_eq_zero_of_lt h.hF h.hF'
theorem Ph.need_eq (p : Ph) {n : Int} (hn : n ≠ 0) : p.need n = max (p.gone (n - 1) + 2) (p.gone n) := by
  unfold Ph.need Ph.gone; rw [if_neg hn]
theorem Ph.need_nonneg (p : Ph) (h : p.OK) {n : Int} (hn : 0 ≤ n) : 0 ≤ p.need n := by
  by_cases h0 : n = 0
  · subst h0; simp [Ph.need]
  · rw [p.need_eq h0]
    have := p.gone_nonneg h hn
    omega
theorem Ph.need_mono (p : Ph) (h : p.OK) {m n : Int} (hm : 0 ≤ m) (hmn : m ≤ n) : p.need m ≤ p.need n := by
  by_cases h0 : m = 0
  · subst h0
    have := p.need_nonneg h hmn
    simpa [Ph.need] using this
  · rw [p.need_eq h0, p.need_eq (by omega)]
    have h1 := p.gone_mono h hmn
    have h2 := p.gone_mono h (show m - 1 ≤ n - 1 by omega)
    omega
theorem Ph.gone_le_need (p : Ph) (h : p.OK) {n : Int} (hn : 0 ≤ n) : p.gone n ≤ p.need n := by
  by_cases h0 : n = 0
  · subst h0; rw [p.gone_zero h]; simp [Ph.need]
  · rw [p.need_eq h0]; omega

theorem Ph.adv_ok (p : Ph) (h : p.OK) (n : Int) : (p.adv n).OK :=
  ⟨h.hP, h.hS, Int.emod_nonneg _ (Int.ne_of_gt h.hP), Int.emod_lt_of_pos _ h.hP⟩
theorem Ph.A_adv (p : Ph) (h : p.OK) (n m : Int) : p.A (n + m) = (p.adv n).A m + p.P * p.gone n := by
  unfold Ph.adv Ph.gone
  have := Int.emod_add_mul_ediv (p.A n) p.P
  show p.F + (n + m) * p.S = p.A n % p.P + m * p.S + p.P * (p.A n / p.P)
  rw [Int.add_mul]
  unfold Ph.A at *
  omega
theorem Ph.gone_adv (p : Ph) (h : p.OK) (n m : Int) : p.gone (n + m) = (p.adv n).gone m + p.gone n := by
  show p.A (n + m) / p.P = (p.adv n).A m / p.P + p.gone n
  rw [p.A_adv h, div_add_mul _ _ _ h.hP]
theorem Ph.frac_adv (p : Ph) (h : p.OK) (n m : Int) : p.A (n + m) % p.P = (p.adv n).A m % p.P := by
  rw [p.A_adv h, Int.add_mul_emod_self_left]
theorem Ph.adv_adv (p : Ph) (h : p.OK) (n m : Int) : (p.adv n).adv m = p.adv (n + m) := by
  unfold Ph.adv
  simp only [Ph.mk.injEq, true_and]
  exact (p.frac_adv h n m).symm
theorem Ph.need_adv (p : Ph) (h : p.OK) (n : Int) {m : Int} (hm : 0 < m) (hn : 0 ≤ n) : p.need (n + m) = (p.adv n).need m + p.gone n := by
  rw [p.need_eq (by omega), (p.adv n).need_eq (by omega), show n + m - 1 = n + (m - 1) by omega, p.gone_adv h, p.gone_adv h]
  omega
theorem Ph.adv_zero (p : Ph) (h : p.OK) : p.adv 0 = p := by
  unfold Ph.adv Ph.A
  rw [Int.zero_mul, Int.add_zero, Int.emod_eq_of_lt h.hF h.hF']

/-! ### the greatest number of frames that can be made -/
def top : Int := 65536
theorem exists_make (g : Int → Int) (w : Int) : ∀ n : Nat, ∃ m : Int, 0 ≤ m ∧ m ≤ n ∧ (g m ≤ w ∨ m = 0) ∧ ∀ j : Int, m < j → j ≤ n → w < g j
  | 0 => ⟨0, by omega, by simp, .inr rfl, fun j h1 h2 => by simp at h2; omega⟩
  | n + 1 => by
    by_cases h : g ((n : Int) + 1) ≤ w
    · exact ⟨(n : Int) + 1, by omega, by simp, .inl h, fun j h1 h2 => by simp at h2; omega⟩
    · obtain ⟨m, h1, h2, h3, h4⟩ := exists_make g w n
      refine ⟨m, h1, by simp; omega, h3, fun j h5 h6 => ?_⟩
      simp at h6
      by_cases hj : j = (n : Int) + 1
      · subst hj; omega
      · exact h4 j h5 (by omega)
noncomputable def Ph.make (p : Ph) (w : Int) : Int := Classical.choose (exists_make p.need w 65536)
theorem Ph.make_nonneg (p : Ph) (w : Int) : 0 ≤ p.make w := (Classical.choose_spec (exists_make p.need w 65536)).1
theorem Ph.make_le (p : Ph) (w : Int) : p.make w ≤ 65536 := by
  have h : p.make w ≤ ((65536 : Nat) : Int) := (Classical.choose_spec (exists_make p.need w 65536)).2.1
  omega
theorem Ph.need_make (p : Ph) {w : Int} (hw : 0 ≤ w) : p.need (p.make w) ≤ w := by
  rcases (Classical.choose_spec (exists_make p.need w 65536)).2.2.1 with h | h
  · exact h
  · show p.need (p.make w) ≤ w
    have : p.make w = 0 := h
    rw [this]; simpa [Ph.need] using hw
theorem Ph.make_max (p : Ph) (w : Int) {j : Int} (h : p.make w < j) (h' : j ≤ 65536) : w < p.need j := (Classical.choose_spec (exists_make p.need w 65536)).2.2.2 j h (by omega)
theorem Ph.le_make (p : Ph) (h : p.OK) {w j : Int} (hj' : j ≤ 65536) (hn : p.need j ≤ w) : j ≤ p.make w := by
  by_cases hlt : p.make w < j
  · have := p.make_max w hlt hj'; omega
  · omega
theorem Ph.need_of_le_make (p : Ph) (h : p.OK) {w j : Int} (hw : 0 ≤ w) (hj : 0 ≤ j) (hj' : j ≤ p.make w) : p.need j ≤ w :=
  Int.le_trans (p.need_mono h hj hj') (p.need_make hw)
/-- the number is the only one with these properties -/
theorem Ph.make_unique (p : Ph) (h : p.OK) {w m : Int} (hw : 0 ≤ w) (h0 : 0 ≤ m) (h1 : m ≤ 65536) (h2 : p.need m ≤ w) (h3 : m < 65536 → w < p.need (m + 1)) : p.make w = m := by
  have h4 := p.le_make h h1 h2
  by_cases hlt : m < p.make w
  · have := h3 (by have := p.make_le w; omega)
    have := p.need_of_le_make h hw (show 0 ≤ m + 1 by omega) (show m + 1 ≤ p.make w by omega)
    omega
  · omega
/-- after some frames have been taken, and others have come -/
theorem Ph.make_adv (p : Ph) (h : p.OK) {w w' n : Int} (hw : 0 ≤ w) (hn : 0 ≤ n) (hn' : p.need n ≤ w) (hw' : w ≤ w') (hlt : p.make w' < 65536) : (p.adv n).make (w' - p.gone n) = p.make w' - n := by
  have hg := p.gone_le_need h hn
  have hnm : n ≤ p.make w' := by
    by_cases hh : n ≤ 65536
    · exact p.le_make h hh (by omega)
    · have h1 := p.make_max w' (j := 65536) hlt (by omega)
      have h2 := p.need_mono h (show (0:Int) ≤ 65536 by omega) (show 65536 ≤ n by omega)
      omega
  refine (p.adv n).make_unique (p.adv_ok h n) (by omega) (by omega) (by have := p.make_le w'; omega) ?_ ?_
  · by_cases h0 : p.make w' - n = 0
    · rw [h0]; simp [Ph.need]; omega
    · have h1 := p.need_adv h n (m := p.make w' - n) (by omega) hn
      rw [show n + (p.make w' - n) = p.make w' by omega] at h1
      have := p.need_make (w := w') (by omega)
      omega
  · intro _
    have h1 := p.need_adv h n (m := p.make w' - n + 1) (by omega) hn
    rw [show n + (p.make w' - n + 1) = p.make w' + 1 by omega] at h1
    have := p.make_max w' (j := p.make w' + 1) (by omega) (by omega)
    omega
/-- a bound: fewer frames than ways into what waits -/
theorem Ph.make_mul (p : Ph) (h : p.OK) {w : Int} (hw : 0 ≤ w) : (p.make w - 1) * p.S ≤ w * p.P := by
  by_cases h0 : p.make w = 0
  · rw [h0]
    have := h.hS
    have := Int.mul_nonneg hw (Int.le_of_lt h.hP)
    omega
  · have h1 := p.need_make hw
    rw [p.need_eq h0] at h1
    have h2 : p.gone (p.make w - 1) ≤ w - 2 := by omega
    have h3 := Int.mul_le_mul_of_nonneg_left h2 (Int.le_of_lt h.hP)
    have h4 := Int.emod_add_mul_ediv (p.A (p.make w - 1)) p.P
    have h5 := Int.emod_lt_of_pos (p.A (p.make w - 1)) h.hP
    unfold Ph.gone at h3
    have h6 : p.A (p.make w - 1) = p.F + (p.make w - 1) * p.S := rfl
    have h7 := h.hF
    have h8 := h.hP
    rw [Int.mul_sub, Int.mul_comm p.P w] at h3
    omega
end Go.Snd
