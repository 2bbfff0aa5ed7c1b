import Derived.KernelRfl
import Derived.Test.YtbfkfobfhjgphaaGreatPevB
import Derived.IntWalk
import Derived.Test.YtbfkfobfhjgphaaGreatFnDS
import Derived.Test.YtbfkfobfhjgphaaGreatPevRow
/- Plain arithmetic of phases and resamplers: positions, needs, the samples between two samples. No program in sight. -/
set_option linter.unusedVariables false
namespace Go.Snd

/-! ### floors -/
theorem floor_fix (s P : Int) (hP : 0 < P) : (if s.tmod P < 0 then s.tdiv P - 1 else s.tdiv P) = s / P := by
  have h1 := Int.tmod_add_mul_tdiv s P
  have h2 := Int.emod_add_mul_ediv s P
  have h3 := Int.emod_nonneg s (Int.ne_of_gt hP)
  have h4 := Int.emod_lt_of_pos s hP
  have h5 : s.tmod P < P := Int.tmod_lt_of_pos s hP
  have h6 : -P < s.tmod P := by
    have := Int.tmod_lt_of_pos (-s) hP
    rw [Int.neg_tmod] at this
    omega
  split
  · rename_i h
    have : P * (s.tdiv P - 1) + (s.tmod P + P) = P * (s / P) + s % P := by
      rw [Int.mul_sub]; omega
    have := (Int.ediv_emod_unique (a := s) (r := s.tmod P + P) (q := s.tdiv P - 1) hP).2 ⟨by rw [Int.mul_sub]; omega, by omega, by omega⟩
    exact this.1.symm
  · rename_i h
    have := (Int.ediv_emod_unique (a := s) (r := s.tmod P) (q := s.tdiv P) hP).2 ⟨by omega, by omega, by omega⟩
    exact this.1.symm

theorem mul_bd {a b A B : Int} (ha : 0 ≤ a) (hA : a ≤ A) (hb : 0 ≤ b) (hB : b ≤ B) : 0 ≤ a * b ∧ a * b ≤ A * B :=
  ⟨Int.mul_nonneg ha hb, Int.mul_le_mul hA hB hb (Int.le_trans ha hA)⟩

theorem div_add_mul (x q P : Int) (hP : 0 < P) : (x + P * q) / P = x / P + q := by
  rw [Int.add_mul_ediv_left _ _ (Int.ne_of_gt hP)]

/-! ### the sample between two samples -/
def ip (a b f P : Int) : Int := (a * (P - f) + b * f + P / 2) / P

theorem ip_same (a f P : Int) (hP : 0 < P) : ip a a f P = a := by
  unfold ip
  have : a * (P - f) + a * f = P * a := by rw [← Int.mul_add, Int.sub_add_cancel, Int.mul_comm]
  rw [this, Int.add_comm, div_add_mul _ _ _ hP]
  have : P / 2 / P = 0 := Int.ediv_eq_zero_of_lt (by omega) (by omega)
  omega
theorem ip_add (a b f P c : Int) (hP : 0 < P) : ip (a + c) (b + c) f P = ip a b f P + c := by
  unfold ip
  have : (a + c) * (P - f) + (b + c) * f + P / 2 = (a * (P - f) + b * f + P / 2) + P * c := by
    rw [Int.add_mul, Int.add_mul, Int.mul_sub c, Int.mul_comm c P]; omega
  rw [this, div_add_mul _ _ _ hP]
theorem ip_zero (a b P : Int) (hP : 0 < P) : ip a b 0 P = a := by
  have : ip a b 0 P = ip a a 0 P := by unfold ip; simp
  rw [this, ip_same _ _ _ hP]
theorem ip_ge (a b f P m : Int) (hP : 0 < P) (hf : 0 ≤ f) (hf' : f ≤ P) (ha : m ≤ a) (hb : m ≤ b) : m ≤ ip a b f P := by
  have h := ip_same m f P hP
  rw [← h]
  unfold ip
  have h1 := Int.mul_le_mul_of_nonneg_right ha (show 0 ≤ P - f by omega)
  have h2 := Int.mul_le_mul_of_nonneg_right hb hf
  exact Int.ediv_le_ediv hP (by omega)
theorem ip_le (a b f P m : Int) (hP : 0 < P) (hf : 0 ≤ f) (hf' : f ≤ P) (ha : a ≤ m) (hb : b ≤ m) : ip a b f P ≤ m := by
  have h := ip_same m f P hP
  have h1 := Int.mul_le_mul_of_nonneg_right ha (show 0 ≤ P - f by omega)
  have h2 := Int.mul_le_mul_of_nonneg_right hb hf
  have h3 : ip a b f P ≤ ip m m f P := by
    unfold ip
    exact Int.ediv_le_ediv hP (by omega)
  omega

/-! ### phases -/
/-- what a phase needs: the parts of a frame, the step, the fraction -/
structure Ph where
  P : Int
  S : Int
  F : Int
structure Ph.OK (p : Ph) : Prop where
  hP : 0 < p.P
  hS : 0 < p.S
  hF : 0 ≤ p.F
  hF' : p.F < p.P

def Ph.A (p : Ph) (n : Int) : Int := p.F + n * p.S
def Ph.need (p : Ph) (n : Int) : Int := if n = 0 then 0 else max (p.A (n - 1) / p.P + 2) (p.A n / p.P)
def Ph.adv (p : Ph) (n : Int) : Ph := ⟨p.P, p.S, p.A n % p.P⟩
def Ph.gone (p : Ph) (n : Int) : Int := p.A n / p.P

theorem Ph.A_mono (p : Ph) (h : p.OK) {m n : Int} (hmn : m ≤ n) : p.A m ≤ p.A n := by
  unfold Ph.A
  have := Int.mul_le_mul_of_nonneg_right hmn (Int.le_of_lt h.hS)
  omega
theorem Ph.A_nonneg (p : Ph) (h : p.OK) {n : Int} (hn : 0 ≤ n) : 0 ≤ p.A n := by
  unfold Ph.A
  have := Int.mul_nonneg hn (Int.le_of_lt h.hS)
  have := h.hF
  omega
theorem Ph.gone_nonneg (p : Ph) (h : p.OK) {n : Int} (hn : 0 ≤ n) : 0 ≤ p.gone n := Int.ediv_nonneg (p.A_nonneg h hn) (Int.le_of_lt h.hP)
theorem Ph.gone_mono (p : Ph) (h : p.OK) {m n : Int} (hmn : m ≤ n) : p.gone m ≤ p.gone n := Int.ediv_le_ediv h.hP (p.A_mono h hmn)
theorem Ph.gone_zero (p : Ph) (h : p.OK) : p.gone 0 = 0 := by
  unfold Ph.gone Ph.A
  rw [Int.zero_mul, Int.add_zero]
  exact Int.ediv_eq_zero_of_lt h.hF h.hF'
theorem Ph.need_eq (p : Ph) {n : Int} (hn : n ≠ 0) : p.need n = max (p.gone (n - 1) + 2) (p.gone n) := by
  unfold Ph.need Ph.gone; rw [if_neg hn]
theorem Ph.need_nonneg (p : Ph) (h : p.OK) {n : Int} (hn : 0 ≤ n) : 0 ≤ p.need n := by
  by_cases h0 : n = 0
  · subst h0; simp [Ph.need]
  · rw [p.need_eq h0]
    have := p.gone_nonneg h hn
    omega
theorem Ph.need_mono (p : Ph) (h : p.OK) {m n : Int} (hm : 0 ≤ m) (hmn : m ≤ n) : p.need m ≤ p.need n := by
  by_cases h0 : m = 0
  · subst h0
    have := p.need_nonneg h hmn
    simpa [Ph.need] using this
  · rw [p.need_eq h0, p.need_eq (by omega)]
    have h1 := p.gone_mono h hmn
    have h2 := p.gone_mono h (show m - 1 ≤ n - 1 by omega)
    omega
theorem Ph.gone_le_need (p : Ph) (h : p.OK) {n : Int} (hn : 0 ≤ n) : p.gone n ≤ p.need n := by
  by_cases h0 : n = 0
  · subst h0; rw [p.gone_zero h]; simp [Ph.need]
  · rw [p.need_eq h0]; omega

theorem Ph.adv_ok (p : Ph) (h : p.OK) (n : Int) : (p.adv n).OK :=
  ⟨h.hP, h.hS, Int.emod_nonneg _ (Int.ne_of_gt h.hP), Int.emod_lt_of_pos _ h.hP⟩
theorem Ph.A_adv (p : Ph) (h : p.OK) (n m : Int) : p.A (n + m) = (p.adv n).A m + p.P * p.gone n := by
  unfold Ph.adv Ph.gone
  have := Int.emod_add_mul_ediv (p.A n) p.P
  show p.F + (n + m) * p.S = p.A n % p.P + m * p.S + p.P * (p.A n / p.P)
  rw [Int.add_mul]
  unfold Ph.A at *
  omega
theorem Ph.gone_adv (p : Ph) (h : p.OK) (n m : Int) : p.gone (n + m) = (p.adv n).gone m + p.gone n := by
  show p.A (n + m) / p.P = (p.adv n).A m / p.P + p.gone n
  rw [p.A_adv h, div_add_mul _ _ _ h.hP]
theorem Ph.frac_adv (p : Ph) (h : p.OK) (n m : Int) : p.A (n + m) % p.P = (p.adv n).A m % p.P := by
  rw [p.A_adv h, Int.add_mul_emod_self_left]
theorem Ph.adv_adv (p : Ph) (h : p.OK) (n m : Int) : (p.adv n).adv m = p.adv (n + m) := by
  unfold Ph.adv
  simp only [Ph.mk.injEq, true_and]
  exact (p.frac_adv h n m).symm
theorem Ph.need_adv (p : Ph) (h : p.OK) (n : Int) {m : Int} (hm : 0 < m) (hn : 0 ≤ n) : p.need (n + m) = (p.adv n).need m + p.gone n := by
  rw [p.need_eq (by omega), (p.adv n).need_eq (by omega), show n + m - 1 = n + (m - 1) by omega, p.gone_adv h, p.gone_adv h]
  omega
theorem Ph.adv_zero (p : Ph) (h : p.OK) : p.adv 0 = p := by
  unfold Ph.adv Ph.A
  rw [Int.zero_mul, Int.add_zero, Int.emod_eq_of_lt h.hF h.hF']

/-! ### the greatest number of frames that can be made -/
def top : Int := 65536
theorem exists_make (g : Int → Int) (w : Int) : ∀ n : Nat, ∃ m : Int, 0 ≤ m ∧ m ≤ n ∧ (g m ≤ w ∨ m = 0) ∧ ∀ j : Int, m < j → j ≤ n → w < g j
  | 0 => ⟨0, by omega, by simp, .inr rfl, fun j h1 h2 => by simp at h2; omega⟩
  | n + 1 => by
    by_cases h : g ((n : Int) + 1) ≤ w
    · exact ⟨(n : Int) + 1, by omega, by simp, .inl h, fun j h1 h2 => by simp at h2; omega⟩
    · obtain ⟨m, h1, h2, h3, h4⟩ := exists_make g w n
      refine ⟨m, h1, by simp; omega, h3, fun j h5 h6 => ?_⟩
      simp at h6
      by_cases hj : j = (n : Int) + 1
      · subst hj; omega
      · exact h4 j h5 (by omega)
noncomputable def Ph.make (p : Ph) (w : Int) : Int := Classical.choose (exists_make p.need w 65536)
theorem Ph.make_nonneg (p : Ph) (w : Int) : 0 ≤ p.make w := (Classical.choose_spec (exists_make p.need w 65536)).1
theorem Ph.make_le (p : Ph) (w : Int) : p.make w ≤ 65536 := by
  have h : p.make w ≤ ((65536 : Nat) : Int) := (Classical.choose_spec (exists_make p.need w 65536)).2.1
  omega
theorem Ph.need_make (p : Ph) {w : Int} (hw : 0 ≤ w) : p.need (p.make w) ≤ w := by
  rcases (Classical.choose_spec (exists_make p.need w 65536)).2.2.1 with h | h
  · exact h
  · show p.need (p.make w) ≤ w
    have : p.make w = 0 := h
    rw [this]; simpa [Ph.need] using hw
theorem Ph.make_max (p : Ph) (w : Int) {j : Int} (h : p.make w < j) (h' : j ≤ 65536) : w < p.need j := (Classical.choose_spec (exists_make p.need w 65536)).2.2.2 j h (by omega)
theorem Ph.le_make (p : Ph) (h : p.OK) {w j : Int} (hj' : j ≤ 65536) (hn : p.need j ≤ w) : j ≤ p.make w := by
  by_cases hlt : p.make w < j
  · have := p.make_max w hlt hj'; omega
  · omega
theorem Ph.need_of_le_make (p : Ph) (h : p.OK) {w j : Int} (hw : 0 ≤ w) (hj : 0 ≤ j) (hj' : j ≤ p.make w) : p.need j ≤ w :=
  Int.le_trans (p.need_mono h hj hj') (p.need_make hw)
/-- the number is the only one with these properties -/
theorem Ph.make_unique (p : Ph) (h : p.OK) {w m : Int} (hw : 0 ≤ w) (h0 : 0 ≤ m) (h1 : m ≤ 65536) (h2 : p.need m ≤ w) (h3 : m < 65536 → w < p.need (m + 1)) : p.make w = m := by
  have h4 := p.le_make h h1 h2
  by_cases hlt : m < p.make w
  · have := h3 (by have := p.make_le w; omega)
    have := p.need_of_le_make h hw (show 0 ≤ m + 1 by omega) (show m + 1 ≤ p.make w by omega)
    omega
  · omega
/-- after some frames have been taken, and others have come -/
theorem Ph.make_adv (p : Ph) (h : p.OK) {w w' n : Int} (hw : 0 ≤ w) (hn : 0 ≤ n) (hn' : p.need n ≤ w) (hw' : w ≤ w') (hlt : p.make w' < 65536) : (p.adv n).make (w' - p.gone n) = p.make w' - n := by
  have hg := p.gone_le_need h hn
  have hnm : n ≤ p.make w' := by
    by_cases hh : n ≤ 65536
    · exact p.le_make h hh (by omega)
    · have h1 := p.make_max w' (j := 65536) hlt (by omega)
      have h2 := p.need_mono h (show (0:Int) ≤ 65536 by omega) (show 65536 ≤ n by omega)
      omega
  refine (p.adv n).make_unique (p.adv_ok h n) (by omega) (by omega) (by have := p.make_le w'; omega) ?_ ?_
  · by_cases h0 : p.make w' - n = 0
    · rw [h0]; simp [Ph.need]; omega
    · have h1 := p.need_adv h n (m := p.make w' - n) (by omega) hn
      rw [show n + (p.make w' - n) = p.make w' by omega] at h1
      have := p.need_make (w := w') (by omega)
      omega
  · intro _
    have h1 := p.need_adv h n (m := p.make w' - n + 1) (by omega) hn
    rw [show n + (p.make w' - n + 1) = p.make w' + 1 by omega] at h1
    have := p.make_max w' (j := p.make w' + 1) (by omega) (by omega)
    omega
/-- a bound: fewer frames than ways into what waits -/
theorem Ph.make_mul (p : Ph) (h : p.OK) {w : Int} (hw : 0 ≤ w) : (p.make w - 1) * p.S ≤ w * p.P := by
  by_cases h0 : p.make w = 0
  · rw [h0]
    have := h.hS
    have := Int.mul_nonneg hw (Int.le_of_lt h.hP)
    omega
  · have h1 := p.need_make hw
    rw [p.need_eq h0] at h1
    have h2 : p.gone (p.make w - 1) ≤ w - 2 := by omega
    have h3 := Int.mul_le_mul_of_nonneg_left h2 (Int.le_of_lt h.hP)
    have h4 := Int.emod_add_mul_ediv (p.A (p.make w - 1)) p.P
    have h5 := Int.emod_lt_of_pos (p.A (p.make w - 1)) h.hP
    unfold Ph.gone at h3
    have h6 : p.A (p.make w - 1) = p.F + (p.make w - 1) * p.S := rfl
    have h7 := h.hF
    have h8 := h.hP
    rw [Int.mul_sub, Int.mul_comm p.P w] at h3
    omega
end Go.Snd

/- Plain arithmetic of resamplers: the frames that come out. No program in sight. -/
set_option linter.unusedVariables false
namespace Go.Snd

/-- sample c of frame k -/
def smp (ch : Nat) (rest : List Int) (k c : Nat) : Int := rest.getD (k * ch + c) 0
/-- output frame i; input frames after the last one are as that one -/
def fr (p : Ph) (ch : Nat) (rest : List Int) (w : Nat) (i : Nat) : List Int :=
  (List.range ch).map fun c => ip (smp ch rest (min (p.gone i).toNat (w - 1)) c) (smp ch rest (min ((p.gone i).toNat + 1) (w - 1)) c) (p.A i % p.P) p.P
def out (p : Ph) (ch : Nat) (rest : List Int) (w n : Nat) : List Int := (List.range n).flatMap (fr p ch rest w)

theorem fr_length (p : Ph) (ch : Nat) (rest : List Int) (w i : Nat) : (fr p ch rest w i).length = ch := by simp [fr]
theorem out_zero (p : Ph) (ch : Nat) (rest : List Int) (w : Nat) : out p ch rest w 0 = [] := by simp [out]
theorem out_succ (p : Ph) (ch : Nat) (rest : List Int) (w n : Nat) : out p ch rest w (n + 1) = out p ch rest w n ++ fr p ch rest w n := by
  simp [out, List.range_succ]
theorem out_length (p : Ph) (ch : Nat) (rest : List Int) (w : Nat) : ∀ n, (out p ch rest w n).length = n * ch
  | 0 => by simp [out]
  | n + 1 => by rw [out_succ, List.length_append, out_length p ch rest w n, fr_length, Nat.add_mul, Nat.one_mul]
theorem range_add (n m : Nat) : List.range (n + m) = List.range n ++ (List.range m).map (n + ·) := by
  induction m with
  | zero => simp
  | succ m ih => rw [← Nat.add_assoc, List.range_succ, ih, List.range_succ]; simp
theorem out_add (p : Ph) (ch : Nat) (rest : List Int) (w n m : Nat) : out p ch rest w (n + m) = out p ch rest w n ++ (List.range m).flatMap (fun i => fr p ch rest w (n + i)) := by
  simp [out, range_add, List.flatMap_map]
theorem flatMap_congr {α β : Type} : ∀ (l : List α) (f g : α → List β), (∀ a ∈ l, f a = g a) → l.flatMap f = l.flatMap g
  | [], _, _, _ => rfl
  | a :: l, f, g, h => by
    rw [List.flatMap_cons, List.flatMap_cons, h a (by simp), flatMap_congr l f g fun b hb => h b (by simp [hb])]
theorem out_congr (p q : Ph) (ch : Nat) (r s : List Int) (w v n : Nat) (h : ∀ i, i < n → fr p ch r w i = fr q ch s v i) : out p ch r w n = out q ch s v n :=
  flatMap_congr _ _ _ fun i hi => h i (by simpa using hi)

theorem smp_drop (ch : Nat) (rest : List Int) (g k c : Nat) : smp ch (rest.drop (g * ch)) k c = smp ch rest (k + g) c := by
  unfold smp
  rw [List.getD_eq_getElem?_getD, List.getD_eq_getElem?_getD, List.getElem?_drop]
  congr 2
  rw [Nat.add_mul]; omega
theorem smp_append (ch : Nat) (r s : List Int) (w k c : Nat) (hr : r.length = w * ch) (hk : k < w) (hc : c < ch) : smp ch (r ++ s) k c = smp ch r k c := by
  unfold smp
  rw [List.getD_eq_getElem?_getD, List.getD_eq_getElem?_getD, List.getElem?_append_left]
  rw [hr]
  calc k * ch + c < k * ch + ch := by omega
    _ = (k + 1) * ch := by rw [Nat.add_mul, Nat.one_mul]
    _ ≤ w * ch := Nat.mul_le_mul_right _ hk

/-- frames that are wholly there do not depend on what comes behind -/
theorem fr_append (p : Ph) (ch : Nat) (r s : List Int) (w v i : Nat) (hr : r.length = w * ch) (hi : (p.gone i).toNat + 1 < w) (hv : w ≤ v) : fr p ch (r ++ s) v i = fr p ch r w i := by
  unfold fr
  refine List.map_congr_left fun c hc => ?_
  have hc : c < ch := by simpa using hc
  rw [show min (p.gone i).toNat (v - 1) = (p.gone i).toNat by omega, show min (p.gone i).toNat (w - 1) = (p.gone i).toNat by omega,
    show min ((p.gone i).toNat + 1) (v - 1) = (p.gone i).toNat + 1 by omega, show min ((p.gone i).toNat + 1) (w - 1) = (p.gone i).toNat + 1 by omega,
    smp_append ch r s w _ c hr (by omega) hc, smp_append ch r s w _ c hr (by omega) hc]

/-- frames behind some that have been taken -/
theorem fr_adv (p : Ph) (h : p.OK) (ch : Nat) (rest : List Int) (w n i : Nat) (hg : (p.gone n).toNat < w) :
    fr p ch rest w (n + i) = fr (p.adv n) ch (rest.drop ((p.gone n).toNat * ch)) (w - (p.gone n).toNat) i := by
  unfold fr
  refine List.map_congr_left fun c hc => ?_
  have h1 := p.gone_adv h n i
  have h2 := p.frac_adv h n i
  have h3 := p.gone_nonneg h (show (0 : Int) ≤ n by omega)
  have h4 := (p.adv n).gone_nonneg (p.adv_ok h n) (show (0 : Int) ≤ i by omega)
  rw [smp_drop, smp_drop, show ((n + i : Nat) : Int) = (n : Int) + i by omega, h2, h1]
  have e1 : min ((p.adv n).gone i + p.gone n).toNat (w - 1) = min ((p.adv n).gone i).toNat (w - (p.gone n).toNat - 1) + (p.gone n).toNat := by omega
  have e2 : min (((p.adv n).gone i + p.gone n).toNat + 1) (w - 1) = min (((p.adv n).gone i).toNat + 1) (w - (p.gone n).toNat - 1) + (p.gone n).toNat := by omega
  rw [e1, e2]
  rfl

/-- taking in two steps, more coming in between -/
theorem out_pieces (p : Ph) (h : p.OK) (ch : Nat) (r s : List Int) (w v n m : Nat) (hr : r.length = w * ch) (hs : s.length = v * ch) (hn : p.need n ≤ w) (hnm : p.need (n + m : Nat) ≤ (w + v : Nat)) :
    out p ch (r ++ s) (w + v) (n + m) = out p ch r w n ++ out (p.adv n) ch ((r.drop ((p.gone n).toNat * ch)) ++ s) (w + v - (p.gone n).toNat) m := by
  rw [out_add]
  have hgn := p.gone_le_need h (show (0 : Int) ≤ n by omega)
  have hg0 := p.gone_nonneg h (show (0 : Int) ≤ n by omega)
  congr 1
  · refine out_congr _ _ _ _ _ _ _ _ fun i hi => ?_
    refine fr_append p ch r s w (w + v) i hr ?_ (by omega)
    have h1 := p.need_mono h (show (0 : Int) ≤ ((i : Int) + 1) by omega) (show (i : Int) + 1 ≤ n by omega)
    rw [p.need_eq (by omega), show (i : Int) + 1 - 1 = i by omega] at h1
    have h2 := p.gone_nonneg h (show (0 : Int) ≤ i by omega)
    omega
  · by_cases hm : m = 0
    · subst hm; simp [out]
    · unfold out
      refine flatMap_congr _ _ _ fun i hi => ?_
      have hi : i < m := by simpa using hi
      have h1 := p.need_mono h (show (0 : Int) ≤ ((n + m : Nat) : Int) by omega) (Int.le_refl _)
      rw [p.need_eq (show ((n + m : Nat) : Int) ≠ 0 by omega)] at h1 hnm
      have h2 := p.gone_mono h (show (n : Int) ≤ ((n + m : Nat) : Int) - 1 by omega)
      rw [fr_adv p h ch (r ++ s) (w + v) n i (by omega)]
      congr 1
      rw [List.drop_append_of_le_length]
      rw [hr]
      exact Nat.mul_le_mul_right _ (by omega)

/-- all samples come from within -/
def isS (s : Int) : Prop := -8388608 ≤ s ∧ s ≤ 8388607
theorem smp_isS (ch : Nat) (rest : List Int) (h : ∀ s ∈ rest, isS s) (k c : Nat) : isS (smp ch rest k c) := by
  unfold smp
  rw [List.getD_eq_getElem?_getD]
  cases hx : rest[k * ch + c]? with
  | none => simp [isS]
  | some s => exact h s (List.mem_of_getElem? hx)
theorem fr_isS (p : Ph) (h : p.OK) (ch : Nat) (rest : List Int) (hr : ∀ s ∈ rest, isS s) (w i : Nat) : ∀ s ∈ fr p ch rest w i, isS s := by
  intro s hs
  unfold fr at hs
  obtain ⟨c, _, rfl⟩ := List.mem_map.1 hs
  have h1 := Int.emod_nonneg (p.A i) (Int.ne_of_gt h.hP)
  have h2 := Int.emod_lt_of_pos (p.A i) h.hP
  have h3 := smp_isS ch rest hr (min (p.gone i).toNat (w - 1)) c
  have h4 := smp_isS ch rest hr (min ((p.gone i).toNat + 1) (w - 1)) c
  exact ⟨ip_ge _ _ _ _ _ h.hP h1 (Int.le_of_lt h2) h3.1 h4.1, ip_le _ _ _ _ _ h.hP h1 (Int.le_of_lt h2) h3.2 h4.2⟩
theorem out_isS (p : Ph) (h : p.OK) (ch : Nat) (rest : List Int) (hr : ∀ s ∈ rest, isS s) (w n : Nat) : ∀ s ∈ out p ch rest w n, isS s := by
  intro s hs
  obtain ⟨i, _, hi⟩ := List.mem_flatMap.1 hs
  exact fr_isS p h ch rest hr w i s hi

/-- one sample of what comes out -/
theorem out_get (p : Ph) (ch : Nat) (rest : List Int) (w : Nat) : ∀ (n i c : Nat), i < n → c < ch →
    (out p ch rest w n)[i * ch + c]? = some (ip (smp ch rest (min (p.gone i).toNat (w - 1)) c) (smp ch rest (min ((p.gone i).toNat + 1) (w - 1)) c) (p.A i % p.P) p.P)
  | 0, i, c, h, _ => absurd h (Nat.not_lt_zero _)
  | n + 1, i, c, h, hc => by
    rw [out_succ]
    by_cases hi : i < n
    · have : i * ch + c < n * ch := by
        calc i * ch + c < i * ch + ch := by omega
          _ = (i + 1) * ch := by rw [Nat.add_mul, Nat.one_mul]
          _ ≤ n * ch := Nat.mul_le_mul_right _ hi
      rw [List.getElem?_append_left (by rw [out_length]; exact this)]
      exact out_get p ch rest w n i c hi hc
    · have : i = n := by omega
      subst this
      rw [List.getElem?_append_right (by rw [out_length]; omega), out_length, Nat.add_sub_cancel_left]
      unfold fr
      rw [List.getElem?_map, List.getElem?_range hc]
      rfl

/-! ### how many frames are left at the end -/
def cdiv (a b : Int) : Int := (a + b - 1) / b
theorem lt_cdiv {a b k : Int} (hb : 0 < b) : k < cdiv a b ↔ k * b < a := by
  unfold cdiv
  rw [show (k < (a + b - 1) / b) = (k + 1 ≤ (a + b - 1) / b) from rfl, Int.le_ediv_iff_mul_le hb, Int.add_mul]
  omega
theorem cdiv_le {a b k : Int} (hb : 0 < b) : cdiv a b ≤ k ↔ a ≤ k * b := by
  have := lt_cdiv (a := a) (b := b) (k := k) hb
  omega
/-- so many frames begin ahead of the end -/
def Ph.left (p : Ph) (w : Int) : Int := if 0 < w * p.P - p.F then cdiv (w * p.P - p.F) p.S else 0
theorem Ph.left_nonneg (p : Ph) (h : p.OK) (w : Int) : 0 ≤ p.left w := by
  unfold Ph.left
  split
  · rename_i h0
    have := (lt_cdiv (a := w * p.P - p.F) (b := p.S) (k := 0) h.hS).2 (by omega)
    omega
  · omega
theorem Ph.lt_left (p : Ph) (h : p.OK) {w k : Int} (hk : 0 ≤ k) : k < p.left w ↔ p.gone k < w := by
  unfold Ph.gone
  rw [Int.ediv_lt_iff_lt_mul h.hP]
  unfold Ph.left Ph.A
  split
  · rw [lt_cdiv h.hS]; omega
  · have := Int.mul_nonneg hk (Int.le_of_lt h.hS)
    omega
/-- what can be taken is also given at the end -/
theorem Ph.make_le_left (p : Ph) (h : p.OK) {w : Int} (hw : 0 ≤ w) {n : Int} (hn : 0 ≤ n) (hnm : n ≤ p.make w) : n ≤ p.left w := by
  by_cases h0 : n = 0
  · subst h0; exact p.left_nonneg h w
  · have h1 := p.need_of_le_make h hw hn hnm
    rw [p.need_eq h0] at h1
    have := (p.lt_left h (w := w) (k := n - 1) (by omega)).2 (by omega)
    omega
/-- when all frames that begin ahead of the end have been given, all has been passed over -/
theorem Ph.gone_left (p : Ph) (h : p.OK) {w : Int} (hw : 0 ≤ w) : w ≤ p.gone (p.left w) := by
  by_cases hlt : p.gone (p.left w) < w
  · have := (p.lt_left h (w := w) (p.left_nonneg h w)).2 hlt
    omega
  · omega
theorem Ph.left_mul (p : Ph) (h : p.OK) {w : Int} (hw : 0 ≤ w) : (p.left w - 1) * p.S < w * p.P ∨ p.left w = 0 := by
  by_cases h0 : p.left w = 0
  · exact .inr h0
  · have h1 := p.left_nonneg h w
    have h2 := (p.lt_left h (w := w) (k := p.left w - 1) (by omega)).1 (by omega)
    left
    unfold Ph.gone at h2
    rw [Int.ediv_lt_iff_lt_mul h.hP] at h2
    unfold Ph.A at h2
    have := h.hF
    omega
end Go.Snd

/- Plain forms: which blocks, phases and resamplers are valid; loops; wraps. -/
set_option linter.unusedVariables false
namespace Go.Snd
open Go Go.Pev

/-! ### loops and fuel -/
theorem loopC_spec {S R : Type} (f : S → (S → Option R) → Option R) (Inv : S → Prop) (res : S → Option R) (μ : S → Nat)
    (h : ∀ s next, Inv s → (∀ s', Inv s' → μ s' < μ s → next s' = res s') → f s next = res s) : ∀ n s, Inv s → μ s < n → loopC n f s = res s
  | 0, s, _, hμ => absurd hμ (Nat.not_lt_zero _)
  | n + 1, s, hs, hμ => h s (loopC n f) hs fun s' hs' hμ' => loopC_spec f Inv res μ h n s' hs' (by omega)

def Big (k : Nat) : Prop := 1099511627776 ≤ k
theorem Big.lt {k : Nat} (h : Big k) {n : Nat} (hn : n ≤ 1000000000000) : n < k := by unfold Big at h; omega

theorem w64 {x : Int} (h1 : -9223372036854775808 ≤ x) (h2 : x ≤ 9223372036854775807) : IntKind.wrap .i64 x = x := by
  rw [IntKind.wrap_i64]; omega
theorem w32 {x : Int} (h1 : -2147483648 ≤ x) (h2 : x ≤ 2147483647) : IntKind.wrap .i32 x = x := by
  rw [IntKind.wrap_i32]; omega
theorem tdiv_pos {a b : Int} (ha : 0 ≤ a) : Int.tdiv a b = a / b := Int.tdiv_eq_ediv_of_nonneg ha
theorem tmod_pos {a b : Int} (ha : 0 ≤ a) : Int.tmod a b = a % b := Int.tmod_eq_emod_of_nonneg ha

/-! ### ratios -/
def ratOK (num den : Int) : Bool := decide (1 ≤ num) && decide (1 ≤ den) && decide (num ≤ 68719476736) && decide (den ≤ 68719476736) && decide (Int.gcd num den = 1)
/-! ### phases -/
def phOK (num den adj pos frac : Int) : Bool :=
  ratOK num den && decide (num ≤ 768000) && decide (den ≤ 768000) && decide (-4096 ≤ adj) && decide (adj ≤ 4096) && decide (0 ≤ pos) && decide (pos ≤ 1125899906842624) && decide (0 ≤ frac) && decide (frac < den * 65536)
structure PhOK (num den adj pos frac : Int) : Prop where
  n1 : 1 ≤ num
  d1 : 1 ≤ den
  n2 : num ≤ 768000
  d2 : den ≤ 768000
  g : Int.gcd num den = 1
  a1 : -4096 ≤ adj
  a2 : adj ≤ 4096
  p0 : 0 ≤ pos
  p1 : pos ≤ 1125899906842624
  f0 : 0 ≤ frac
  f1 : frac < den * 65536
theorem phOK_iff (num den adj pos frac : Int) : phOK num den adj pos frac = true ↔ PhOK num den adj pos frac := by
  unfold phOK ratOK
  simp only [Bool.and_eq_true, decide_eq_true_eq]
  constructor
  · rintro ⟨⟨⟨⟨⟨⟨⟨⟨⟨⟨⟨⟨h1, h2⟩, h3⟩, h4⟩, h5⟩, h6⟩, h7⟩, h8⟩, h9⟩, h10⟩, h11⟩, h12⟩, h13⟩
    exact ⟨h1, h2, h6, h7, h5, h8, h9, h10, h11, h12, h13⟩
  · rintro ⟨h1, h2, h6, h7, h5, h8, h9, h10, h11, h12, h13⟩
    exact ⟨⟨⟨⟨⟨⟨⟨⟨⟨⟨⟨⟨h1, h2⟩, by omega⟩, by omega⟩, h5⟩, h6⟩, h7⟩, h8⟩, h9⟩, h10⟩, h11⟩, h12⟩, h13⟩
def ph (num den adj frac : Int) : Ph := ⟨den * 65536, num * (65536 + adj), frac⟩
theorem PhOK.ok {num den adj pos frac : Int} (h : PhOK num den adj pos frac) : (ph num den adj frac).OK :=
  ⟨by have := h.d1; show 0 < den * 65536; omega, Int.mul_pos (by have := h.n1; omega) (by have := h.a1; omega), h.f0, h.f1⟩
/-- bounds of what is computed on the way -/
theorem PhOK.step_bd {num den adj pos frac : Int} (h : PhOK num den adj pos frac) {n : Int} (hn : 0 ≤ n) (hn' : n ≤ 65536) :
    0 ≤ n * num ∧ n * num ≤ 50331648000 ∧ 0 ≤ n * num * (65536 + adj) ∧ n * num * (65536 + adj) ≤ 3504693313536000 := by
  obtain ⟨h1, h2⟩ := mul_bd hn hn' (show 0 ≤ num by have := h.n1; omega) h.n2
  obtain ⟨h3, h4⟩ := mul_bd h1 h2 (show 0 ≤ 65536 + adj by have := h.a1; omega) (show 65536 + adj ≤ 69632 by have := h.a2; omega)
  exact ⟨h1, h2, h3, h4⟩
theorem ph_A (num den adj frac n : Int) : (ph num den adj frac).A n = frac + n * num * (65536 + adj) := by
  show frac + n * (num * (65536 + adj)) = _
  rw [Int.mul_assoc]

/-! ### blocks -/
def isSb (s : Int) : Bool := decide (-8388608 ≤ s) && decide (s ≤ 8388607)
def bkOK (ch : Int) (d : List Int) : Bool := decide (1 ≤ ch) && decide (ch ≤ 8) && decide ((d.length : Int) % ch = 0) && decide ((d.length : Int) / ch ≤ 65536) && d.all isSb
structure BkOK (ch : Int) (d : List Int) : Prop where
  c1 : 1 ≤ ch
  c2 : ch ≤ 8
  m : (d.length : Int) % ch = 0
  l : (d.length : Int) / ch ≤ 65536
  s : ∀ x ∈ d, isS x
theorem bkOK_iff (ch : Int) (d : List Int) : bkOK ch d = true ↔ BkOK ch d := by
  unfold bkOK
  simp only [Bool.and_eq_true, decide_eq_true_eq, List.all_eq_true]
  constructor
  · rintro ⟨⟨⟨⟨h1, h2⟩, h3⟩, h4⟩, h5⟩
    exact ⟨h1, h2, h3, h4, fun x hx => by simpa [isSb, isS] using h5 x hx⟩
  · rintro ⟨h1, h2, h3, h4, h5⟩
    exact ⟨⟨⟨⟨h1, h2⟩, h3⟩, h4⟩, fun x hx => by simpa [isSb, isS] using h5 x hx⟩
/-- the number of frames -/
def frames (ch : Int) (d : List Int) : Int := (d.length : Int) / ch
theorem BkOK.len {ch : Int} {d : List Int} (h : BkOK ch d) : (d.length : Int) = frames ch d * ch := by
  have := Int.emod_add_ediv_mul (d.length : Int) ch
  have := h.m
  unfold frames
  omega
theorem BkOK.len_le {ch : Int} {d : List Int} (h : BkOK ch d) : (d.length : Int) ≤ 524288 := by
  have h1 := h.len
  have h2 : frames ch d ≤ 65536 := h.l
  have h3 := Int.mul_le_mul_of_nonneg_right h2 (show 0 ≤ ch by have := h.c1; omega)
  have := h.c2
  omega
theorem frames_nonneg {ch : Int} {d : List Int} (h : 1 ≤ ch) : 0 ≤ frames ch d := Int.ediv_nonneg (by omega) (by omega)

/-! ### resamplers -/
def rsOK (ch num den adj pos frac : Int) (rest : List Int) : Bool := phOK num den adj pos frac && bkOK ch rest
structure RsOK (ch num den adj pos frac : Int) (rest : List Int) : Prop where
  p : PhOK num den adj pos frac
  b : BkOK ch rest
theorem rsOK_iff (ch num den adj pos frac : Int) (rest : List Int) : rsOK ch num den adj pos frac rest = true ↔ RsOK ch num den adj pos frac rest := by
  unfold rsOK
  rw [Bool.and_eq_true, phOK_iff, bkOK_iff]
  exact ⟨fun ⟨a, b⟩ => ⟨a, b⟩, fun ⟨a, b⟩ => ⟨a, b⟩⟩
end Go.Snd

/- What the program's lower functions compute, in plain words: samples, ratios, phases, resamplers. -/
set_option linter.unusedVariables false
set_option linter.unusedSimpArgs false
namespace Go.Proofs.YtbfkfobfhjgphaaGreat.Sp
open Go Go.Pev Go.Snd Go.Proofs.YtbfkfobfhjgphaaGreat.Fn

theorem s132 (k : Nat) (x : Int) : f164 k x = some (isSb x) := by
  unfold f164 isSb
  simp only [ge_iff_le]
  cases decide ((-8388608 : Int) ≤ x) <;> simp
theorem s134 (k : Nat) (x : Int) : f89 k x = some (isSb x) := by
  unfold f89 isSb
  simp only [ge_iff_le]
  cases decide ((-8388608 : Int) ≤ x) <;> simp

theorem all_take_succ (d : List Int) (i : Nat) (h : i < d.length) : (d.drop i).all isSb = (isSb d[i] && (d.drop (i + 1)).all isSb) := by
  rw [List.drop_eq_getElem_cons h, List.all_cons]
theorem getD_lt (d : List Int) (i : Nat) (h : i < d.length) : d.getD i 0 = d[i] := by simp [List.getD, h]

/-- the loop over a block's samples -/
theorem loop_valid {k : Nat} (hk : Big k) {R : Type} (K0 : Bool → Option R) (K1 : Unit → Option R) (d : List Int) (hd : d.length ≤ 1000000) (L : (List Int × Int × Int) → ((List Int × Int × Int) → Option R) → Option R)
    (hL : ∀ y next, L y next = bif decide (y.2.2 < y.2.1) then bif (decide (0 ≤ y.2.2) && decide (y.2.2 < ((y.1).length : Int))) then Option.bind (some (isSb ((y.1).getD (y.2.2).toNat (0 : Int)))) fun r1 => bif (!r1) then K0 false else next (y.1, y.2.1, (IntKind.wrap .i64 (y.2.2 + (1 : Int)))) else none else K1 ()) :
    loopC k L (d, (d.length : Int), 0) = bif d.all isSb then K1 () else K0 false := by
  refine (loopC_spec L (fun y => y.1 = d ∧ y.2.1 = d.length ∧ 0 ≤ y.2.2 ∧ y.2.2 ≤ d.length) (fun y => bif (d.drop y.2.2.toNat).all isSb then K1 () else K0 false) (fun y => (d.length - y.2.2).toNat) ?_ k _ ⟨rfl, rfl, by simp, by simp⟩ (hk.lt (by simp; omega))).trans (by simp)
  rintro ⟨e, n, i⟩ next ⟨h1, h2, h3, h4⟩ hn
  simp only at h1 h2 h3 h4 hn
  subst h1 h2
  rw [hL]
  simp only
  by_cases hi : i < e.length
  · obtain ⟨j, rfl⟩ : ∃ j : Nat, i = j := ⟨i.toNat, by omega⟩
    have hj : j < e.length := by omega
    have e1 : ((j : Int).toNat) = j := by omega
    simp only [hi, h3, decide_true, cond_true, Bool.and_self, Option.bind_some, e1, getD_lt e j hj]
    rw [all_take_succ e j hj]
    cases isSb e[j]
    · simp
    · simp only [Bool.not_true, cond_false, Bool.true_and]
      have hw : IntKind.wrap .i64 ((j : Int) + 1) = (j : Int) + 1 := w64 (by omega) (by omega)
      rw [hw, hn _ ⟨rfl, rfl, by simp only; omega, by simp only; omega⟩ (by simp only; omega)]
      have : ((j : Int) + 1).toNat = j + 1 := by omega
      simp only [this]
  · have : i = e.length := by omega
    subst this
    simp

theorem s81 {k : Nat} (hk : Big k) (ch : Int) (d : List Int) (hd : d.length ≤ 1000000000000) : f92 k (ch, d) = some (bkOK ch d) := by
  unfold f92
  simp only [cond_eq_ite, decide_eq_true_eq]
  by_cases h1 : ch < 1
  · rw [if_pos h1]; simp [bkOK]; omega
  rw [if_neg h1]
  by_cases h2 : 8 < ch
  · rw [if_pos (by omega)]; simp [bkOK]; omega
  rw [if_neg (by omega)]
  have h3 : (ch == 0) = false := by simp; omega
  rw [h3]
  simp only [Bool.false_eq_true, if_false, tmod_pos (show (0 : Int) ≤ (d.length : Int) by omega), tdiv_pos (show (0 : Int) ≤ (d.length : Int) by omega)]
  by_cases h4 : (d.length : Int) % ch = 0
  · rw [h4]
    simp only [bne_self_eq_false, Bool.false_eq_true, if_false]
    by_cases h5 : (d.length : Int) / ch ≤ 65536
    · have h6 : (0 : Int) ≤ (d.length : Int) / ch := Int.ediv_nonneg (by omega) (by omega)
      rw [w64 (by omega) (by omega), if_neg (by omega)]
      have hlen : (d.length : Int) ≤ 524288 := by
        have e1 := Int.emod_add_ediv_mul (d.length : Int) ch
        have e2 := Int.mul_le_mul_of_nonneg_right h5 (show 0 ≤ ch by omega)
        omega
      rw [loop_valid hk (fun z2 => some z2) (fun _ => some true) d (by omega) _ (fun y next => by unfold L92_4; simp only [s132])]
      have : bkOK ch d = d.all isSb := by
        unfold bkOK
        simp [h4, h5]
        intro _
        omega
      rw [this]
      cases d.all isSb <;> rfl
    · rw [if_pos]
      · simp [bkOK, h5]
      · have h6 : (0 : Int) ≤ (d.length : Int) / ch := Int.ediv_nonneg (by omega) (by omega)
        have h7 : (d.length : Int) / ch ≤ d.length := Int.ediv_le_self _ (by omega)
        rw [w64 (by omega) (by omega)]; omega
  · have : ((d.length : Int) % ch != 0) = true := by simp [h4]
    rw [this]
    simp [bkOK, h4]

theorem s83 {k : Nat} (hk : Big k) (ch : Int) (d : List Int) (hd : d.length ≤ 1000000000000) : f25 k (ch, d) = some (bkOK ch d) := by
  unfold f25
  simp only [cond_eq_ite, decide_eq_true_eq]
  by_cases h1 : ch < 1
  · rw [if_pos h1]; simp [bkOK]; omega
  rw [if_neg h1]
  by_cases h2 : 8 < ch
  · rw [if_pos (by omega)]; simp [bkOK]; omega
  rw [if_neg (by omega)]
  have h3 : (ch == 0) = false := by simp; omega
  rw [h3]
  simp only [Bool.false_eq_true, if_false, tmod_pos (show (0 : Int) ≤ (d.length : Int) by omega), tdiv_pos (show (0 : Int) ≤ (d.length : Int) by omega)]
  by_cases h4 : (d.length : Int) % ch = 0
  · rw [h4]
    simp only [bne_self_eq_false, Bool.false_eq_true, if_false]
    by_cases h5 : (d.length : Int) / ch ≤ 65536
    · have h6 : (0 : Int) ≤ (d.length : Int) / ch := Int.ediv_nonneg (by omega) (by omega)
      rw [w64 (by omega) (by omega), if_neg (by omega)]
      have hlen : (d.length : Int) ≤ 524288 := by
        have e1 := Int.emod_add_ediv_mul (d.length : Int) ch
        have e2 := Int.mul_le_mul_of_nonneg_right h5 (show 0 ≤ ch by omega)
        omega
      rw [loop_valid hk (fun z2 => some z2) (fun _ => some true) d (by omega) _ (fun y next => by unfold L25_4; simp only [s134])]
      have : bkOK ch d = d.all isSb := by
        unfold bkOK
        simp [h4, h5]
        intro _
        omega
      rw [this]
      cases d.all isSb <;> rfl
    · rw [if_pos]
      · simp [bkOK, h5]
      · have h6 : (0 : Int) ≤ (d.length : Int) / ch := Int.ediv_nonneg (by omega) (by omega)
        have h7 : (d.length : Int) / ch ≤ d.length := Int.ediv_le_self _ (by omega)
        rw [w64 (by omega) (by omega)]; omega
  · have : ((d.length : Int) % ch != 0) = true := by simp [h4]
    rw [this]
    simp [bkOK, h4]

/-! ### ratios -/
theorem gcd_loop {k : Nat} (hk : Big k) {R : Type} (K0 : Int → Option R) (L : (Int × Int) → ((Int × Int) → Option R) → Option R)
    (hL : ∀ y next, L y next = bif (y.2 != (0 : Int)) then bif (y.2 == 0) then none else next (y.2, (Int.tmod y.1 y.2)) else K0 y.1) (a b : Int) (ha : 0 ≤ a) (hb : 0 ≤ b) (hb' : b ≤ 68719476736) :
    loopC k L (a, b) = K0 (Int.gcd a b) := by
  refine loopC_spec L (fun y => 0 ≤ y.1 ∧ 0 ≤ y.2) (fun y => K0 (Int.gcd y.1 y.2)) (fun y => y.2.toNat) ?_ k (a, b) ⟨ha, hb⟩ (hk.lt (by simp only; omega))
  rintro ⟨a, b⟩ next ⟨h1, h2⟩ hn
  simp only at h1 h2 hn
  rw [hL]
  simp only
  by_cases hb : b = 0
  · subst hb
    simp only [bne_self_eq_false, cond_false, Int.gcd_zero_right]
    congr 1
    omega
  · have e1 : (b != 0) = true := by simp [hb]
    have e2 : (b == 0) = false := by simp [hb]
    rw [e1, e2]
    simp only [cond_true, cond_false]
    rw [tmod_pos h1, hn _ ⟨h2, Int.emod_nonneg _ hb⟩ (by have := Int.emod_lt_of_pos a (show 0 < b by omega); have := Int.emod_nonneg a hb; simp only; omega)]
    obtain ⟨m, rfl⟩ : ∃ m : Nat, a = m := ⟨a.toNat, by omega⟩
    obtain ⟨n, rfl⟩ : ∃ n : Nat, b = n := ⟨b.toNat, by omega⟩
    have e : ((m : Int) % (n : Int)) = ((m % n : Nat) : Int) := by omega
    simp only [e, Int.gcd_natCast_natCast]
    rw [Nat.gcd_comm m n, Nat.gcd_rec n m, Nat.gcd_comm]
theorem s159 {k : Nat} (hk : Big k) (a b : Int) (ha : 0 ≤ a) (hb : 0 ≤ b) (hb' : b ≤ 68719476736) : f202 k (a, b) = some (Int.gcd a b : Int) := by
  unfold f202
  exact gcd_loop hk _ _ (fun y next => by unfold L202_1; rfl) a b ha hb hb'
theorem s148 {k : Nat} (hk : Big k) (a b : Int) (ha : 0 ≤ a) (hb : 0 ≤ b) (hb' : b ≤ 68719476736) : f149 k (a, b) = some (Int.gcd a b : Int) := by
  unfold f149
  exact gcd_loop hk _ _ (fun y next => by unfold L149_1; rfl) a b ha hb hb'
theorem s135 {k : Nat} (hk : Big k) (num den : Int) : f227 k (num, den) = some (ratOK num den) := by
  unfold f227 ratOK
  simp only [ge_iff_le]
  by_cases h1 : 1 ≤ num <;> simp only [h1, decide_true, decide_false, cond_true, cond_false, Bool.false_and, Bool.true_and]
  by_cases h2 : 1 ≤ den <;> simp only [h2, decide_true, decide_false, cond_true, cond_false, Bool.false_and, Bool.true_and]
  by_cases h3 : num ≤ 68719476736 <;> simp only [h3, decide_true, decide_false, cond_true, cond_false, Bool.false_and, Bool.true_and]
  by_cases h4 : den ≤ 68719476736 <;> simp only [h4, decide_true, decide_false, cond_true, cond_false, Bool.false_and, Bool.true_and]
  rw [s159 hk num den (by omega) (by omega) h4, Option.bind_some]
  congr 1
  rw [Bool.eq_iff_iff, beq_iff_eq, decide_eq_true_eq]
  omega
theorem s113 {k : Nat} (hk : Big k) (num den : Int) : f240 k (num, den) = some (ratOK num den) := by
  unfold f240 ratOK
  simp only [ge_iff_le]
  by_cases h1 : 1 ≤ num <;> simp only [h1, decide_true, decide_false, cond_true, cond_false, Bool.false_and, Bool.true_and]
  by_cases h2 : 1 ≤ den <;> simp only [h2, decide_true, decide_false, cond_true, cond_false, Bool.false_and, Bool.true_and]
  by_cases h3 : num ≤ 68719476736 <;> simp only [h3, decide_true, decide_false, cond_true, cond_false, Bool.false_and, Bool.true_and]
  by_cases h4 : den ≤ 68719476736 <;> simp only [h4, decide_true, decide_false, cond_true, cond_false, Bool.false_and, Bool.true_and]
  rw [s148 hk num den (by omega) (by omega) h4, Option.bind_some]
  congr 1
  rw [Bool.eq_iff_iff, beq_iff_eq, decide_eq_true_eq]
  omega

/-! ### phases -/
theorem s136 (k : Nat) (x : Int) : f228 k x = some (decide (-4096 ≤ x) && decide (x ≤ 4096)) := by
  unfold f228
  simp only [ge_iff_le]
  cases decide ((-4096 : Int) ≤ x) <;> simp
theorem s137 (k : Nat) (num den adj pos frac : Int) (h0 : 1 ≤ den) (h1 : den ≤ 768000) : f226 k (num, den, adj, pos, frac) = some (den * 65536) := by
  unfold f226
  rw [w64 (by simp only; omega) (by simp only; omega)]
theorem s85 {k : Nat} (hk : Big k) (num den adj pos frac : Int) : f173 k (num, den, adj, pos, frac) = some (phOK num den adj pos frac) := by
  unfold f173 phOK
  simp only [s135 hk, s136, Option.bind_some, ge_iff_le]
  by_cases h0 : ratOK num den = true
  · have hd : 1 ≤ den := by
      unfold ratOK at h0
      simp only [Bool.and_eq_true, decide_eq_true_eq] at h0
      omega
    simp only [h0, cond_true, Bool.true_and]
    by_cases h1 : num ≤ 768000 <;> simp only [h1, decide_true, decide_false, cond_true, cond_false, Bool.false_and, Bool.true_and]
    by_cases h2 : den ≤ 768000 <;> simp only [h2, decide_true, decide_false, cond_true, cond_false, Bool.false_and, Bool.true_and]
    by_cases h3 : -4096 ≤ adj <;> simp only [h3, decide_true, decide_false, cond_true, cond_false, Bool.false_and, Bool.true_and]
    by_cases h4 : adj ≤ 4096 <;> simp only [h4, decide_true, decide_false, cond_true, cond_false, Bool.false_and, Bool.true_and]
    by_cases h5 : 0 ≤ pos <;> simp only [h5, decide_true, decide_false, cond_true, cond_false, Bool.false_and, Bool.true_and]
    by_cases h6 : pos ≤ 1125899906842624 <;> simp only [h6, decide_true, decide_false, cond_true, cond_false, Bool.false_and, Bool.true_and]
    by_cases h7 : 0 ≤ frac <;> simp only [h7, decide_true, decide_false, cond_true, cond_false, Bool.false_and, Bool.true_and]
    rw [s137 k _ _ _ _ _ hd h2, Option.bind_some]
  · have h0 : ratOK num den = false := by simpa using h0
    simp [h0]
theorem s28 {k : Nat} (hk : Big k) (ch num den adj pos frac : Int) (rest : List Int) (hd : rest.length ≤ 1000000000000) : f123 k (ch, num, den, adj, pos, frac, rest) = some (rsOK ch num den adj pos frac rest) := by
  unfold f123 rsOK f198
  simp only [s85 hk, s81 hk _ _ hd, Option.bind_some]
  cases phOK num den adj pos frac <;> simp
theorem rs_len {ch num den adj pos frac : Int} {rest : List Int} (h : rsOK ch num den adj pos frac rest = true) : rest.length ≤ 524288 := by
  have := ((rsOK_iff _ _ _ _ _ _ _).1 h).b.len_le
  omega
theorem w_frames {ch : Int} {d : List Int} (h : BkOK ch d) : IntKind.wrap .i64 (Int.tdiv (d.length : Int) ch) = frames ch d := by
  have h1 := frames_nonneg (d := d) h.c1
  have h2 : frames ch d ≤ 65536 := h.l
  rw [tdiv_pos (by omega)]
  exact w64 (show _ ≤ frames ch d by omega) (show frames ch d ≤ _ by omega)
/-- the number of frames that wait, 0 if the resampler is not valid -/
def waiting (ch num den adj pos frac : Int) (rest : List Int) : Int := if rsOK ch num den adj pos frac rest = true then frames ch rest else 0
theorem s30 {k : Nat} (hk : Big k) (ch num den adj pos frac : Int) (rest : List Int) (hd : rest.length ≤ 1000000000000) : f99 k (ch, num, den, adj, pos, frac, rest) = some (waiting ch num den adj pos frac rest) := by
  unfold f99 waiting
  rw [s28 hk _ _ _ _ _ _ _ hd]
  simp only [Option.bind_some]
  cases hv : rsOK ch num den adj pos frac rest with
  | false => simp
  | true =>
    have h := ((rsOK_iff _ _ _ _ _ _ _).1 hv).b
    have h3 : (ch == 0) = false := by have := h.c1; simp; omega
    simp only [Bool.not_true, cond_false, h3, if_true, w_frames h]
/-- a new resampler, or the error -/
def newS (ch num den : Int) : (Int × Int × Int × Int × Int × Int × List Int) × Int :=
  if rsOK ch num den 0 0 0 [] = true then ((ch, num, den, 0, 0, 0, []), 0) else ((0, 0, 0, 0, 0, 0, []), 1)
theorem s89 {k : Nat} (hk : Big k) (num den : Int) : f143 k (num, den) = some (if phOK num den 0 0 0 = true then ((num, den, 0, 0, 0), 0) else ((0, 0, 0, 0, 0), 1)) := by
  unfold f143
  simp only [s85 hk, Option.bind_some]
  cases phOK num den 0 0 0 <;> simp
theorem s32 {k : Nat} (hk : Big k) (ch num den : Int) : f68 k (ch, num, den) = some (newS ch num den) := by
  unfold f68 newS
  simp only [s89 hk, Option.bind_some]
  cases hp : phOK num den 0 0 0 with
  | false => simp [rsOK, hp]
  | true =>
    simp only [if_true, bne_self_eq_false, cond_false, s28 hk _ _ _ _ _ _ [] (by simp), Option.bind_some]
    cases rsOK ch num den 0 0 0 [] <;> simp
def checkS (ok : Bool) (n : Int) : Int := if ok = true then if n < 0 then 2 else if 65536 < n then 2 else 0 else 1
theorem s90 {k : Nat} (hk : Big k) (ch num den adj pos frac : Int) (rest : List Int) (hd : rest.length ≤ 1000000000000) (n : Int) : f176 k ((ch, num, den, adj, pos, frac, rest), n) = some (checkS (rsOK ch num den adj pos frac rest) n) := by
  unfold f176 checkS
  simp only [s28 hk _ _ _ _ _ _ _ hd, Option.bind_some]
  cases rsOK ch num den adj pos frac rest
  · simp
  · simp only [Bool.not_true, cond_false, cond_eq_ite, decide_eq_true_eq, if_true, gt_iff_lt]
    by_cases h1 : n < 0 <;> by_cases h2 : 65536 < n <;> simp [h1, h2]
theorem s138 {k : Nat} (hk : Big k) (num den adj pos frac n : Int) : f171 k ((num, den, adj, pos, frac), n) = some (checkS (phOK num den adj pos frac) n) := by
  unfold f171 checkS
  simp only [s85 hk, Option.bind_some]
  cases phOK num den adj pos frac
  · simp
  · simp only [Bool.not_true, cond_false, cond_eq_ite, decide_eq_true_eq, if_true, gt_iff_lt]
    by_cases h1 : n < 0 <;> by_cases h2 : 65536 < n <;> simp [h1, h2]
end Go.Proofs.YtbfkfobfhjgphaaGreat.Sp

/- What the program's functions on phases compute, in plain words, and the reference's. -/
set_option linter.unusedVariables false
set_option linter.unusedSimpArgs false
namespace Go.Proofs.YtbfkfobfhjgphaaGreat.Sp
open Go Go.Pev Go.Snd Go.Proofs.YtbfkfobfhjgphaaGreat.Fn

theorem checkS_zero (ok : Bool) (n : Int) : checkS ok n = 0 ↔ ok = true ∧ 0 ≤ n ∧ n ≤ 65536 := by
  unfold checkS
  cases ok
  · simp
  · simp only [if_true]
    split
    · simp; omega
    · split
      · simp; omega
      · simp; omega
def atS (num den adj pos frac n : Int) : Int × Int × Int :=
  if checkS (phOK num den adj pos frac) n = 0 then (pos + (ph num den adj frac).gone n, (ph num den adj frac).A n % (den * 65536), 0) else (0, 0, checkS (phOK num den adj pos frac) n)

/-- what is computed on the way to a position -/
theorem at_calc {num den adj pos frac : Int} (h : PhOK num den adj pos frac) {n : Int} (h0 : 0 ≤ n) (h1 : n ≤ 65536) :
    IntKind.wrap .i64 (frac + IntKind.wrap .i64 (IntKind.wrap .i64 (n * num) * IntKind.wrap .i64 (65536 + adj))) = (ph num den adj frac).A n ∧
    IntKind.wrap .i64 (frac + IntKind.wrap .i64 (n * IntKind.wrap .i64 (num * IntKind.wrap .i64 (65536 + adj)))) = (ph num den adj frac).A n ∧
    0 ≤ (ph num den adj frac).A n ∧ (ph num den adj frac).A n ≤ 3600000000000000 := by
  obtain ⟨b1, b2, b3, b4⟩ := h.step_bd h0 h1
  have g1 := h.a1
  have g2 := h.a2
  have g3 := h.f0
  have g4 := h.f1
  have g5 := h.d2
  have g6 := h.n1
  have g7 := h.n2
  have e1 : IntKind.wrap .i64 (65536 + adj) = 65536 + adj := w64 (by omega) (by omega)
  have e2 : IntKind.wrap .i64 (n * num) = n * num := w64 (by omega) (by omega)
  have e3 := ph_A num den adj frac n
  obtain ⟨b5, b6⟩ := mul_bd (show 0 ≤ num by omega) g7 (show 0 ≤ 65536 + adj by omega) (show 65536 + adj ≤ 69632 by omega)
  have e4 : n * (num * (65536 + adj)) = n * num * (65536 + adj) := (Int.mul_assoc _ _ _).symm
  refine ⟨?_, ?_, by omega, by omega⟩
  · rw [e1, e2, w64 (x := n * num * (65536 + adj)) (by omega) (by omega), e3, w64 (by omega) (by omega)]
  · rw [e1, w64 (x := num * (65536 + adj)) (by omega) (by omega), e4, w64 (x := n * num * (65536 + adj)) (by omega) (by omega), e3, w64 (by omega) (by omega)]
theorem gone_bd {num den adj pos frac : Int} (h : PhOK num den adj pos frac) {n : Int} (h0 : 0 ≤ n) (h1 : n ≤ 65536) :
    0 ≤ (ph num den adj frac).gone n ∧ (ph num den adj frac).gone n ≤ 3600000000000000 := by
  obtain ⟨_, _, h2, h3⟩ := at_calc h h0 h1
  have := h.d1
  refine ⟨(ph num den adj frac).gone_nonneg h.ok h0, ?_⟩
  show (ph num den adj frac).A n / (den * 65536) ≤ _
  exact Int.le_trans (Int.ediv_le_self _ h2) h3

theorem s160 {k : Nat} {num den adj pos frac : Int} (h : PhOK num den adj pos frac) {n : Int} (h0 : 0 ≤ n) (h1 : n ≤ 65536) : f225 k ((num, den, adj, pos, frac), n) = some ((ph num den adj frac).A n) := by
  unfold f225
  exact congrArg some (at_calc h h0 h1).1
theorem parts_ne {den : Int} (h : 1 ≤ den) : (den * 65536 == 0) = false := by simp; omega
theorem s141 {k : Nat} (hk : Big k) (num den adj pos frac n : Int) : f230 k ((num, den, adj, pos, frac), n) = some (atS num den adj pos frac n) := by
  unfold f230 atS
  rw [s138 hk, Option.bind_some]
  by_cases he : checkS (phOK num den adj pos frac) n = 0
  · obtain ⟨h1, h2, h3⟩ := (checkS_zero _ _).1 he
    have h := (phOK_iff _ _ _ _ _).1 h1
    obtain ⟨g1, g2⟩ := gone_bd h h2 h3
    obtain ⟨_, _, a1, a2⟩ := at_calc h h2 h3
    have p1 := h.p0
    have p2 := h.p1
    have gd : (ph num den adj frac).A n / (den * 65536) = (ph num den adj frac).gone n := rfl
    rw [he]
    simp only [bne_self_eq_false, cond_false, if_true, s160 h h2 h3, s137 k _ _ _ _ _ h.d1 h.d2, Option.bind_some, parts_ne h.d1, tdiv_pos a1, tmod_pos a1, gd]
    rw [w64 (x := (ph num den adj frac).gone n) (by omega) (by omega), w64 (by omega) (by omega)]
  · rw [if_neg he]
    have : (checkS (phOK num den adj pos frac) n != 0) = true := by simpa using he
    rw [this]
    simp
def zero5 : Int × Int × Int × Int × Int := (0, 0, 0, 0, 0)
/-- the phase after n frames, or the error -/
def advS (num den adj pos frac n : Int) : (Int × Int × Int × Int × Int) × Int :=
  if checkS (phOK num den adj pos frac) n = 0 then
    if 1125899906842624 < pos + (ph num den adj frac).gone n then ((0, 0, 0, 0, 0), 2) else ((num, den, adj, pos + (ph num den adj frac).gone n, (ph num den adj frac).A n % (den * 65536)), 0)
  else ((0, 0, 0, 0, 0), checkS (phOK num den adj pos frac) n)
theorem s140 {k : Nat} (hk : Big k) (num den adj pos frac n : Int) : f229 k ((num, den, adj, pos, frac), n) = some (advS num den adj pos frac n) := by
  unfold f229 advS
  rw [s141 hk, Option.bind_some]
  unfold atS
  by_cases he : checkS (phOK num den adj pos frac) n = 0
  · simp only [he, if_true, beq_self_eq_true, cond_true, cond_eq_ite, decide_eq_true_eq, gt_iff_lt]
    split <;> simp
  · have e1 : (checkS (phOK num den adj pos frac) n == 0) = false := by simpa using he
    have e2 : (checkS (phOK num den adj pos frac) n != 0) = true := by simpa using he
    simp only [if_neg he, e1, e2, cond_false, cond_true]
theorem s139 {k : Nat} {num den adj pos frac : Int} (h : PhOK num den adj pos frac) {n : Int} (h0 : 0 ≤ n) (h1 : n ≤ 65536) : f172 k ((num, den, adj, pos, frac), n) = some ((ph num den adj frac).need n) := by
  unfold f172
  by_cases hn : n = 0
  · subst hn; simp [Ph.need]
  · have e1 : (n == 0) = false := by simpa using hn
    have e2 : IntKind.wrap .i64 (n - 1) = n - 1 := w64 (by omega) (by omega)
    obtain ⟨_, _, a1, a2⟩ := at_calc h h0 h1
    obtain ⟨_, _, a3, a4⟩ := at_calc h (show 0 ≤ n - 1 by omega) (by omega)
    obtain ⟨g1, g2⟩ := gone_bd h h0 h1
    obtain ⟨g3, g4⟩ := gone_bd h (show 0 ≤ n - 1 by omega) (by omega)
    have gd : (ph num den adj frac).A n / (den * 65536) = (ph num den adj frac).gone n := rfl
    have gd' : (ph num den adj frac).A (n - 1) / (den * 65536) = (ph num den adj frac).gone (n - 1) := rfl
    simp only [e1, e2, cond_false, s160 h h0 h1, s160 h (show 0 ≤ n - 1 by omega) (show n - 1 ≤ 65536 by omega), s137 k _ _ _ _ _ h.d1 h.d2, Option.bind_some, parts_ne h.d1, tdiv_pos a1, tdiv_pos a3, gd, gd']
    rw [w64 (x := (ph num den adj frac).gone n) (by omega) (by omega), w64 (x := (ph num den adj frac).gone (n - 1)) (by omega) (by omega), w64 (by omega) (by omega), (ph num den adj frac).need_eq hn]
    congr 1
    split <;> omega
def needS (num den adj pos frac n : Int) : Int × Int :=
  if checkS (phOK num den adj pos frac) n = 0 then ((ph num den adj frac).need n, 0) else (0, checkS (phOK num den adj pos frac) n)
theorem s91 {k : Nat} (hk : Big k) (num den adj pos frac n : Int) : f101 k ((num, den, adj, pos, frac), n) = some (needS num den adj pos frac n) := by
  unfold f101 needS
  rw [s138 hk, Option.bind_some]
  by_cases he : checkS (phOK num den adj pos frac) n = 0
  · obtain ⟨h1, h2, h3⟩ := (checkS_zero _ _).1 he
    have h := (phOK_iff _ _ _ _ _).1 h1
    rw [he]
    simp only [bne_self_eq_false, cond_false, if_true, s139 h h2 h3, Option.bind_some]
  · rw [if_neg he]
    have : (checkS (phOK num den adj pos frac) n != 0) = true := by simpa using he
    rw [this]
    simp
noncomputable def makeS (num den adj pos frac n : Int) : Int × Int :=
  if phOK num den adj pos frac = true then if n < 0 ∨ 1099511627776 < n then (0, 2) else ((ph num den adj frac).make n, 0) else (0, 1)
theorem w_u64 {x : Int} (h1 : 0 ≤ x) (h2 : x ≤ 18446744073709551615) : IntKind.wrap .u64 x = x := by
  rw [IntKind.wrap_u64]; omega
theorem s146 {k : Nat} (hk : Big k) {num den adj pos frac : Int} (h : PhOK num den adj pos frac) {n : Int} (hn : 0 ≤ n) : f174 k (65536, (num, den, adj, pos, frac), n) = some ((ph num den adj frac).make n, (num, den, adj, pos, frac), n) := by
  unfold f174
  refine (loopC_spec _ (fun y => y.2.2 = ((num, den, adj, pos, frac), n) ∧ 0 ≤ y.1 ∧ y.1 ≤ y.2.1 ∧ y.2.1 ≤ 65536 ∧ (ph num den adj frac).need y.1 ≤ n ∧ (y.2.1 < 65536 → n < (ph num den adj frac).need (y.2.1 + 1))) (fun y => some ((ph num den adj frac).make n, (num, den, adj, pos, frac), n)) (fun y => (y.2.1 - y.1).toNat) ?_ k _ ⟨rfl, by simp, by simp, by simp, by simp [Ph.need]; omega, by simp⟩ (hk.lt (by simp)))
  rintro ⟨lo, hi, q⟩ next ⟨h1, h2, h3, h4, h5, h6⟩ hnext
  simp only at h1 h2 h3 h4 h5 h6 hnext
  subst h1
  unfold L174_2
  simp only
  by_cases hlt : lo < hi
  · have e1 : IntKind.wrap .i64 (lo + hi) = lo + hi := w64 (by omega) (by omega)
    have e2 : IntKind.wrap .u64 (lo + hi) = lo + hi := w_u64 (by omega) (by omega)
    have e3 : (2 : Int) ^ (min (Int.toNat (1 : Int)) (IntKind.bits .u64)) = 2 := by decide
    have e4 : Int.fdiv (lo + hi) 2 = (lo + hi) / 2 := Int.fdiv_eq_ediv_of_nonneg _ (by omega)
    have e5 : IntKind.wrap .i64 ((lo + hi) / 2) = (lo + hi) / 2 := w64 (by omega) (by omega)
    have e6 : IntKind.wrap .i64 ((lo + hi) / 2 + 1) = (lo + hi) / 2 + 1 := w64 (by omega) (by omega)
    simp only [hlt, decide_true, cond_true, e1, e2, e3, e4, e5]
    have e7 : f175 k ((lo + hi) / 2, (num, den, adj, pos, frac), n) = some (decide (n < (ph num den adj frac).need ((lo + hi) / 2 + 1)), (num, den, adj, pos, frac), n) := by
      unfold f175
      simp only [e6, s139 h (show 0 ≤ (lo + hi) / 2 + 1 by omega) (show (lo + hi) / 2 + 1 ≤ 65536 by omega), Option.bind_some, gt_iff_lt]
    rw [e7, Option.bind_some]
    by_cases hd : n < (ph num den adj frac).need ((lo + hi) / 2 + 1)
    · simp only [hd, decide_true, Bool.not_true, cond_false]
      exact hnext _ ⟨rfl, h2, by simp only; omega, by simp only; omega, h5, fun _ => hd⟩ (by simp only; omega)
    · simp only [hd, decide_false, Bool.not_false, cond_true, e6]
      exact hnext _ ⟨rfl, by simp only; omega, by simp only; omega, h4, by simp only; omega, h6⟩ (by simp only; omega)
  · have : lo = hi := by omega
    subst this
    simp only [Int.lt_irrefl, decide_false, cond_false]
    rw [(ph num den adj frac).make_unique h.ok hn h2 h4 h5 h6]
theorem s96 {k : Nat} (hk : Big k) (num den adj pos frac n : Int) : f102 k ((num, den, adj, pos, frac), n) = some (makeS num den adj pos frac n) := by
  unfold f102 makeS
  rw [s85 hk, Option.bind_some]
  by_cases h1 : phOK num den adj pos frac = true
  · have h := (phOK_iff _ _ _ _ _).1 h1
    rw [h1]
    simp only [Bool.not_true, if_true, cond_eq_ite, decide_eq_true_eq, Bool.false_eq_true, if_false]
    by_cases h2 : n < 0
    · rw [if_pos h2, if_pos (.inl h2)]
    · rw [if_neg h2]
      by_cases h3 : 1099511627776 < n
      · rw [if_pos (by omega), if_pos (.inr h3)]
      · rw [if_neg (by omega), if_neg (by omega), s146 hk h (by omega), Option.bind_some]
  · have h1 : phOK num den adj pos frac = false := by simpa using h1
    rw [h1]
    simp

/-! ### the reference -/
theorem s99 (k : Nat) (num den adj pos frac : Int) : f244 k (num, den, adj, pos, frac) = some (IntKind.wrap .i64 (num * IntKind.wrap .i64 (65536 + adj))) := rfl
theorem s100 (k : Nat) (num den adj pos frac : Int) (h0 : 1 ≤ den) (h1 : den ≤ 768000) : f241 k (num, den, adj, pos, frac) = some (den * 65536) := by
  unfold f241
  rw [w64 (by simp only; omega) (by simp only; omega)]
theorem s87 {k : Nat} (hk : Big k) (num den adj pos frac : Int) : f193 k (num, den, adj, pos, frac) = some (phOK num den adj pos frac) := by
  unfold f193 phOK
  simp only [s113 hk, Option.bind_some, ge_iff_le]
  by_cases h0 : ratOK num den = true
  · have hd : 1 ≤ den := by
      unfold ratOK at h0
      simp only [Bool.and_eq_true, decide_eq_true_eq] at h0
      omega
    simp only [h0, cond_true, Bool.true_and]
    by_cases h1 : num ≤ 768000 <;> simp only [h1, decide_true, decide_false, cond_true, cond_false, Bool.false_and, Bool.true_and]
    by_cases h2 : den ≤ 768000 <;> simp only [h2, decide_true, decide_false, cond_true, cond_false, Bool.false_and, Bool.true_and]
    by_cases h3 : -4096 ≤ adj <;> simp only [h3, decide_true, decide_false, cond_true, cond_false, Bool.false_and, Bool.true_and]
    by_cases h4 : adj ≤ 4096 <;> simp only [h4, decide_true, decide_false, cond_true, cond_false, Bool.false_and, Bool.true_and]
    by_cases h5 : 0 ≤ pos <;> simp only [h5, decide_true, decide_false, cond_true, cond_false, Bool.false_and, Bool.true_and]
    by_cases h6 : pos ≤ 1125899906842624 <;> simp only [h6, decide_true, decide_false, cond_true, cond_false, Bool.false_and, Bool.true_and]
    by_cases h7 : 0 ≤ frac <;> simp only [h7, decide_true, decide_false, cond_true, cond_false, Bool.false_and, Bool.true_and]
    rw [s100 k _ _ _ _ _ hd h2, Option.bind_some]
  · have h0 : ratOK num den = false := by simpa using h0
    simp [h0]
theorem s46 {k : Nat} (hk : Big k) (num den adj pos frac n : Int) : f197 k ((num, den, adj, pos, frac), n) = some (atS num den adj pos frac n) := by
  unfold f197 atS
  rw [s87 hk, Option.bind_some]
  by_cases h1 : phOK num den adj pos frac = true
  · have h := (phOK_iff _ _ _ _ _).1 h1
    unfold checkS
    rw [h1]
    simp only [Bool.not_true, if_true, cond_eq_ite, decide_eq_true_eq, gt_iff_lt, Bool.false_eq_true, if_false]
    by_cases h2 : n < 0
    · simp [h2]
    · by_cases h3 : 65536 < n
      · simp [h2, h3]
      · obtain ⟨g1, g2⟩ := gone_bd h (show 0 ≤ n by omega) (by omega)
        obtain ⟨_, a0, a1, a2⟩ := at_calc h (show 0 ≤ n by omega) (by omega)
        have p1 := h.p0
        have p2 := h.p1
        have gd : (ph num den adj frac).A n / (den * 65536) = (ph num den adj frac).gone n := rfl
        simp only [h2, h3, if_false, if_true, s99, s100 k _ _ _ _ _ h.d1 h.d2, Option.bind_some, parts_ne h.d1, Bool.false_eq_true, a0, tdiv_pos a1, tmod_pos a1, gd]
        rw [w64 (x := (ph num den adj frac).gone n) (by omega) (by omega), w64 (by omega) (by omega)]
  · have h1 : phOK num den adj pos frac = false := by simpa using h1
    rw [h1]
    simp [checkS]
theorem s144 {k : Nat} (hk : Big k) (num den adj pos frac n : Int) : f242 k ((num, den, adj, pos, frac), n) = some (advS num den adj pos frac n) := by
  unfold f242 advS
  rw [s46 hk, Option.bind_some]
  unfold atS
  by_cases he : checkS (phOK num den adj pos frac) n = 0
  · simp only [he, if_true, bne_self_eq_false, cond_false, cond_eq_ite, decide_eq_true_eq, gt_iff_lt]
    by_cases hx : 1125899906842624 < pos + (ph num den adj frac).gone n <;> simp [hx]
  · have e2 : (checkS (phOK num den adj pos frac) n != 0) = true := by simpa using he
    simp only [if_neg he, e2, cond_true]
theorem s93 {k : Nat} (hk : Big k) (num den adj pos frac n : Int) : f122 k ((num, den, adj, pos, frac), n) = some (needS num den adj pos frac n) := by
  unfold f122 needS
  rw [s46 hk, Option.bind_some]
  by_cases he : checkS (phOK num den adj pos frac) n = 0
  · obtain ⟨h1, h2, h3⟩ := (checkS_zero _ _).1 he
    have h := (phOK_iff _ _ _ _ _).1 h1
    have e0 : atS num den adj pos frac n = (pos + (ph num den adj frac).gone n, (ph num den adj frac).A n % (den * 65536), 0) := by unfold atS; rw [if_pos he]
    rw [e0, if_pos he]
    simp only [bne_self_eq_false, cond_false]
    by_cases hn : n = 0
    · subst hn; simp [Ph.need]
    · have e1 : (n == 0) = false := by simpa using hn
      have e2 : IntKind.wrap .i64 (n - 1) = n - 1 := w64 (by omega) (by omega)
      have he' : checkS (phOK num den adj pos frac) (n - 1) = 0 := (checkS_zero _ _).2 ⟨h1, by omega, by omega⟩
      have e3 : atS num den adj pos frac (n - 1) = (pos + (ph num den adj frac).gone (n - 1), (ph num den adj frac).A (n - 1) % (den * 65536), 0) := by unfold atS; rw [if_pos he']
      obtain ⟨g1, g2⟩ := gone_bd h h2 h3
      obtain ⟨g3, g4⟩ := gone_bd h (show 0 ≤ n - 1 by omega) (by omega)
      have p1 := h.p0
      have p2 := h.p1
      simp only [e1, e2, cond_false, s46 hk, e3, Option.bind_some]
      rw [w64 (x := pos + (ph num den adj frac).gone (n - 1) + 2) (by omega) (by omega), (ph num den adj frac).need_eq hn]
      congr 1
      simp only [Prod.mk.injEq, and_true]
      rw [w64] <;> split <;> omega
  · have e2 : (checkS (phOK num den adj pos frac) n != 0) = true := by simpa using he
    have e0 : atS num den adj pos frac n = (0, 0, checkS (phOK num den adj pos frac) n) := by unfold atS; rw [if_neg he]
    rw [e0, if_neg he]
    simp only [e2, cond_true]
theorem s45 {k : Nat} (hk : Big k) (num den adj pos frac n : Int) : f114 k ((num, den, adj, pos, frac), n) = some (makeS num den adj pos frac n) := by
  unfold f114 makeS
  rw [s87 hk, Option.bind_some]
  by_cases h1 : phOK num den adj pos frac = true
  · have h := (phOK_iff _ _ _ _ _).1 h1
    rw [h1]
    simp only [Bool.not_true, if_true, cond_eq_ite, decide_eq_true_eq, Bool.false_eq_true, if_false]
    by_cases h2 : n < 0
    · rw [if_pos h2, if_pos (.inl h2)]
    · rw [if_neg h2]
      by_cases h3 : 1099511627776 < n
      · rw [if_pos (by omega), if_pos (.inr h3)]
      · rw [if_neg (by omega), if_neg (by omega)]
        refine loopC_spec _ (fun y => y.2.2.2 = (num, den, adj, pos, frac) ∧ y.1 = n ∧ 0 ≤ y.2.1 ∧ y.2.1 ≤ y.2.2.1 ∧ y.2.2.1 ≤ 65536 ∧ (ph num den adj frac).need y.2.1 ≤ n ∧ (y.2.2.1 < 65536 → n < (ph num den adj frac).need (y.2.2.1 + 1))) (fun y => some ((ph num den adj frac).make n, 0)) (fun y => (y.2.2.1 - y.2.1).toNat) ?_ k _ ⟨rfl, rfl, by simp, by simp, by simp, by simp [Ph.need]; omega, by simp⟩ (hk.lt (by simp))
        rintro ⟨m, lo, hi, q⟩ next ⟨g1, g0, g2, g3, g4, g5, g6⟩ hnext
        simp only at g1 g0 g2 g3 g4 g5 g6 hnext
        subst g1 g0
        unfold L114_6
        simp only
        by_cases hlt : lo < hi
        · have e1 : IntKind.wrap .i64 (lo + hi) = lo + hi := w64 (by omega) (by omega)
          have e2 : IntKind.wrap .i64 (lo + hi + 1) = lo + hi + 1 := w64 (by omega) (by omega)
          have e4 : Int.tdiv (lo + hi + 1) 2 = (lo + hi + 1) / 2 := tdiv_pos (by omega)
          have e5 : IntKind.wrap .i64 ((lo + hi + 1) / 2) = (lo + hi + 1) / 2 := w64 (by omega) (by omega)
          have e6 : IntKind.wrap .i64 ((lo + hi + 1) / 2 - 1) = (lo + hi + 1) / 2 - 1 := w64 (by omega) (by omega)
          have e7 : needS num den adj pos frac ((lo + hi + 1) / 2) = ((ph num den adj frac).need ((lo + hi + 1) / 2), 0) := by
            unfold needS
            rw [if_pos ((checkS_zero _ _).2 ⟨h1, by omega, by omega⟩)]
          simp only [hlt, decide_true, cond_true, e1, e2, e4, e5, e6, s93 hk, e7, Option.bind_some]
          by_cases hd : (ph num den adj frac).need ((lo + hi + 1) / 2) ≤ m
          · simp only [hd, decide_true, cond_true]
            exact hnext _ ⟨rfl, rfl, by simp only; omega, by simp only; omega, g4, hd, g6⟩ (by simp only; omega)
          · simp only [hd, decide_false, cond_false]
            refine hnext _ ⟨rfl, rfl, g2, by simp only; omega, by simp only; omega, g5, fun _ => ?_⟩ (by simp only; omega)
            simp only
            rw [show (lo + hi + 1) / 2 - 1 + 1 = (lo + hi + 1) / 2 by omega]
            omega
        · have : lo = hi := by omega
          subst this
          simp only [Int.lt_irrefl, decide_false, cond_false]
          rw [(ph num den adj frac).make_unique h.ok (by omega) g2 g4 g5 g6]
  · have h1 : phOK num den adj pos frac = false := by simpa using h1
    rw [h1]
    simp
end Go.Proofs.YtbfkfobfhjgphaaGreat.Sp

/- What the program's resampler computes, in plain words: frames, and what is produced. -/
set_option linter.unusedVariables false
set_option linter.unusedSimpArgs false
namespace Go.Proofs.YtbfkfobfhjgphaaGreat.Sp
open Go Go.Pev Go.Snd Go.Proofs.YtbfkfobfhjgphaaGreat.Fn

theorem mul_sample {a g : Int} (ha : isS a) (h0 : 0 ≤ g) (h1 : g ≤ 50331648000) : -422212490354688000 ≤ a * g ∧ a * g ≤ 422212490354688000 := by
  obtain ⟨a1, a2⟩ := ha
  have e1 := Int.mul_le_mul_of_nonneg_right a1 h0
  have e2 := Int.mul_le_mul_of_nonneg_right a2 h0
  omega
/-- the sample between two samples, as the code computes it -/
theorem between_calc {a b f P : Int} (ha : isS a) (hb : isS b) (hP : 0 < P) (hP' : P ≤ 50331648000) (hf : 0 ≤ f) (hf' : f ≤ P) :
    IntKind.wrap .i64 (IntKind.wrap .i64 (IntKind.wrap .i64 (IntKind.wrap .i64 a * IntKind.wrap .i64 (P - f)) + IntKind.wrap .i64 (IntKind.wrap .i64 b * f)) + IntKind.wrap .i64 (Int.tdiv P 2)) = a * (P - f) + b * f + P / 2 ∧
    (decide (Int.tmod (a * (P - f) + b * f + P / 2) P < 0) = true → IntKind.wrap .i32 (IntKind.wrap .i64 (IntKind.wrap .i64 (Int.tdiv (a * (P - f) + b * f + P / 2) P) - 1)) = ip a b f P) ∧
    (decide (Int.tmod (a * (P - f) + b * f + P / 2) P < 0) = false → IntKind.wrap .i32 (IntKind.wrap .i64 (Int.tdiv (a * (P - f) + b * f + P / 2) P)) = ip a b f P) := by
  obtain ⟨m1, m2⟩ := mul_sample ha (show 0 ≤ P - f by omega) (by omega)
  obtain ⟨m3, m4⟩ := mul_sample hb hf (by omega)
  have ha' := ha
  have hb' := hb
  obtain ⟨a1, a2⟩ := ha
  obtain ⟨b1, b2⟩ := hb
  have e1 : IntKind.wrap .i64 a = a := w64 (by omega) (by omega)
  have e2 : IntKind.wrap .i64 b = b := w64 (by omega) (by omega)
  have e3 : IntKind.wrap .i64 (P - f) = P - f := w64 (by omega) (by omega)
  have e4 : Int.tdiv P 2 = P / 2 := tdiv_pos (by omega)
  have hfl := floor_fix (a * (P - f) + b * f + P / 2) P hP
  have hip : (a * (P - f) + b * f + P / 2) / P = ip a b f P := rfl
  have g1 := ip_ge a b f P (-8388608) hP hf hf' a1 b1
  have g2 := ip_le a b f P 8388607 hP hf hf' a2 b2
  refine ⟨?_, fun h => ?_, fun h => ?_⟩
  · rw [e1, e2, e3, e4, w64 (x := a * (P - f)) (by omega) (by omega), w64 (x := b * f) (by omega) (by omega), w64 (x := P / 2) (by omega) (by omega), w64 (x := a * (P - f) + b * f) (by omega) (by omega), w64 (by omega) (by omega)]
  · simp only [decide_eq_true_eq] at h
    rw [if_pos h, hip] at hfl
    rw [w64 (x := Int.tdiv _ _) (by omega) (by omega), hfl, w64 (by omega) (by omega), w32 (by omega) (by omega)]
  · simp only [decide_eq_false_iff_not] at h
    rw [if_neg h, hip] at hfl
    rw [hfl, w64 (by omega) (by omega), w32 (by omega) (by omega)]
theorem s145 (k : Nat) {a b f P : Int} (ha : isS a) (hb : isS b) (hP : 0 < P) (hP' : P ≤ 50331648000) (hf : 0 ≤ f) (hf' : f ≤ P) : f243 k (a, b, f, P) = some (ip a b f P) := by
  unfold f243
  obtain ⟨h1, h2, h3⟩ := between_calc ha hb hP hP' hf hf'
  have h0 : (P == 0) = false := by simp; omega
  simp only [h0, h1, cond_false]
  cases hd : decide (Int.tmod (a * (P - f) + b * f + P / 2) P < 0) with
  | true => simp only [cond_true, h2 hd]
  | false => simp only [cond_false, h3 hd]

theorem maxB {n : Nat} (h : n ≤ 1000000000000) : (decide (n * 4 ≤ maxBytes) && decide (n ≤ 9223372036854775807)) = true := by
  unfold maxBytes
  simp only [Bool.and_eq_true, decide_eq_true_eq]
  omega
theorem getD_mem {d : List Int} {i : Nat} (h : i < d.length) : d.getD i 0 ∈ d := by
  rw [getD_lt d i h]; exact List.getElem_mem h
theorem zip_drop {α : Type} (g : Int → Int → α) (a b : List Int) (i : Nat) (ha : i < a.length) (hb : i < b.length) : List.zipWith g (a.drop i) (b.drop i) = g (a.getD i 0) (b.getD i 0) :: List.zipWith g (a.drop (i + 1)) (b.drop (i + 1)) := by
  rw [List.drop_eq_getElem_cons ha, List.drop_eq_getElem_cons hb, List.zipWith_cons_cons, getD_lt a i ha, getD_lt b i hb]

theorem inner92 {k : Nat} (hk : Big k) {R : Type} (K0 : (Int × Int × Int × (Int × Int × Int × Int × Int × Int × List (Int)) × Int × (Int × Int × Int × Int × Int × Int) × (Int × Int × Int × Int × Int) × Int × List (Int)) → Option R) {P f : Int} (hP : 0 < P) (hP' : P ≤ 50331648000) (hf : 0 ≤ f) (hf' : f ≤ P)
    (a b : List Int) (ha : ∀ x ∈ a, isS x) (hb : ∀ x ∈ b, isS x) (hl : b.length = a.length) (hm : a.length ≤ 100) (n i : Int) (r : Int × Int × Int × Int × Int × Int × List (Int)) (z : Int) (s6 : Int × Int × Int × Int × Int × Int) (s5 : Int × Int × Int × Int × Int) (c : Int) (data : List Int) (hd : data.length ≤ 100000000000) :
    loopC k (L177_13 k K0) (P, f, a, b, n, i, (a.length : Int), 0, r, z, s6, s5, c, data) = K0 (P, n, i, r, z, s6, s5, c, data ++ List.zipWith (fun x y => ip x y f P) a b) := by
  refine (loopC_spec (L177_13 k K0) (fun y => ∃ j : Nat, ∃ e : List Int, y = (P, f, a, b, n, i, (a.length : Int), (j : Int), r, z, s6, s5, c, e) ∧ j ≤ a.length ∧ e.length ≤ 100000000000 + j)
    (fun y => K0 (P, n, i, r, z, s6, s5, c, y.2.2.2.2.2.2.2.2.2.2.2.2.2 ++ List.zipWith (fun x y => ip x y f P) (a.drop y.2.2.2.2.2.2.2.1.toNat) (b.drop y.2.2.2.2.2.2.2.1.toNat))) (fun y => (a.length - y.2.2.2.2.2.2.2.1).toNat) ?_ k _ ⟨0, data, rfl, Nat.zero_le _, by omega⟩ (hk.lt (by simp; omega))).trans (by simp)
  rintro y next ⟨j, e, rfl, hj, he⟩ hn
  simp only at hn
  have ej : ((j : Int)).toNat = j := by omega
  unfold L177_13
  simp only [ej]
  by_cases hlt : j < a.length
  · have h0 : (P == 0) = false := by simp; omega
    have c1 : decide ((j : Int) < (a.length : Int)) = true := by simp; omega
    have c2 : decide ((j : Int) < (b.length : Int)) = true := by simp; omega
    have c3 : decide ((0 : Int) ≤ (j : Int)) = true := by simp
    obtain ⟨h1, h2, h3⟩ := between_calc (ha _ (getD_mem hlt)) (hb _ (getD_mem (show j < b.length by omega))) hP hP' hf hf'
    have hw : IntKind.wrap .i64 ((j : Int) + 1) = ((j + 1 : Nat) : Int) := by rw [w64 (by omega) (by omega)]; omega
    have key : ∀ x : Int, x = ip (a.getD j 0) (b.getD j 0) f P → next (P, f, a, b, n, i, (a.length : Int), ((j + 1 : Nat) : Int), r, z, s6, s5, c, e ++ [x]) = K0 (P, n, i, r, z, s6, s5, c, e ++ List.zipWith (fun x y => ip x y f P) (a.drop j) (b.drop j)) := by
      intro x hx
      rw [hn _ ⟨j + 1, e ++ [x], rfl, by omega, by simp; omega⟩ (by simp only; omega)]
      have ej' : (((j + 1 : Nat) : Int)).toNat = j + 1 := by omega
      simp only [ej']
      rw [zip_drop _ a b j hlt (by omega), hx, List.append_assoc]
      rfl
    simp only [c1, c2, c3, cond_true, Bool.and_self, h0, cond_false, h1, hw]
    cases hd : decide (Int.tmod (a.getD j 0 * (P - f) + b.getD j 0 * f + P / 2) P < 0) with
    | true =>
      simp only [cond_true]
      rw [maxB (by simp; omega)]
      exact key _ (h2 hd)
    | false =>
      simp only [cond_false]
      rw [maxB (by simp; omega)]
      exact key _ (h3 hd)
  · have : j = a.length := by omega
    subst this
    have c1 : decide ((a.length : Int) < (a.length : Int)) = false := by simp
    have : b.drop a.length = [] := List.drop_of_length_le (by omega)
    simp only [c1, cond_false, List.drop_length, this, List.zipWith_nil_left, List.append_nil]

/-- frame j of what waits -/
def frameL (c : Nat) (rest : List Int) (j : Nat) : List Int := (List.range c).map (smp c rest j)
theorem frameL_eq (c : Nat) (rest : List Int) (j w : Nat) (hr : rest.length = w * c) (hj : j < w) : (rest.take (j * c + c)).drop (j * c) = frameL c rest j := by
  have hle : j * c + c ≤ rest.length := by
    rw [hr]
    calc j * c + c = (j + 1) * c := by rw [Nat.add_mul, Nat.one_mul]
      _ ≤ w * c := Nat.mul_le_mul_right _ hj
  apply List.ext_getElem
  · simp [frameL]; omega
  · intro m h1 h2
    simp only [frameL, List.getElem_map, List.getElem_range, List.getElem_drop, List.getElem_take, smp]
    have : m < c := by simpa [frameL] using h2
    rw [getD_lt _ _ (by omega)]
theorem frameL_isS (c : Nat) (rest : List Int) (j : Nat) (h : ∀ x ∈ rest, isS x) : ∀ x ∈ frameL c rest j, isS x := by
  intro x hx
  obtain ⟨m, _, rfl⟩ := List.mem_map.1 hx
  exact smp_isS c rest h j m
theorem zip_frames (c : Nat) (rest : List Int) (i j : Nat) (g : Int → Int → Int) : List.zipWith g (frameL c rest i) (frameL c rest j) = (List.range c).map fun m => g (smp c rest i m) (smp c rest j m) := by
  unfold frameL
  rw [List.zipWith_map, List.zipWith_self]

theorem s142 (k : Nat) {ch num den adj pos frac : Int} {rest : List Int} (h : BkOK ch rest) (hw : 1 ≤ frames ch rest) {q : Int} (h0 : 0 ≤ q) (h1 : q ≤ 9007199254740992) :
    f231 k ((ch, num, den, adj, pos, frac, rest), q) = some (frameL ch.toNat rest (min q.toNat ((frames ch rest).toNat - 1))) := by
  unfold f231
  have c1 := h.c1
  have c2 := h.c2
  have hl := h.len
  have hle : frames ch rest ≤ 65536 := h.l
  obtain ⟨b1, b2⟩ := mul_bd h0 h1 (show 0 ≤ ch by omega) c2
  obtain ⟨b3, b4⟩ := mul_bd (show 0 ≤ frames ch rest by omega) hle (show 0 ≤ ch by omega) c2
  have b5 := Int.mul_le_mul_of_nonneg_right hw (show 0 ≤ ch by omega)
  have e1 : IntKind.wrap .i64 ((rest.length : Int) - ch) = (rest.length : Int) - ch := w64 (by omega) (by omega)
  have e2 : IntKind.wrap .i64 (q * ch) = q * ch := w64 (by omega) (by omega)
  obtain ⟨cN, rfl⟩ : ∃ cN : Nat, ch = cN := ⟨ch.toNat, by omega⟩
  obtain ⟨wN, hwN⟩ : ∃ wN : Nat, frames cN rest = wN := ⟨(frames cN rest).toNat, by omega⟩
  obtain ⟨qN, rfl⟩ : ∃ qN : Nat, q = qN := ⟨q.toNat, by omega⟩
  rw [hwN] at hl hw hle b3 b4 b5
  have hr : rest.length = wN * cN := by
    have : ((rest.length : Nat) : Int) = ((wN * cN : Nat) : Int) := by rw [hl]; simp
    omega
  have hat : (if (rest.length : Int) - (cN : Int) < (qN : Int) * (cN : Int) then (rest.length : Int) - (cN : Int) else (qN : Int) * (cN : Int)) = ((min qN (wN - 1) * cN : Nat) : Int) := by
    have m1 : ((wN - 1) * cN + cN : Nat) = wN * cN := by
      have : wN = (wN - 1) + 1 := by omega
      calc (wN - 1) * cN + cN = ((wN - 1) + 1) * cN := by rw [Nat.add_mul, Nat.one_mul]
        _ = wN * cN := by rw [← this]
    have m2 : (rest.length : Int) - (cN : Int) = (((wN - 1) * cN : Nat) : Int) := by rw [hr]; omega
    have m3 : (qN : Int) * (cN : Int) = ((qN * cN : Nat) : Int) := by simp
    rw [m2, m3]
    rcases Nat.lt_or_ge qN (wN - 1) with hh | hh
    · have := Nat.mul_le_mul_right cN (show qN ≤ wN - 1 by omega)
      rw [show min qN (wN - 1) = qN by omega, if_neg (by omega)]
    · have := Nat.mul_le_mul_right cN hh
      rw [show min qN (wN - 1) = wN - 1 by omega]
      split <;> omega
  have hmin : min qN (wN - 1) < wN := by omega
  have hend : min qN (wN - 1) * cN + cN ≤ wN * cN := by
    calc min qN (wN - 1) * cN + cN = (min qN (wN - 1) + 1) * cN := by rw [Nat.add_mul, Nat.one_mul]
      _ ≤ wN * cN := Nat.mul_le_mul_right _ hmin
  simp only [e1, e2, hat]
  have e3 : IntKind.wrap .i64 (((min qN (wN - 1) * cN : Nat) : Int) + (cN : Int)) = ((min qN (wN - 1) * cN + cN : Nat) : Int) := by
    rw [w64 (by omega) (by omega)]; omega
  simp only [e3]
  generalize hAt : min qN (wN - 1) * cN = A at *
  have d1 : decide ((0 : Int) ≤ (A : Int)) = true := by simp
  have d2 : decide ((A : Int) ≤ ((A + cN : Nat) : Int)) = true := by simp only [decide_eq_true_eq]; omega
  have d3 : decide (((A + cN : Nat) : Int) ≤ ((A + cN : Nat) : Int)) = true := by simp
  have d4 : decide (((A + cN : Nat) : Int) ≤ (rest.length : Int)) = true := by simp only [decide_eq_true_eq]; omega
  simp only [d1, d2, d3, d4, Bool.and_self, cond_true]
  rw [show ((A + cN : Nat) : Int).toNat = A + cN by omega, show ((A : Nat) : Int).toNat = A by omega, show ((cN : Nat) : Int).toNat = cN by omega, show ((qN : Nat) : Int).toNat = qN by omega, hwN, show ((wN : Nat) : Int).toNat = wN by omega, ← hAt, frameL_eq cN rest _ wN hr hmin]

/-- what n output frames are, and the resampler after them -/
def outS (ch num den adj frac : Int) (rest : List Int) (n : Int) : List Int := out (ph num den adj frac) ch.toNat rest (frames ch rest).toNat n.toNat
def goneS (num den adj frac n : Int) : Nat := ((ph num den adj frac).gone n).toNat
def prodS (ch num den adj pos frac : Int) (rest : List Int) (n : Int) : (Int × List Int) × (Int × Int × Int × Int × Int × Int × List Int) × Int :=
  if (advS num den adj pos frac n).2 = 0 then
    ((ch, outS ch num den adj frac rest n), (ch, num, den, adj, pos + (ph num den adj frac).gone n, (ph num den adj frac).A n % (den * 65536), rest.drop (goneS num den adj frac n * ch.toNat)), 0)
  else ((0, []), (0, 0, 0, 0, 0, 0, []), (advS num den adj pos frac n).2)

theorem s92 {k : Nat} (hk : Big k) {ch num den adj pos frac : Int} {rest : List Int} (h : RsOK ch num den adj pos frac rest) {n : Int} (h0 : 0 ≤ n) (h1 : n ≤ 65536) (hn : n = 0 ∨ 1 ≤ frames ch rest) :
    f177 k ((ch, num, den, adj, pos, frac, rest), n) = some (prodS ch num den adj pos frac rest n) := by
  unfold f177 prodS
  simp only [s140 hk, Option.bind_some]
  by_cases he : (advS num den adj pos frac n).2 = 0
  · have c1 := h.b.c1
    have c2 := h.b.c2
    have hp := (phOK_iff _ _ _ _ _).2 h.p
    obtain ⟨b1, b2⟩ := mul_bd h0 h1 (show 0 ≤ ch by omega) c2
    obtain ⟨g1, g2⟩ := gone_bd h.p h0 h1
    have p0 := h.p.p0
    have p1 := h.p.p1
    have hck : checkS (phOK num den adj pos frac) n = 0 := (checkS_zero _ _).2 ⟨hp, h0, h1⟩
    have hadv : advS num den adj pos frac n = ((num, den, adj, pos + (ph num den adj frac).gone n, (ph num den adj frac).A n % (den * 65536)), 0) := by
      unfold advS at he ⊢
      rw [if_pos hck] at he ⊢
      split
      · rename_i hh; rw [if_pos hh] at he; simp at he
      · rfl
    have e1 : IntKind.wrap .i64 (n * ch) = n * ch := w64 (by omega) (by omega)
    have e2 : IntKind.wrap .i64 (den * 65536) = den * 65536 := w64 (by have := h.p.d1; omega) (by have := h.p.d2; omega)
    have d1 : decide (n * ch * ((4 : Nat) : Int) ≤ (maxBytes : Int)) = true := by unfold maxBytes; simp only [decide_eq_true_eq]; omega
    have d2 : decide ((0 : Int) ≤ n * ch) = true := by simp only [decide_eq_true_eq]; omega
    simp only [hadv, if_true, bne_self_eq_false, cond_false, e1, e2, d1, d2, Bool.and_self, Bool.and_true, Int.le_refl, decide_true, cond_true]
    obtain ⟨cN, rfl⟩ : ∃ cN : Nat, ch = cN := ⟨ch.toNat, by omega⟩
    obtain ⟨nN, rfl⟩ : ∃ nN : Nat, n = nN := ⟨n.toNat, by omega⟩
    obtain ⟨wN, hwN⟩ : ∃ wN : Nat, frames cN rest = wN := ⟨(frames cN rest).toNat, by have := frames_nonneg (d := rest) h.b.c1; omega⟩
    have hlen := h.b.len
    have hle : frames cN rest ≤ 65536 := h.b.l
    rw [hwN] at hlen hle hn
    have hr : rest.length = wN * cN := by
      have : ((rest.length : Nat) : Int) = ((wN * cN : Nat) : Int) := by rw [hlen]; simp
      omega
    have ec : ((cN : Int)).toNat = cN := by omega
    have ew : ((wN : Int)).toNat = wN := by omega
    have en : ((nN : Int)).toNat = nN := by omega
    refine (loopC_spec (L177_7 k _) (fun y => ∃ i : Nat, ∃ e : List Int, y = (den * 65536, (nN : Int), (i : Int), ((cN : Int), num, den, adj, pos, frac, rest), 0, (0, 0, 0, 0, 0, 0), (num, den, adj, pos + (ph num den adj frac).gone nN, (ph num den adj frac).A nN % (den * 65536)), (cN : Int), e) ∧ i ≤ nN ∧ e.length = i * cN)
      (fun y => some (((cN : Int), y.2.2.2.2.2.2.2.2 ++ (List.range' y.2.2.1.toNat (nN - y.2.2.1.toNat)).flatMap (fr (ph num den adj frac) cN rest wN)), ((cN : Int), num, den, adj, pos + (ph num den adj frac).gone nN, (ph num den adj frac).A nN % (den * 65536), rest.drop (goneS num den adj frac nN * cN)), 0)) (fun y => (nN - y.2.2.1).toNat) ?_ k _ ⟨0, [], rfl, Nat.zero_le _, by simp⟩ (hk.lt (by simp; omega))).trans ?_
    · rintro y next ⟨i, e, rfl, hi, hel⟩ hnext
      simp only at hnext
      have ei : ((i : Int)).toNat = i := by omega
      unfold L177_7
      simp only [ei]
      by_cases hlt : i < nN
      · have c3 : decide ((i : Int) < (nN : Int)) = true := by simp; omega
        have hck' : checkS (phOK num den adj pos frac) i = 0 := (checkS_zero _ _).2 ⟨hp, by omega, by omega⟩
        have hat : atS num den adj pos frac i = (pos + (ph num den adj frac).gone i, (ph num den adj frac).A i % (den * 65536), 0) := by unfold atS; rw [if_pos hck']
        obtain ⟨g3, g4⟩ := gone_bd h.p (show (0 : Int) ≤ i by omega) (by omega)
        have e3 : pos + (ph num den adj frac).gone i - pos = (ph num den adj frac).gone i := by omega
        have e4 : IntKind.wrap .i64 ((ph num den adj frac).gone i) = (ph num den adj frac).gone i := w64 (by omega) (by omega)
        have e5 : IntKind.wrap .i64 ((ph num den adj frac).gone i + 1) = (ph num den adj frac).gone i + 1 := w64 (by omega) (by omega)
        have hw1 : 1 ≤ frames cN rest := by rw [hwN]; omega
        have hPpos : 0 < den * 65536 := by have := h.p.d1; omega
        have hPle : den * 65536 ≤ 50331648000 := by have := h.p.d2; omega
        have hf0 := Int.emod_nonneg ((ph num den adj frac).A i) (Int.ne_of_gt hPpos)
        have hf1 := Int.emod_lt_of_pos ((ph num den adj frac).A i) hPpos
        simp only [c3, cond_true, s141 hk, hat, Option.bind_some, e3, e4, e5]
        rw [s142 k h.b hw1 g3 (by omega), s142 k h.b hw1 (show 0 ≤ (ph num den adj frac).gone i + 1 by omega) (by omega)]
        simp only [Option.bind_some, hwN, ec, ew]
        rw [inner92 hk _ hPpos hPle hf0 (by omega) _ _ (frameL_isS cN rest _ h.b.s) (frameL_isS cN rest _ h.b.s) (by simp [frameL]) (by simp [frameL]; omega) _ _ _ _ _ _ _ _ (by
          rw [hel]
          have : i * cN ≤ 65536 * 8 := Nat.mul_le_mul (by omega) (by omega)
          omega)]
        simp only
        have hw' : IntKind.wrap .i64 ((i : Int) + 1) = ((i + 1 : Nat) : Int) := by rw [w64 (by omega) (by omega)]; omega
        rw [hw', zip_frames]
        have hfr : ((List.range cN).map fun m => ip (smp cN rest (min ((ph num den adj frac).gone i).toNat (wN - 1)) m) (smp cN rest (min ((ph num den adj frac).gone i + 1).toNat (wN - 1)) m) ((ph num den adj frac).A i % (den * 65536)) (den * 65536)) = fr (ph num den adj frac) cN rest wN i := by
          unfold fr
          rw [show ((ph num den adj frac).gone i + 1).toNat = ((ph num den adj frac).gone i).toNat + 1 by omega]
          rfl
        rw [hfr, hnext _ ⟨i + 1, e ++ fr (ph num den adj frac) cN rest wN i, rfl, by omega, by rw [List.length_append, hel, fr_length, Nat.add_mul, Nat.one_mul]⟩ (by simp only; omega)]
        have ei' : (((i + 1 : Nat) : Int)).toNat = i + 1 := by omega
        simp only [ei']
        rw [show nN - i = (nN - (i + 1)) + 1 by omega, List.range'_succ, List.flatMap_cons, List.append_assoc]
      · have : i = nN := by omega
        subst this
        have c3 : decide ((i : Int) < (i : Int)) = false := by simp
        have e3 : pos + (ph num den adj frac).gone i - pos = (ph num den adj frac).gone i := by omega
        have e4 : IntKind.wrap .i64 ((ph num den adj frac).gone i) = (ph num den adj frac).gone i := w64 (by omega) (by omega)
        obtain ⟨q1, q2⟩ := mul_bd g1 g2 (show (0 : Int) ≤ cN by omega) c2
        have e5 : IntKind.wrap .i64 ((ph num den adj frac).gone i * cN) = (ph num den adj frac).gone i * cN := w64 (by omega) (by omega)
        simp only [c3, cond_false, e3, e4, e5, Nat.sub_self, List.range'_zero, List.flatMap_nil, List.append_nil]
        have hG : ((ph num den adj frac).gone i * cN).toNat = goneS num den adj frac i * cN := by
          unfold goneS
          obtain ⟨G, hG⟩ : ∃ G : Nat, (ph num den adj frac).gone i = G := ⟨((ph num den adj frac).gone i).toNat, by omega⟩
          rw [hG, ← Int.natCast_mul]
          simp only [Int.toNat_natCast]
        have hdrop : rest.drop (if (ph num den adj frac).gone i * cN < (rest.length : Int) then (ph num den adj frac).gone i * cN else (rest.length : Int)).toNat = rest.drop (goneS num den adj frac i * cN) := by
          split
          · rw [hG]
          · rw [← hG, List.drop_of_length_le (by omega), List.drop_of_length_le (by omega)]
        have d3 : (decide (0 ≤ if (ph num den adj frac).gone i * cN < (rest.length : Int) then (ph num den adj frac).gone i * cN else (rest.length : Int)) && decide ((if (ph num den adj frac).gone i * cN < (rest.length : Int) then (ph num den adj frac).gone i * cN else (rest.length : Int)) ≤ (rest.length : Int))) = true := by
          simp only [Bool.and_eq_true, decide_eq_true_eq]
          split <;> omega
        have htk : rest.take ((rest.length : Int)).toNat = rest := List.take_of_length_le (by omega)
        simp only [d3, cond_true, htk, hdrop]
        have hcl : f169 k (rest.drop (goneS num den adj frac i * cN)) = some (rest.drop (goneS num den adj frac i * cN)) := by
          unfold f169
          have hl := rs_len ((rsOK_iff _ _ _ _ _ _ _).2 h)
          have hb : (decide ((rest.drop (goneS num den adj frac i * cN)).length * 4 ≤ maxBytes) && decide ((rest.drop (goneS num den adj frac i * cN)).length ≤ maxLen)) = true := by
            unfold maxBytes maxLen
            simp only [Bool.and_eq_true, decide_eq_true_eq, List.length_drop]
            omega
          rw [hb, cond_true]
        rw [hcl, Option.bind_some]
    · simp only [outS, hwN, ec, ew, en, out, Int.toNat_zero, Int.toNat_natCast, Nat.sub_zero, List.nil_append, List.range_eq_range']
  · have : ((advS num den adj pos frac n).2 != 0) = true := by simpa using he
    rw [if_neg he]
    simp only [this, cond_true]
end Go.Proofs.YtbfkfobfhjgphaaGreat.Sp

/- What the program's resampler does, in plain words: feeding, taking, converting, finishing; and the reference's. -/
set_option linter.unusedVariables false
set_option linter.unusedSimpArgs false
namespace Go.Proofs.YtbfkfobfhjgphaaGreat.Sp
open Go Go.Pev Go.Snd Go.Proofs.YtbfkfobfhjgphaaGreat.Fn

abbrev RsT := Int × Int × Int × Int × Int × Int × List Int
abbrev BkT := Int × List Int
def zeroR : RsT := (0, 0, 0, 0, 0, 0, [])
def zeroB : BkT := (0, [])

noncomputable def takeS (ch num den adj pos frac : Int) (rest : List Int) (n : Int) : BkT × RsT × Int :=
  if checkS (rsOK ch num den adj pos frac rest) n = 0 then
    if frames ch rest < (ph num den adj frac).need n then (zeroB, zeroR, 4) else prodS ch num den adj pos frac rest n
  else (zeroB, zeroR, checkS (rsOK ch num den adj pos frac rest) n)
theorem check_ph {ch num den adj pos frac : Int} {rest : List Int} {n : Int} (h : checkS (rsOK ch num den adj pos frac rest) n = 0) : RsOK ch num den adj pos frac rest ∧ 0 ≤ n ∧ n ≤ 65536 ∧ checkS (phOK num den adj pos frac) n = 0 := by
  obtain ⟨h1, h2, h3⟩ := (checkS_zero _ _).1 h
  have h4 := (rsOK_iff _ _ _ _ _ _ _).1 h1
  exact ⟨h4, h2, h3, (checkS_zero _ _).2 ⟨(phOK_iff _ _ _ _ _).2 h4.p, h2, h3⟩⟩
theorem ch_ne {ch : Int} (h : 1 ≤ ch) : (ch == 0) = false := by simp; omega
theorem need_frames {num den adj pos frac : Int} (h : PhOK num den adj pos frac) {n w : Int} (h0 : 0 ≤ n) (hn : (ph num den adj frac).need n ≤ w) : n = 0 ∨ 1 ≤ w := by
  by_cases hz : n = 0
  · exact .inl hz
  · right
    rw [(ph num den adj frac).need_eq hz] at hn
    have := (ph num den adj frac).gone_nonneg h.ok (show 0 ≤ n - 1 by omega)
    omega
theorem s34 {k : Nat} (hk : Big k) (ch num den adj pos frac : Int) (rest : List Int) (hd : rest.length ≤ 1000000000000) (n : Int) : f103 k ((ch, num, den, adj, pos, frac, rest), n) = some (takeS ch num den adj pos frac rest n) := by
  unfold f103 takeS
  rw [s90 hk _ _ _ _ _ _ _ hd, Option.bind_some]
  by_cases he : checkS (rsOK ch num den adj pos frac rest) n = 0
  · obtain ⟨h, h0, h1, h2⟩ := check_ph he
    have hn : needS num den adj pos frac n = ((ph num den adj frac).need n, 0) := by unfold needS; rw [if_pos h2]
    rw [he]
    simp only [bne_self_eq_false, cond_false, if_true, s91 hk, hn, Option.bind_some, ch_ne h.b.c1, w_frames h.b, gt_iff_lt]
    by_cases hs : frames ch rest < (ph num den adj frac).need n
    · simp [hs, zeroB, zeroR]
    · simp only [hs, decide_false, cond_false, if_false]
      rw [s92 hk h h0 h1 (need_frames h.p h0 (by omega)), Option.bind_some]
  · have e2 : (checkS (rsOK ch num den adj pos frac rest) n != 0) = true := by simpa using he
    rw [if_neg he]
    simp only [e2, cond_true]
    rfl
noncomputable def finS (ch num den adj pos frac : Int) (rest : List Int) (n : Int) : BkT × RsT × Int :=
  if checkS (rsOK ch num den adj pos frac rest) n = 0 then prodS ch num den adj pos frac rest (min n ((ph num den adj frac).left (frames ch rest)))
  else (zeroB, zeroR, checkS (rsOK ch num den adj pos frac rest) n)
theorem left_frames (p : Ph) (h : p.OK) {w : Int} (hw : 0 ≤ w) : p.left w = 0 ∨ 1 ≤ w := by
  unfold Ph.left
  split
  · rename_i hh
    right
    have := h.hP
    have := h.hF
    by_cases h1 : 0 < w
    · omega
    · have : w = 0 := by omega
      subst this
      omega
  · exact .inl rfl
theorem s36 {k : Nat} (hk : Big k) (ch num den adj pos frac : Int) (rest : List Int) (hd : rest.length ≤ 1000000000000) (n : Int) : f104 k ((ch, num, den, adj, pos, frac, rest), n) = some (finS ch num den adj pos frac rest n) := by
  unfold f104 finS
  rw [s90 hk _ _ _ _ _ _ _ hd, Option.bind_some]
  by_cases he : checkS (rsOK ch num den adj pos frac rest) n = 0
  · obtain ⟨h, h0, h1, h2⟩ := check_ph he
    have d1 := h.p.d1
    have d2 := h.p.d2
    have f0 := h.p.f0
    have f1 := h.p.f1
    have w0 := frames_nonneg (d := rest) h.b.c1
    have w1 : frames ch rest ≤ 65536 := h.b.l
    obtain ⟨m1, m2⟩ := mul_bd w0 w1 (show 0 ≤ den * 65536 by omega) (show den * 65536 ≤ 50331648000 by omega)
    have n1 := h.p.n1
    have n2 := h.p.n2
    have a1 := h.p.a1
    have a2 := h.p.a2
    obtain ⟨m3, m4⟩ := mul_bd (show 0 ≤ num by omega) n2 (show 0 ≤ 65536 + adj by omega) (show 65536 + adj ≤ 69632 by omega)
    have hS := h.p.ok.hS
    have eS : (ph num den adj frac).S = num * (65536 + adj) := rfl
    have eP : (ph num den adj frac).P = den * 65536 := rfl
    have eF : (ph num den adj frac).F = frac := rfl
    have e1 : IntKind.wrap .i64 (den * 65536) = den * 65536 := w64 (by omega) (by omega)
    have e2 : IntKind.wrap .i64 (65536 + adj) = 65536 + adj := w64 (by omega) (by omega)
    have e3 : IntKind.wrap .i64 (num * (65536 + adj)) = num * (65536 + adj) := w64 (by omega) (by omega)
    have e4 : IntKind.wrap .i64 (frames ch rest * (den * 65536)) = frames ch rest * (den * 65536) := w64 (by omega) (by omega)
    have e5 : IntKind.wrap .i64 (frames ch rest * (den * 65536) - frac) = frames ch rest * (den * 65536) - frac := w64 (by omega) (by omega)
    have e6 : IntKind.wrap .i64 (frames ch rest * (den * 65536) - frac + num * (65536 + adj)) = frames ch rest * (den * 65536) - frac + num * (65536 + adj) := w64 (by omega) (by omega)
    have e7 : IntKind.wrap .i64 (frames ch rest * (den * 65536) - frac + num * (65536 + adj) - 1) = frames ch rest * (den * 65536) - frac + num * (65536 + adj) - 1 := w64 (by omega) (by omega)
    have hS0 : (num * (65536 + adj) == 0) = false := by simp only [beq_eq_false_iff_ne]; omega
    rw [he]
    simp only [bne_self_eq_false, cond_false, if_true, ch_ne h.b.c1, w_frames h.b, gt_iff_lt, e1, e2, e3, e4, e5, e6, e7, hS0]
    have hleft : (ph num den adj frac).left (frames ch rest) = if 0 < frames ch rest * (den * 65536) - frac then (frames ch rest * (den * 65536) - frac + num * (65536 + adj) - 1) / (num * (65536 + adj)) else 0 := rfl
    by_cases hp : 0 < frames ch rest * (den * 65536) - frac
    · have t0 : 0 ≤ frames ch rest * (den * 65536) - frac + num * (65536 + adj) - 1 := by omega
      have t1 : 0 ≤ (frames ch rest * (den * 65536) - frac + num * (65536 + adj) - 1) / (num * (65536 + adj)) := Int.ediv_nonneg t0 m3
      have t2 : (frames ch rest * (den * 65536) - frac + num * (65536 + adj) - 1) / (num * (65536 + adj)) ≤ frames ch rest * (den * 65536) - frac + num * (65536 + adj) - 1 := Int.ediv_le_self _ t0
      simp only [hp, decide_true, cond_true, tdiv_pos t0]
      rw [w64 (by omega) (by omega)]
      rw [if_pos hp] at hleft
      rw [← hleft] at t1 ⊢
      have hmin : (if (ph num den adj frac).left (frames ch rest) < n then (ph num den adj frac).left (frames ch rest) else n) = min n ((ph num den adj frac).left (frames ch rest)) := by
        split <;> omega
      rw [hmin]
      have hlf := left_frames (ph num den adj frac) h.p.ok w0
      rw [s92 hk h (by omega) (by omega) (by omega), Option.bind_some]
    · rw [if_neg hp] at hleft
      simp only [hp, decide_false, cond_false]
      rw [hleft, show min n 0 = 0 by omega, s92 hk h (by omega) (by omega) (.inl rfl), Option.bind_some]
  · have e2 : (checkS (rsOK ch num den adj pos frac rest) n != 0) = true := by simpa using he
    rw [if_neg he]
    simp only [e2, cond_true]
    rfl

/-! ### feeding -/
theorem s82 {k : Nat} (hk : Big k) (a b : List Int) (ha : a.length ≤ 100000000000) (hb : b.length ≤ 100000000000) : f165 k [a, b] = some (a ++ b) := by
  unfold f165
  obtain ⟨k, rfl⟩ : ∃ j, k = j + 3 := ⟨k - 3, by unfold Big at hk; omega⟩
  have w0 : IntKind.wrap .i64 (a.length : Int) = a.length := w64 (by omega) (by omega)
  have w1 : IntKind.wrap .i64 (1 : Int) = 1 := w64 (by omega) (by omega)
  have w2 : IntKind.wrap .i64 ((a.length : Int) + b.length) = a.length + b.length := w64 (by omega) (by omega)
  have w3 : IntKind.wrap .i64 (2 : Int) = 2 := w64 (by omega) (by omega)
  have n1 : ¬ ((a.length : Int) < 0) := by omega
  have n2 : ¬ ((a.length : Int) + b.length < 0) := by omega
  have hf : f221 (k + 3) ((), (a.length : Int) + b.length) = some [] := by
    unfold f221 maxBytes
    have : (decide (0 ≤ (a.length : Int) + b.length) && decide (((a.length : Int) + b.length).toNat * 4 ≤ 140737488355328)) = true := by
      simp only [Bool.and_eq_true, decide_eq_true_eq]
      omega
    simp only [this, cond_true]
  have m1 := maxB (show a.length ≤ 1000000000000 by omega)
  have m2 := maxB (show a.length + b.length ≤ 1000000000000 by omega)
  have t1 : ∀ {R : Type} (K0 : (List (List Int) × Int) → Option R) next, L165_3 (k + 3) K0 ([a, b], 0, [a, b], 2, 0) next = next ([a, b], (a.length : Int), [a, b], 2, 1) := by
    intro R K0 next; unfold L165_3; simp [w0, w1, n1]
  have t2 : ∀ {R : Type} (K0 : (List (List Int) × Int) → Option R) next, L165_3 (k + 3) K0 ([a, b], (a.length : Int), [a, b], 2, 1) next = next ([a, b], (a.length : Int) + b.length, [a, b], 2, 2) := by
    intro R K0 next; unfold L165_3; simp [w2, w3, n2]
  have t3 : ∀ {R : Type} (K0 : (List (List Int) × Int) → Option R) next, L165_3 (k + 3) K0 ([a, b], (a.length : Int) + b.length, [a, b], 2, 2) next = K0 ([a, b], (a.length : Int) + b.length) := by
    intro R K0 next; unfold L165_3; simp
  have t4 : ∀ {R : Type} (K0 : List Int → Option R) next, L165_11 (k + 3) K0 ([a, b], 2, 0, []) next = next ([a, b], 2, 1, a) := by
    intro R K0 next; unfold L165_11
    simp only [List.length_cons, List.length_nil]
    simp [w1]
    rw [m1, cond_true]
  have t5 : ∀ {R : Type} (K0 : List Int → Option R) next, L165_11 (k + 3) K0 ([a, b], 2, 1, a) next = next ([a, b], 2, 2, a ++ b) := by
    intro R K0 next; unfold L165_11
    simp only [List.length_cons, List.length_nil]
    simp [w3]
    rw [m2, cond_true]
  have t6 : ∀ {R : Type} (K0 : List Int → Option R) next, L165_11 (k + 3) K0 ([a, b], 2, 2, a ++ b) next = K0 (a ++ b) := by
    intro R K0 next; unfold L165_11; simp
  show L165_3 (k + 3) _ ([a, b], 0, [a, b], 2, 0) (loopC (k + 2) _) = _
  rw [t1]
  show L165_3 (k + 3) _ _ (loopC (k + 1) _) = _
  rw [t2]
  show L165_3 (k + 3) _ _ (loopC k _) = _
  rw [t3]
  simp only [hf, Option.bind_some]
  show L165_11 (k + 3) _ ([a, b], 2, 0, []) (loopC (k + 2) _) = _
  rw [t4]
  show L165_11 (k + 3) _ _ (loopC (k + 1) _) = _
  rw [t5]
  show L165_11 (k + 3) _ _ (loopC k _) = _
  rw [t6]

def feedS (ch num den adj pos frac : Int) (rest : List Int) (bc : Int) (bd : List Int) : RsT × Int :=
  if rsOK ch num den adj pos frac rest = true ∧ bkOK bc bd = true then
    if bc = ch then
      if 65536 < ((rest.length : Int) + bd.length) / ch then (zeroR, 3) else ((ch, num, den, adj, pos, frac, rest ++ bd), 0)
    else (zeroR, 11)
  else (zeroR, 1)
theorem s25 {k : Nat} (hk : Big k) (ch num den adj pos frac : Int) (rest : List Int) (bc : Int) (bd : List Int) (h1 : rest.length ≤ 1000000000000) (h2 : bd.length ≤ 1000000000000) :
    f93 k ((ch, num, den, adj, pos, frac, rest), bc, bd) = some (feedS ch num den adj pos frac rest bc bd) := by
  unfold f93 feedS
  simp only [s28 hk _ _ _ _ _ _ _ h1, s81 hk _ _ h2, Option.bind_some]
  cases hr : rsOK ch num den adj pos frac rest with
  | false => simp [zeroR]
  | true =>
    cases hb : bkOK bc bd with
    | false => simp [zeroR]
    | true =>
      have h := ((rsOK_iff _ _ _ _ _ _ _).1 hr).b
      have l1 := h.len_le
      have l2 := ((bkOK_iff _ _).1 hb).len_le
      simp only [Bool.not_true, cond_false, and_self, if_true]
      by_cases hc : bc = ch
      · subst hc
        have e0 : (0 : Int) ≤ (rest.length : Int) + bd.length := by omega
        have e1 := Int.ediv_nonneg e0 (show 0 ≤ bc by have := h.c1; omega)
        have e2 := Int.ediv_le_self bc e0
        simp only [bne_self_eq_false, cond_false, ch_ne h.c1, if_true]
        rw [w64 (x := (rest.length : Int) + bd.length) (by omega) (by omega), tdiv_pos e0, w64 (by omega) (by omega)]
        by_cases hh : 65536 < ((rest.length : Int) + bd.length) / bc
        · simp [hh, zeroR]
        · simp only [gt_iff_lt, hh, decide_false, cond_false, if_false]
          rw [s82 hk _ _ (by omega) (by omega), Option.bind_some]
      · have : (bc != ch) = true := by simpa using hc
        simp [this, hc, zeroR]
theorem feedS_ok {ch num den adj pos frac : Int} {rest : List Int} {bc : Int} {bd : List Int} (h : (feedS ch num den adj pos frac rest bc bd).2 = 0) :
    feedS ch num den adj pos frac rest bc bd = ((ch, num, den, adj, pos, frac, rest ++ bd), 0) ∧ RsOK ch num den adj pos frac (rest ++ bd) ∧ RsOK ch num den adj pos frac rest ∧ BkOK ch bd ∧ bc = ch := by
  unfold feedS at h ⊢
  split at h
  · rename_i h0
    rw [if_pos h0]
    split at h
    · rename_i h1
      rw [if_pos h1]
      split at h
      · simp at h
      · rename_i h2
        rw [if_neg h2]
        subst h1
        have a := (rsOK_iff _ _ _ _ _ _ _).1 h0.1
        have b := (bkOK_iff _ _).1 h0.2
        refine ⟨rfl, ⟨a.p, ⟨a.b.c1, a.b.c2, ?_, ?_, fun x hx => ?_⟩⟩, a, b, rfl⟩
        · rw [List.length_append, Int.natCast_add, Int.add_emod, a.b.m, b.m]; simp
        · rw [List.length_append, Int.natCast_add]; omega
        · rcases List.mem_append.1 hx with hx | hx
          · exact a.b.s x hx
          · exact b.s x hx
    · simp at h
  · simp at h
noncomputable def convS (ch num den adj pos frac : Int) (rest : List Int) (bc : Int) (bd : List Int) : BkT × RsT × Int :=
  if (feedS ch num den adj pos frac rest bc bd).2 = 0 then
    takeS ch num den adj pos frac (rest ++ bd) ((ph num den adj frac).make (frames ch (rest ++ bd)))
  else (zeroB, zeroR, (feedS ch num den adj pos frac rest bc bd).2)
theorem s39 {k : Nat} (hk : Big k) (ch num den adj pos frac : Int) (rest : List Int) (bc : Int) (bd : List Int) (h1 : rest.length ≤ 100000000000) (h2 : bd.length ≤ 100000000000) :
    f137 k ((ch, num, den, adj, pos, frac, rest), bc, bd) = some (convS ch num den adj pos frac rest bc bd) := by
  unfold f137 convS
  rw [s25 hk _ _ _ _ _ _ _ _ _ (by omega) (by omega), Option.bind_some]
  by_cases he : (feedS ch num den adj pos frac rest bc bd).2 = 0
  · obtain ⟨e, h, _⟩ := feedS_ok he
    have w0 := frames_nonneg (d := rest ++ bd) h.b.c1
    have w1 : frames ch (rest ++ bd) ≤ 65536 := h.b.l
    have hm : makeS num den adj pos frac (frames ch (rest ++ bd)) = ((ph num den adj frac).make (frames ch (rest ++ bd)), 0) := by
      unfold makeS
      rw [if_pos ((phOK_iff _ _ _ _ _).2 h.p), if_neg (by omega)]
    simp only [e, bne_self_eq_false, cond_false, ch_ne h.b.c1, if_true, w_frames h.b, s96 hk, hm, Option.bind_some]
    rw [s34 hk _ _ _ _ _ _ _ (by simp; omega), Option.bind_some]
  · have e2 : ((feedS ch num den adj pos frac rest bc bd).2 != 0) = true := by simpa using he
    rw [if_neg he]
    simp only [e2, cond_true]
    rfl

/-! ### the reference -/
theorem s29 {k : Nat} (hk : Big k) (ch num den adj pos frac : Int) (rest : List Int) (hd : rest.length ≤ 1000000000000) : f112 k (ch, num, den, adj, pos, frac, rest) = some (rsOK ch num den adj pos frac rest) := by
  unfold f112 rsOK f194
  simp only [s87 hk, s83 hk _ _ hd, Option.bind_some]
  cases phOK num den adj pos frac <;> simp
theorem s31 {k : Nat} (hk : Big k) (ch num den adj pos frac : Int) (rest : List Int) (hd : rest.length ≤ 1000000000000) : f115 k (ch, num, den, adj, pos, frac, rest) = some (waiting ch num den adj pos frac rest) := by
  unfold f115 waiting
  rw [s29 hk _ _ _ _ _ _ _ hd]
  simp only [Option.bind_some]
  cases hv : rsOK ch num den adj pos frac rest with
  | false => simp
  | true =>
    have h := ((rsOK_iff _ _ _ _ _ _ _).1 hv).b
    simp only [Bool.not_true, cond_false, ch_ne h.c1, if_true, w_frames h]
theorem s33 {k : Nat} (hk : Big k) (ch num den : Int) : f37 k (ch, num, den) = some (newS ch num den) := by
  unfold f37 newS
  simp only [s29 hk _ _ _ _ _ _ [] (by simp), Option.bind_some]
  cases rsOK ch num den 0 0 0 [] <;> simp
theorem s26 {k : Nat} (hk : Big k) (ch num den adj pos frac : Int) (rest : List Int) (bc : Int) (bd : List Int) (h1 : rest.length ≤ 1000000000000) (h2 : bd.length ≤ 1000000000000) :
    f113 k ((ch, num, den, adj, pos, frac, rest), bc, bd) = some (feedS ch num den adj pos frac rest bc bd) := by
  unfold f113 feedS
  simp only [s29 hk _ _ _ _ _ _ _ h1, s83 hk _ _ h2, Option.bind_some]
  cases hr : rsOK ch num den adj pos frac rest with
  | false => simp [zeroR]
  | true =>
    cases hb : bkOK bc bd with
    | false => simp [zeroR]
    | true =>
      have h := ((rsOK_iff _ _ _ _ _ _ _).1 hr).b
      have l1 := h.len_le
      have l2 := ((bkOK_iff _ _).1 hb).len_le
      simp only [Bool.not_true, cond_false, and_self, if_true]
      by_cases hc : bc = ch
      · subst hc
        have e0 : (0 : Int) ≤ (rest.length : Int) + bd.length := by omega
        have e1 := Int.ediv_nonneg e0 (show 0 ≤ bc by have := h.c1; omega)
        have e2 := Int.ediv_le_self bc e0
        simp only [bne_self_eq_false, cond_false, ch_ne h.c1, if_true]
        rw [w64 (x := (rest.length : Int) + bd.length) (by omega) (by omega), tdiv_pos e0, w64 (by omega) (by omega)]
        by_cases hh : 65536 < ((rest.length : Int) + bd.length) / bc
        · simp [hh, zeroR]
        · simp only [gt_iff_lt, hh, decide_false, cond_false, if_false]
          rw [maxB (show rest.length ≤ 1000000000000 by omega), maxB (show rest.length + bd.length ≤ 1000000000000 by omega)]
          rfl
      · have : (bc != ch) = true := by simpa using hc
        simp [this, hc, zeroR]
end Go.Proofs.YtbfkfobfhjgphaaGreat.Sp

/- What the reference's resampler does, in plain words: the same as the program's. Comparisons of blocks and resamplers. -/
set_option linter.unusedVariables false
set_option linter.unusedSimpArgs false
namespace Go.Proofs.YtbfkfobfhjgphaaGreat.Sp
open Go Go.Pev Go.Snd Go.Proofs.YtbfkfobfhjgphaaGreat.Fn

def passS (ch num den adj pos frac : Int) (rest : List Int) (n : Int) : RsT × Int :=
  if (advS num den adj pos frac n).2 = 0 then
    ((ch, num, den, adj, pos + (ph num den adj frac).gone n, (ph num den adj frac).A n % (den * 65536), rest.drop (goneS num den adj frac n * ch.toNat)), 0)
  else (zeroR, (advS num den adj pos frac n).2)
theorem advS_eq {num den adj pos frac n : Int} (h : PhOK num den adj pos frac) (h0 : 0 ≤ n) (h1 : n ≤ 65536) (he : (advS num den adj pos frac n).2 = 0) :
    advS num den adj pos frac n = ((num, den, adj, pos + (ph num den adj frac).gone n, (ph num den adj frac).A n % (den * 65536)), 0) := by
  have hck : checkS (phOK num den adj pos frac) n = 0 := (checkS_zero _ _).2 ⟨(phOK_iff _ _ _ _ _).2 h, h0, h1⟩
  unfold advS at he ⊢
  rw [if_pos hck] at he ⊢
  split
  · rename_i hh; rw [if_pos hh] at he; simp at he
  · rfl
theorem s94 {k : Nat} (hk : Big k) {ch num den adj pos frac : Int} {rest : List Int} (h : RsOK ch num den adj pos frac rest) {n : Int} (h0 : 0 ≤ n) (h1 : n ≤ 65536) : f195 k ((ch, num, den, adj, pos, frac, rest), n) = some (passS ch num den adj pos frac rest n) := by
  unfold f195 passS
  simp only [s144 hk, Option.bind_some]
  by_cases he : (advS num den adj pos frac n).2 = 0
  · have hl := rs_len ((rsOK_iff _ _ _ _ _ _ _).2 h)
    have hw : waiting ch num den adj pos frac rest = frames ch rest := by unfold waiting; rw [if_pos ((rsOK_iff _ _ _ _ _ _ _).2 h)]
    have c1 := h.b.c1
    have c2 := h.b.c2
    obtain ⟨g1, g2⟩ := gone_bd h.p h0 h1
    have w0 := frames_nonneg (d := rest) h.b.c1
    have w1 : frames ch rest ≤ 65536 := h.b.l
    have hlen := h.b.len
    have p0 := h.p.p0
    have p1 := h.p.p1
    rw [advS_eq h.p h0 h1 he]
    have e3 : pos + (ph num den adj frac).gone n - pos = (ph num den adj frac).gone n := by omega
    have e4 : IntKind.wrap .i64 ((ph num den adj frac).gone n) = (ph num den adj frac).gone n := w64 (by omega) (by omega)
    simp only [bne_self_eq_false, cond_false, if_true, s31 hk _ _ _ _ _ _ _ (show rest.length ≤ 1000000000000 by omega), hw, Option.bind_some, e3, e4]
    obtain ⟨cN, rfl⟩ : ∃ cN : Nat, ch = cN := ⟨ch.toNat, by omega⟩
    obtain ⟨G, hG⟩ : ∃ G : Nat, (ph num den adj frac).gone n = G := ⟨((ph num den adj frac).gone n).toNat, by omega⟩
    obtain ⟨wN, hwN⟩ : ∃ wN : Nat, frames cN rest = wN := ⟨(frames cN rest).toNat, by omega⟩
    have hg : goneS num den adj frac n = G := by unfold goneS; rw [hG]; omega
    rw [hwN] at hlen w1
    have hr : rest.length = wN * cN := by
      have : ((rest.length : Nat) : Int) = ((wN * cN : Nat) : Int) := by rw [hlen]; simp
      omega
    simp only [hG, hwN, hg]
    have hmin : (if (wN : Int) < (G : Int) then (wN : Int) else (G : Int)) = ((min G wN : Nat) : Int) := by split <;> omega
    have hm1 : min G wN * cN ≤ wN * cN := Nat.mul_le_mul_right _ (by omega)
    have e5 : IntKind.wrap .i64 (((min G wN : Nat) : Int) * (cN : Int)) = ((min G wN * cN : Nat) : Int) := by
      rw [← Int.natCast_mul]
      exact w64 (by omega) (by omega)
    simp only [hmin, e5]
    have d1 : decide ((0 : Int) ≤ ((min G wN * cN : Nat) : Int)) = true := by simp only [decide_eq_true_eq]; omega
    have d2 : decide (((min G wN * cN : Nat) : Int) ≤ (rest.length : Int)) = true := by simp only [decide_eq_true_eq]; omega
    have htk : rest.take ((rest.length : Int)).toNat = rest := List.take_of_length_le (by omega)
    have hdr : rest.drop ((min G wN * cN : Nat) : Int).toNat = rest.drop (G * cN) := by
      rw [Int.toNat_natCast]
      rcases Nat.lt_or_ge wN G with hh | hh
      · have := Nat.mul_le_mul_right cN (show wN ≤ G by omega)
        rw [show min G wN = wN by omega, List.drop_of_length_le (by omega), List.drop_of_length_le (by omega)]
      · rw [show min G wN = G by omega]
    simp only [d1, d2, Bool.and_self, Int.le_refl, decide_true, cond_true, htk, hdr]
    rw [maxB (by simp; omega), cond_true]
    simp
  · have : ((advS num den adj pos frac n).2 != 0) = true := by simpa using he
    rw [if_neg he]
    simp only [this, cond_true]
    rfl

theorem inner95 {k : Nat} (hk : Big k) {R : Type} (K0 : (Int × Int × Int × (Int × Int × Int × Int × Int × Int × List (Int)) × Int × Int × List (Int)) → Option R) {cN : Nat} {num den adj pos frac : Int} {rest : List Int} (h : RsOK cN num den adj pos frac rest) {wN : Nat} (hr : rest.length = wN * cN)
    {f : Int} (hf : 0 ≤ f) (hf' : f ≤ den * 65536) (j1 j2 : Nat) (hj1 : j1 < wN) (hj2 : j2 < wN) (n w i : Int) (z c : Int) (data : List Int) (hd : data.length ≤ 100000000000) :
    loopC k (L196_10 k K0) (n, w, i, f, (j1 : Int) * cN, (j2 : Int) * cN, 0, ((cN : Int), num, den, adj, pos, frac, rest), z, c, data) =
      K0 (n, w, i, ((cN : Int), num, den, adj, pos, frac, rest), z, c, data ++ (List.range cN).map fun m => ip (smp cN rest j1 m) (smp cN rest j2 m) f (den * 65536)) := by
  have hlen := rs_len ((rsOK_iff _ _ _ _ _ _ _).2 h)
  have c1 := h.b.c1
  have c2 := h.b.c2
  have hPpos : 0 < den * 65536 := by have := h.p.d1; omega
  have hPle : den * 65536 ≤ 50331648000 := by have := h.p.d2; omega
  have hend : ∀ j m, j < wN → m < cN → j * cN + m < rest.length := by
    intro j m hj hm
    rw [hr]
    calc j * cN + m < j * cN + cN := by omega
      _ = (j + 1) * cN := by rw [Nat.add_mul, Nat.one_mul]
      _ ≤ wN * cN := Nat.mul_le_mul_right _ hj
  refine (loopC_spec (L196_10 k K0) (fun y => ∃ m : Nat, ∃ e : List Int, y = (n, w, i, f, (j1 : Int) * cN, (j2 : Int) * cN, (m : Int), ((cN : Int), num, den, adj, pos, frac, rest), z, c, e) ∧ m ≤ cN ∧ e.length ≤ 100000000000 + m)
    (fun y => K0 (n, w, i, ((cN : Int), num, den, adj, pos, frac, rest), z, c, y.2.2.2.2.2.2.2.2.2.2 ++ (List.range' y.2.2.2.2.2.2.1.toNat (cN - y.2.2.2.2.2.2.1.toNat)).map fun m => ip (smp cN rest j1 m) (smp cN rest j2 m) f (den * 65536))) (fun y => (cN - y.2.2.2.2.2.2.1).toNat) ?_ k _ ⟨0, data, rfl, Nat.zero_le _, by omega⟩ (hk.lt (by simp; omega))).trans (by simp [List.range_eq_range'])
  rintro y next ⟨m, e, rfl, hm, he⟩ hn
  simp only at hn
  have em : ((m : Int)).toNat = m := by omega
  unfold L196_10
  simp only [em]
  by_cases hlt : m < cN
  · have x1 := hend j1 m hj1 hlt
    have x2 := hend j2 m hj2 hlt
    have e1 : IntKind.wrap .i64 ((j1 : Int) * cN + m) = ((j1 * cN + m : Nat) : Int) := by
      rw [show (j1 : Int) * cN + m = ((j1 * cN + m : Nat) : Int) by simp]
      exact w64 (by omega) (by omega)
    have e2 : IntKind.wrap .i64 ((j2 : Int) * cN + m) = ((j2 * cN + m : Nat) : Int) := by
      rw [show (j2 : Int) * cN + m = ((j2 * cN + m : Nat) : Int) by simp]
      exact w64 (by omega) (by omega)
    have d1 : decide ((m : Int) < (cN : Int)) = true := by simp; omega
    have d2 : decide ((0 : Int) ≤ ((j1 * cN + m : Nat) : Int)) = true := by simp only [decide_eq_true_eq]; omega
    have d3 : decide (((j1 * cN + m : Nat) : Int) < (rest.length : Int)) = true := by simp only [decide_eq_true_eq]; omega
    have d4 : decide ((0 : Int) ≤ ((j2 * cN + m : Nat) : Int)) = true := by simp only [decide_eq_true_eq]; omega
    have d5 : decide (((j2 * cN + m : Nat) : Int) < (rest.length : Int)) = true := by simp only [decide_eq_true_eq]; omega
    have hw : IntKind.wrap .i64 ((m : Int) + 1) = ((m + 1 : Nat) : Int) := by rw [w64 (by omega) (by omega)]; omega
    simp only [d1, e1, e2, d2, d3, d4, d5, cond_true, Bool.and_self, s100 k _ _ _ _ _ h.p.d1 h.p.d2, Option.bind_some, Int.toNat_natCast, hw]
    rw [s145 k (h.b.s _ (getD_mem x1)) (h.b.s _ (getD_mem x2)) hPpos hPle hf hf', Option.bind_some, maxB (by simp; omega), cond_true]
    rw [hn _ ⟨m + 1, _, rfl, by omega, by simp; omega⟩ (by simp only; omega)]
    have em' : (((m + 1 : Nat) : Int)).toNat = m + 1 := by omega
    simp only [em']
    rw [show cN - m = (cN - (m + 1)) + 1 by omega, List.range'_succ, List.map_cons, List.append_assoc]
    rfl
  · have : m = cN := by omega
    subst this
    have d1 : decide ((m : Int) < (m : Int)) = false := by simp
    simp only [d1, cond_false, Nat.sub_self, List.range'_zero, List.map_nil, List.append_nil]

theorem s95 {k : Nat} (hk : Big k) {ch num den adj pos frac : Int} {rest : List Int} (h : RsOK ch num den adj pos frac rest) {n : Int} (h0 : 0 ≤ n) (h1 : n ≤ 65536) (hn : n = 0 ∨ 1 ≤ frames ch rest) :
    f196 k ((ch, num, den, adj, pos, frac, rest), n) = some (ch, outS ch num den adj frac rest n) := by
  have hl := rs_len ((rsOK_iff _ _ _ _ _ _ _).2 h)
  have hw : waiting ch num den adj pos frac rest = frames ch rest := by unfold waiting; rw [if_pos ((rsOK_iff _ _ _ _ _ _ _).2 h)]
  have c1 := h.b.c1
  have c2 := h.b.c2
  have w0 := frames_nonneg (d := rest) h.b.c1
  have w1 : frames ch rest ≤ 65536 := h.b.l
  have hlen := h.b.len
  have p0 := h.p.p0
  have p1 := h.p.p1
  have hp := (phOK_iff _ _ _ _ _).2 h.p
  unfold f196
  simp only [s31 hk _ _ _ _ _ _ _ (show rest.length ≤ 1000000000000 by omega), hw, Option.bind_some]
  obtain ⟨cN, rfl⟩ : ∃ cN : Nat, ch = cN := ⟨ch.toNat, by omega⟩
  obtain ⟨nN, rfl⟩ : ∃ nN : Nat, n = nN := ⟨n.toNat, by omega⟩
  obtain ⟨wN, hwN⟩ : ∃ wN : Nat, frames cN rest = wN := ⟨(frames cN rest).toNat, by omega⟩
  rw [hwN] at hlen w1 hn
  have hr : rest.length = wN * cN := by
    have : ((rest.length : Nat) : Int) = ((wN * cN : Nat) : Int) := by rw [hlen]; simp
    omega
  have ec : ((cN : Int)).toNat = cN := by omega
  have ew : ((wN : Int)).toNat = wN := by omega
  have en : ((nN : Int)).toNat = nN := by omega
  simp only [hwN]
  refine (loopC_spec (L196_4 k _) (fun y => ∃ i : Nat, ∃ e : List Int, y = ((nN : Int), (wN : Int), (i : Int), ((cN : Int), num, den, adj, pos, frac, rest), 0, (cN : Int), e) ∧ i ≤ nN ∧ e.length = i * cN)
    (fun y => some ((cN : Int), y.2.2.2.2.2.2 ++ (List.range' y.2.2.1.toNat (nN - y.2.2.1.toNat)).flatMap (fr (ph num den adj frac) cN rest wN))) (fun y => (nN - y.2.2.1).toNat) ?_ k _ ⟨0, [], rfl, Nat.zero_le _, by simp⟩ (hk.lt (by simp; omega))).trans ?_
  · rintro y next ⟨i, e, rfl, hi, hel⟩ hnext
    simp only at hnext
    have ei : ((i : Int)).toNat = i := by omega
    unfold L196_4
    simp only [ei]
    by_cases hlt : i < nN
    · have c3 : decide ((i : Int) < (nN : Int)) = true := by simp; omega
      have hck' : checkS (phOK num den adj pos frac) i = 0 := (checkS_zero _ _).2 ⟨hp, by omega, by omega⟩
      have hat : atS num den adj pos frac i = (pos + (ph num den adj frac).gone i, (ph num den adj frac).A i % (den * 65536), 0) := by unfold atS; rw [if_pos hck']
      obtain ⟨g3, g4⟩ := gone_bd h.p (show (0 : Int) ≤ i by omega) (by omega)
      have e3 : pos + (ph num den adj frac).gone i - pos = (ph num den adj frac).gone i := by omega
      have e4 : IntKind.wrap .i64 ((ph num den adj frac).gone i) = (ph num den adj frac).gone i := w64 (by omega) (by omega)
      have e5 : IntKind.wrap .i64 ((ph num den adj frac).gone i + 1) = (ph num den adj frac).gone i + 1 := w64 (by omega) (by omega)
      have e6 : IntKind.wrap .i64 ((wN : Int) - 1) = (wN : Int) - 1 := w64 (by omega) (by omega)
      have hPpos : 0 < den * 65536 := by have := h.p.d1; omega
      have hf0 := Int.emod_nonneg ((ph num den adj frac).A i) (Int.ne_of_gt hPpos)
      have hf1 := Int.emod_lt_of_pos ((ph num den adj frac).A i) hPpos
      obtain ⟨G, hG⟩ : ∃ G : Nat, (ph num den adj frac).gone i = G := ⟨((ph num den adj frac).gone i).toNat, by omega⟩
      have hm1 : (if (wN : Int) - 1 < (G : Int) then (wN : Int) - 1 else (G : Int)) = ((min G (wN - 1) : Nat) : Int) := by split <;> omega
      have hm2 : (if (wN : Int) - 1 < (G : Int) + 1 then (wN : Int) - 1 else (G : Int) + 1) = ((min (G + 1) (wN - 1) : Nat) : Int) := by split <;> omega
      have hb1 : min G (wN - 1) * cN ≤ wN * cN := Nat.mul_le_mul_right _ (by omega)
      have hb2 : min (G + 1) (wN - 1) * cN ≤ wN * cN := Nat.mul_le_mul_right _ (by omega)
      have e7 : IntKind.wrap .i64 (((min G (wN - 1) : Nat) : Int) * (cN : Int)) = ((min G (wN - 1) : Nat) : Int) * (cN : Int) := by
        rw [← Int.natCast_mul]; exact w64 (by omega) (by omega)
      have e8 : IntKind.wrap .i64 (((min (G + 1) (wN - 1) : Nat) : Int) * (cN : Int)) = ((min (G + 1) (wN - 1) : Nat) : Int) * (cN : Int) := by
        rw [← Int.natCast_mul]; exact w64 (by omega) (by omega)
      simp only [c3, cond_true, s46 hk, hat, Option.bind_some, e3, e4, e5, e6]
      simp only [hG, hm1, hm2, e7, e8]
      rw [inner95 hk _ h hr hf0 (by omega) _ _ (by omega) (by omega) _ _ _ _ _ _ (by
        rw [hel]
        have : i * cN ≤ 65536 * 8 := Nat.mul_le_mul (by omega) (by omega)
        omega)]
      simp only
      have hw' : IntKind.wrap .i64 ((i : Int) + 1) = ((i + 1 : Nat) : Int) := by rw [w64 (by omega) (by omega)]; omega
      rw [hw']
      have hfr : ((List.range cN).map fun m => ip (smp cN rest (min G (wN - 1)) m) (smp cN rest (min (G + 1) (wN - 1)) m) ((ph num den adj frac).A i % (den * 65536)) (den * 65536)) = fr (ph num den adj frac) cN rest wN i := by
        unfold fr
        rw [hG, Int.toNat_natCast]
        rfl
      rw [hfr, hnext _ ⟨i + 1, e ++ fr (ph num den adj frac) cN rest wN i, rfl, by omega, by rw [List.length_append, hel, fr_length, Nat.add_mul, Nat.one_mul]⟩ (by simp only; omega)]
      have ei' : (((i + 1 : Nat) : Int)).toNat = i + 1 := by omega
      simp only [ei']
      rw [show nN - i = (nN - (i + 1)) + 1 by omega, List.range'_succ, List.flatMap_cons, List.append_assoc]
    · have : i = nN := by omega
      subst this
      have c3 : decide ((i : Int) < (i : Int)) = false := by simp
      simp only [c3, cond_false, Nat.sub_self, List.range'_zero, List.flatMap_nil, List.append_nil]
  · simp only [outS, hwN, ec, ew, en, out, Int.toNat_zero, Int.toNat_natCast, Nat.sub_zero, List.nil_append, List.range_eq_range']
theorem prodS_eq (ch num den adj pos frac : Int) (rest : List Int) (n : Int) : prodS ch num den adj pos frac rest n = if (passS ch num den adj pos frac rest n).2 = 0 then ((ch, outS ch num den adj frac rest n), (passS ch num den adj pos frac rest n).1, 0) else (zeroB, zeroR, (passS ch num den adj pos frac rest n).2) := by
  unfold prodS passS
  by_cases he : (advS num den adj pos frac n).2 = 0
  · simp [he]
  · simp [he, zeroB, zeroR]
theorem s35 {k : Nat} (hk : Big k) (ch num den adj pos frac : Int) (rest : List Int) (hd : rest.length ≤ 1000000000000) (n : Int) : f116 k ((ch, num, den, adj, pos, frac, rest), n) = some (takeS ch num den adj pos frac rest n) := by
  unfold f116 takeS
  rw [s29 hk _ _ _ _ _ _ _ hd, Option.bind_some]
  cases hr : rsOK ch num den adj pos frac rest with
  | false => simp [checkS, zeroB, zeroR]
  | true =>
    have h := (rsOK_iff _ _ _ _ _ _ _).1 hr
    have hw : waiting ch num den adj pos frac rest = frames ch rest := by unfold waiting; rw [if_pos hr]
    have hc : checkS (phOK num den adj pos frac) n = checkS true n := by rw [(phOK_iff _ _ _ _ _).2 h.p]
    simp only [Bool.not_true, cond_false, s93 hk, Option.bind_some]
    unfold needS
    rw [hc]
    by_cases he : checkS true n = 0
    · obtain ⟨_, h0, h1⟩ := (checkS_zero _ _).1 he
      simp only [he, if_true, bne_self_eq_false, cond_false, s31 hk _ _ _ _ _ _ _ hd, hw, Option.bind_some, gt_iff_lt]
      by_cases hs : frames ch rest < (ph num den adj frac).need n
      · simp [hs, zeroB, zeroR]
      · simp only [hs, decide_false, cond_false, if_false]
        rw [s94 hk h h0 h1, Option.bind_some, s95 hk h h0 h1 (need_frames h.p h0 (by omega)), Option.bind_some, prodS_eq]
        by_cases hp : (passS ch num den adj pos frac rest n).2 = 0
        · simp [hp]
        · have : ((passS ch num den adj pos frac rest n).2 != 0) = true := by simpa using hp
          simp [hp, this, zeroB, zeroR]
    · have : (checkS true n != 0) = true := by simpa using he
      simp [he, this, zeroB, zeroR]
theorem s40 {k : Nat} (hk : Big k) (ch num den adj pos frac : Int) (rest : List Int) (bc : Int) (bd : List Int) (h1 : rest.length ≤ 100000000000) (h2 : bd.length ≤ 100000000000) :
    f38 k ((ch, num, den, adj, pos, frac, rest), bc, bd) = some (convS ch num den adj pos frac rest bc bd) := by
  unfold f38 convS
  rw [s26 hk _ _ _ _ _ _ _ _ _ (by omega) (by omega), Option.bind_some]
  by_cases he : (feedS ch num den adj pos frac rest bc bd).2 = 0
  · obtain ⟨e, h, _⟩ := feedS_ok he
    have hl := rs_len ((rsOK_iff _ _ _ _ _ _ _).2 h)
    have w0 := frames_nonneg (d := rest ++ bd) h.b.c1
    have w1 : frames ch (rest ++ bd) ≤ 65536 := h.b.l
    have hw : waiting ch num den adj pos frac (rest ++ bd) = frames ch (rest ++ bd) := by unfold waiting; rw [if_pos ((rsOK_iff _ _ _ _ _ _ _).2 h)]
    have hm : makeS num den adj pos frac (frames ch (rest ++ bd)) = ((ph num den adj frac).make (frames ch (rest ++ bd)), 0) := by
      unfold makeS
      rw [if_pos ((phOK_iff _ _ _ _ _).2 h.p), if_neg (by omega)]
    simp only [e, bne_self_eq_false, cond_false, if_true, s31 hk _ _ _ _ _ _ _ (show (rest ++ bd).length ≤ 1000000000000 by omega), hw, s45 hk, hm, Option.bind_some]
    rw [s35 hk _ _ _ _ _ _ _ (by omega), Option.bind_some]
  · have e2 : ((feedS ch num den adj pos frac rest bc bd).2 != 0) = true := by simpa using he
    rw [if_neg he]
    simp only [e2, cond_true]
    rfl
theorem s37 {k : Nat} (hk : Big k) (ch num den adj pos frac : Int) (rest : List Int) (hd : rest.length ≤ 1000000000000) (n : Int) : f136 k ((ch, num, den, adj, pos, frac, rest), n) = some (finS ch num den adj pos frac rest n) := by
  unfold f136 finS
  rw [s29 hk _ _ _ _ _ _ _ hd, Option.bind_some]
  cases hr : rsOK ch num den adj pos frac rest with
  | false => simp [checkS, zeroB, zeroR]
  | true =>
    have h := (rsOK_iff _ _ _ _ _ _ _).1 hr
    have hw : waiting ch num den adj pos frac rest = frames ch rest := by unfold waiting; rw [if_pos hr]
    by_cases h2 : n < 0
    · simp [checkS, h2, zeroB, zeroR]
    by_cases h3 : 65536 < n
    · simp [checkS, h2, h3, zeroB, zeroR]
    have hck : checkS true n = 0 := (checkS_zero _ _).2 ⟨rfl, by omega, by omega⟩
    have w0 := frames_nonneg (d := rest) h.b.c1
    have hp := (phOK_iff _ _ _ _ _).2 h.p
    have p0 := h.p.p0
    have p1 := h.p.p1
    simp only [Bool.not_true, cond_false, h2, decide_false, gt_iff_lt, h3, hck, if_true, s31 hk _ _ _ _ _ _ _ hd, hw, Option.bind_some]
    have hl0 := (ph num den adj frac).left_nonneg h.p.ok (frames ch rest)
    have hlf := left_frames (ph num den adj frac) h.p.ok w0
    have hfin : ∀ c : Int, c = min n ((ph num den adj frac).left (frames ch rest)) → (Option.bind (f195 k ((ch, num, den, adj, pos, frac, rest), c)) fun r5 =>
        bif (r5.2 != (0 : Int)) then some (((0 : Int), []), ((0 : Int), (0 : Int), (0 : Int), (0 : Int), (0 : Int), (0 : Int), []), r5.2)
        else Option.bind (f196 k ((ch, num, den, adj, pos, frac, rest), c)) fun r6 => some (r6, r5.1, (0 : Int))) = some (prodS ch num den adj pos frac rest (min n ((ph num den adj frac).left (frames ch rest)))) := by
      rintro c rfl
      rw [s94 hk h (by omega) (by omega), Option.bind_some, s95 hk h (by omega) (by omega) (by omega), Option.bind_some, prodS_eq]
      by_cases hp : (passS ch num den adj pos frac rest (min n ((ph num den adj frac).left (frames ch rest)))).2 = 0
      · simp [hp]
      · have : ((passS ch num den adj pos frac rest (min n ((ph num den adj frac).left (frames ch rest)))).2 != 0) = true := by simpa using hp
        simp [hp, this, zeroB, zeroR]
    refine loopC_spec (L136_6 k _) (fun y => ∃ c : Int, y = (n, c, frames ch rest, (ch, num, den, adj, pos, frac, rest), 0, 0, 0, 0, 0, 0, 0) ∧ 0 ≤ c ∧ c ≤ n ∧ c ≤ (ph num den adj frac).left (frames ch rest)) (fun _ => some (prodS ch num den adj pos frac rest (min n ((ph num den adj frac).left (frames ch rest))))) (fun y => (n - y.2.1).toNat) ?_ k _ ⟨0, rfl, by omega, by omega, by omega⟩ (hk.lt (by simp; omega))
    rintro y next ⟨c, rfl, q0, q1, q2⟩ hnext
    simp only at hnext
    unfold L136_6
    simp only
    by_cases hlt : c < n
    · have hck' : checkS (phOK num den adj pos frac) c = 0 := (checkS_zero _ _).2 ⟨hp, by omega, by omega⟩
      have hat : atS num den adj pos frac c = (pos + (ph num den adj frac).gone c, (ph num den adj frac).A c % (den * 65536), 0) := by unfold atS; rw [if_pos hck']
      obtain ⟨g3, g4⟩ := gone_bd h.p q0 (by omega)
      have e3 : pos + (ph num den adj frac).gone c - pos = (ph num den adj frac).gone c := by omega
      have e4 : IntKind.wrap .i64 ((ph num den adj frac).gone c) = (ph num den adj frac).gone c := w64 (by omega) (by omega)
      have e5 : IntKind.wrap .i64 (c + 1) = c + 1 := w64 (by omega) (by omega)
      have hll := (ph num den adj frac).lt_left h.p.ok (w := frames ch rest) q0
      simp only [hlt, decide_true, cond_true, s46 hk, hat, Option.bind_some, e3, e4, e5, ge_iff_le]
      by_cases hb : frames ch rest ≤ (ph num den adj frac).gone c
      · simp only [hb, decide_true, cond_true]
        exact hfin c (by omega)
      · simp only [hb, decide_false, cond_false]
        exact hnext _ ⟨c + 1, rfl, by omega, by omega, by omega⟩ (by simp only; omega)
    · simp only [hlt, decide_false, cond_false]
      exact hfin c (by omega)

/-! ### comparisons -/
theorem same_loop {k : Nat} (hk : Big k) (d : List Int) (hd : d.length ≤ 1000000000) : f71 k (d, d) = some true := by
  unfold f71
  simp only [bne_self_eq_false, cond_false]
  refine loopC_spec (L71_4 k _ _) (fun y => ∃ j : Nat, y = (d, d, (d.length : Int), (j : Int)) ∧ j ≤ d.length) (fun _ => some true) (fun y => (d.length - y.2.2.2).toNat) ?_ k _ ⟨0, rfl, by omega⟩ (hk.lt (by simp; omega))
  rintro y next ⟨j, rfl, hj⟩ hn
  simp only at hn
  unfold L71_4
  simp only
  by_cases hlt : j < d.length
  · have d1 : decide ((j : Int) < (d.length : Int)) = true := by simp; omega
    have d2 : decide ((0 : Int) ≤ (j : Int)) = true := by simp
    have hw : IntKind.wrap .i64 ((j : Int) + 1) = ((j + 1 : Nat) : Int) := by rw [w64 (by omega) (by omega)]; omega
    simp only [d1, d2, cond_true, Bool.and_self, bne_self_eq_false, cond_false, hw]
    exact hn _ ⟨j + 1, rfl, by omega⟩ (by simp only; omega)
  · have : j = d.length := by omega
    subst this
    have d1 : decide ((d.length : Int) < (d.length : Int)) = false := by simp
    simp only [d1, cond_false]
theorem same27 {k : Nat} (hk : Big k) (r : RsT) (hd : r.2.2.2.2.2.2.length ≤ 1000000000) : f131 k (r, r) = some true := by
  obtain ⟨ch, num, den, adj, pos, frac, rest⟩ := r
  unfold f131
  simp [same_loop hk rest hd]
theorem same38 {k : Nat} (hk : Big k) (b : BkT) (hd : b.2.length ≤ 1000000000) : f17 k (b, b) = some true := by
  obtain ⟨ch, d⟩ := b
  unfold f17
  simp [same_loop hk d hd]
end Go.Proofs.YtbfkfobfhjgphaaGreat.Sp

/- What the makers of inputs give: numbers, waves, ratios, resamplers. -/
set_option linter.unusedVariables false
set_option linter.unusedSimpArgs false
namespace Go.Proofs.YtbfkfobfhjgphaaGreat.Sp
open Go Go.Pev Go.Snd Go.Proofs.YtbfkfobfhjgphaaGreat.Fn

/-! ### dice -/
def D8 (l : List Int) : Prop := l.length ≤ 300 ∧ ∀ x ∈ l, 0 ≤ x ∧ x ≤ 255
theorem D8_of {l : List Int} (h : ∀ x ∈ l, (Lit.int .u8 x).wf = true) : ∀ x ∈ l, 0 ≤ x ∧ x ≤ 255 := by
  intro x hx
  have := h x hx
  simp only [Lit.wf, Bool.and_eq_true, decide_eq_true_eq] at this
  have e1 : IntKind.min .u8 = 0 := by decide
  have e2 : IntKind.max .u8 = 255 := by decide
  rw [e1, e2] at this
  exact this
theorem s22 (k : Nat) {l : List Int} (h : ∀ x ∈ l, 0 ≤ x ∧ x ≤ 255) : ∃ l', f12 k l = some l' ∧ D8 l' := by
  refine ⟨l.take 300, ?_, by simp; omega, fun x hx => h x (List.mem_of_mem_take hx)⟩
  unfold f12
  have e : (if (300 : Int) < (l.length : Int) then (300 : Int) else (l.length : Int)) = ((min 300 l.length : Nat) : Int) := by split <;> omega
  have d1 : decide ((0 : Int) ≤ ((min 300 l.length : Nat) : Int)) = true := by simp only [decide_eq_true_eq]; omega
  have d2 : decide (((min 300 l.length : Nat) : Int) ≤ (l.length : Int)) = true := by simp only [decide_eq_true_eq]; omega
  simp only [e, d1, d2, Int.le_refl, decide_true, Bool.and_self, cond_true, Int.toNat_natCast, Int.toNat_zero, List.drop_zero]
  rcases Nat.lt_or_ge 300 l.length with hh | hh
  · rw [show min 300 l.length = 300 by omega]
  · rw [show min 300 l.length = l.length by omega, List.take_of_length_le (Nat.le_refl _), List.take_of_length_le hh]
theorem s51 (k : Nat) {l : List Int} (h : D8 l) (n : Int) : ∃ r l', f13 k (l, n) = some (r, l') ∧ D8 l' ∧ 0 ≤ r ∧ (1 ≤ n → r < n) ∧ (l = [] → r = 0) := by
  unfold f13
  cases l with
  | nil => exact ⟨0, [], by simp, h, by omega, by omega, fun _ => rfl⟩
  | cons a l =>
    have h0 : ((((a :: l).length : Int)) == (0 : Int)) = false := by simp; omega
    simp only [h0, cond_false]
    by_cases hn : n ≤ 1
    · exact ⟨0, a :: l, by simp [hn], h, by omega, by omega, fun _ => rfl⟩
    · obtain ⟨a1, a2⟩ := h.2 a (by simp)
      have hl := h.1
      have e1 : IntKind.wrap .i64 a = a := w64 (by omega) (by omega)
      have hn0 : (n == 0) = false := by simp; omega
      have d1 : decide ((1 : Int) ≤ ((a :: l).length : Int)) = true := by simp only [decide_eq_true_eq, List.length_cons]; omega
      have d2 : decide ((0 : Int) < ((a :: l).length : Int)) = true := by simp only [decide_eq_true_eq, List.length_cons]; omega
      have e2 : (a :: l).getD (Int.toNat 0) 0 = a := rfl
      have e3 : ((a :: l).take ((a :: l).length : Int).toNat).drop (Int.toNat 1) = l := by
        rw [Int.toNat_natCast, List.take_length]; rfl
      refine ⟨a % n, l, ?_, ⟨by simp at hl; omega, fun x hx => h.2 x (by simp [hx])⟩, Int.emod_nonneg _ (by omega), fun _ => Int.emod_lt_of_pos _ (by omega), fun hh => by cases hh⟩
      simp only [hn, decide_false, cond_false, d1, d2, Int.le_refl, decide_true, Bool.and_self, cond_true, hn0, e2, e1, e3, tmod_pos a1, (show decide ((0 : Int) ≤ 1) = true from rfl)]

/-! ### waves -/
theorem wave_isS (X : Int) : isS (IntKind.wrap .i32 (IntKind.wrap .i64 ((IntKind.wrap .i64 ((Int.tmod X 4001) - (2000 : Int))) * (1000 : Int)))) := by
  have h1 : Int.tmod X 4001 < 4001 := Int.tmod_lt_of_pos X (by omega)
  have h2 : -4001 < Int.tmod X 4001 := by
    have := Int.tmod_lt_of_pos (-X) (show (0 : Int) < 4001 by omega)
    rw [Int.neg_tmod] at this
    omega
  generalize Int.tmod X 4001 = t at *
  rw [w64 (x := t - 2000) (by omega) (by omega), w64 (by omega) (by omega), w32 (by omega) (by omega)]
  exact ⟨by omega, by omega⟩
def waveV (seed i c : Int) : Int := IntKind.wrap .i32 (IntKind.wrap .i64 ((IntKind.wrap .i64 ((Int.tmod (IntKind.wrap .i64 ((IntKind.wrap .i64 ((IntKind.wrap .i64 (i * (7919 : Int))) + (IntKind.wrap .i64 (c * (104729 : Int))))) + (IntKind.wrap .i64 (seed * (15485863 : Int))))) (4001 : Int)) - (2000 : Int))) * (1000 : Int)))
def waveF (seed : Int) (ch i : Nat) : List Int := (List.range ch).map fun c : Nat => waveV seed i c
def waveL (seed : Int) (ch n : Nat) : List Int := (List.range n).flatMap (waveF seed ch)
theorem waveL_len (seed : Int) (ch : Nat) : ∀ n, (waveL seed ch n).length = n * ch
  | 0 => by simp [waveL]
  | n + 1 => by
    have := waveL_len seed ch n
    unfold waveL at *
    rw [List.range_succ, List.flatMap_append, List.length_append, this, Nat.add_mul]
    simp [waveF]
theorem waveL_isS (seed : Int) (ch n : Nat) : ∀ x ∈ waveL seed ch n, isS x := by
  intro x hx
  obtain ⟨i, _, hi⟩ := List.mem_flatMap.1 hx
  obtain ⟨c, _, rfl⟩ := List.mem_map.1 hi
  exact wave_isS _
theorem s24 {k : Nat} (hk : Big k) (seed ch n : Int) (hc : ch ≤ 100) (h0 : 0 ≤ n) (hn : n ≤ 1000000) : f55 k (seed, ch, 0, n) = some (ch, waveL seed ch.toNat n.toNat) := by
  have inner : ∀ {R : Type} (K0 : (Int × Int × Int × Int × Int × Int × Int × List Int) → Option R) (i : Nat) (z c' : Int) (data : List Int), data.length ≤ 100000000000 →
      loopC k (L55_6 k K0) (seed, ch, 0, n, (i : Int), 0, z, c', data) = K0 (seed, ch, 0, n, (i : Int), z, c', data ++ waveF seed ch.toNat i) := by
    intro R K0 i z c' data hlen
    refine (loopC_spec (L55_6 k K0) (fun y => ∃ c : Nat, ∃ e : List Int, y = (seed, ch, 0, n, (i : Int), (c : Int), z, c', e) ∧ c ≤ ch.toNat ∧ e.length ≤ 100000000000 + c)
      (fun y => K0 (seed, ch, 0, n, (i : Int), z, c', y.2.2.2.2.2.2.2.2 ++ (List.range' y.2.2.2.2.2.1.toNat (ch.toNat - y.2.2.2.2.2.1.toNat)).map fun c : Nat => waveV seed i c)) (fun y => (ch - y.2.2.2.2.2.1).toNat) ?_ k _ ⟨0, data, rfl, Nat.zero_le _, by omega⟩ (hk.lt (by simp; omega))).trans (by simp [waveF, List.range_eq_range'])
    rintro y next ⟨c, e, rfl, hc', hel⟩ hnext
    simp only at hnext
    have ec : ((c : Int)).toNat = c := by omega
    unfold L55_6
    simp only [ec]
    by_cases hlt : (c : Int) < ch
    · have hw : IntKind.wrap .i64 ((c : Int) + 1) = ((c + 1 : Nat) : Int) := by rw [w64 (by omega) (by omega)]; omega
      simp only [hlt, decide_true, cond_true, hw]
      rw [maxB (by simp; omega), cond_true, hnext _ ⟨c + 1, _, rfl, by omega, by simp; omega⟩ (by simp only; omega)]
      have ec' : (((c + 1 : Nat) : Int)).toNat = c + 1 := by omega
      simp only [ec']
      rw [show ch.toNat - c = (ch.toNat - (c + 1)) + 1 by omega, List.range'_succ, List.map_cons, List.append_assoc]
      rfl
    · simp only [hlt, decide_false, cond_false]
      rw [show ch.toNat - c = 0 by omega]
      simp
  unfold f55
  refine (loopC_spec (L55_3 k (fun z3 => some z3.2)) (fun y => ∃ i : Nat, ∃ e : List Int, y = (seed, ch, 0, n, (i : Int), 0, ch, e) ∧ i ≤ n.toNat ∧ e.length = i * ch.toNat)
    (fun y => some (ch, y.2.2.2.2.2.2.2 ++ (List.range' y.2.2.2.2.1.toNat (n.toNat - y.2.2.2.2.1.toNat)).flatMap (waveF seed ch.toNat))) (fun y => (n - y.2.2.2.2.1).toNat) ?_ k _ ⟨0, [], rfl, Nat.zero_le _, by simp⟩ (hk.lt (by simp; omega))).trans (by simp [waveL, List.range_eq_range'])
  rintro y next ⟨i, e, rfl, hi, hel⟩ hnext
  simp only at hnext
  have ei : ((i : Int)).toNat = i := by omega
  have hw : IntKind.wrap .i64 (0 + n) = n := by rw [Int.zero_add]; exact w64 (by omega) (by omega)
  unfold L55_3
  simp only [ei, hw]
  by_cases hlt : (i : Int) < n
  · have hw' : IntKind.wrap .i64 ((i : Int) + 1) = ((i + 1 : Nat) : Int) := by rw [w64 (by omega) (by omega)]; omega
    have hb : i * ch.toNat ≤ 1000000 * 100 := Nat.mul_le_mul (by omega) (by omega)
    simp only [hlt, decide_true, cond_true]
    rw [inner _ i 0 ch e (by omega)]
    simp only [hw']
    rw [hnext _ ⟨i + 1, _, rfl, by omega, by rw [List.length_append, hel]; simp [waveF, Nat.add_mul]⟩ (by simp only; omega)]
    have ei' : (((i + 1 : Nat) : Int)).toNat = i + 1 := by omega
    simp only [ei']
    rw [show n.toNat - i = (n.toNat - (i + 1)) + 1 by omega, List.range'_succ, List.flatMap_cons, List.append_assoc]
  · simp only [hlt, decide_false, cond_false]
    rw [show n.toNat - i = 0 by omega]
    simp
theorem wave_ok (seed : Int) {ch n : Int} (h1 : 1 ≤ ch) (h2 : ch ≤ 8) (h0 : 0 ≤ n) (hn : n ≤ 65536) : BkOK ch (waveL seed ch.toNat n.toNat) ∧ frames ch (waveL seed ch.toNat n.toNat) = n := by
  have hl := waveL_len seed ch.toNat n.toNat
  have hl' : ((waveL seed ch.toNat n.toNat).length : Int) = n * ch := by
    rw [hl, Int.natCast_mul]
    congr 1 <;> omega
  have hf : frames ch (waveL seed ch.toNat n.toNat) = n := by
    unfold frames
    rw [hl', Int.mul_ediv_cancel _ (by omega)]
  refine ⟨⟨h1, h2, ?_, ?_, waveL_isS _ _ _⟩, hf⟩
  · rw [hl', Int.mul_emod_left]
  · show frames ch _ ≤ _
    omega

/-! ### ratios of two rates -/
theorem s101 {k : Nat} (hk : Big k) {a b : Int} (ha : 1 ≤ a) (ha' : a ≤ 768000) (hb : 1 ≤ b) (hb' : b ≤ 768000) :
    f79 k (a, b) = some ((a / (Int.gcd a b : Int), b / (Int.gcd a b : Int)), 0) := by
  unfold f79
  have hg : 0 < Int.gcd a b := by
    rw [Int.gcd_pos_iff]; left; omega
  have g0 : ((Int.gcd a b : Int) == 0) = false := by simp only [beq_eq_false_iff_ne]; omega
  have e1 : ¬ a < 1 := by omega
  have e2 : ¬ b < 1 := by omega
  have q1 := Int.ediv_nonneg (show 0 ≤ a by omega) (show (0 : Int) ≤ (Int.gcd a b : Int) by omega)
  have q2 := Int.ediv_le_self (Int.gcd a b : Int) (show 0 ≤ a by omega)
  have q3 := Int.ediv_nonneg (show 0 ≤ b by omega) (show (0 : Int) ≤ (Int.gcd a b : Int) by omega)
  have q4 := Int.ediv_le_self (Int.gcd a b : Int) (show 0 ≤ b by omega)
  simp only [e1, e2, decide_false, cond_false, s148 hk a b (by omega) (by omega) (by omega), Option.bind_some, g0, tdiv_pos (show 0 ≤ a by omega), tdiv_pos (show 0 ≤ b by omega), w64 (show -9223372036854775808 ≤ a / (Int.gcd a b : Int) by omega) (by omega), w64 (show -9223372036854775808 ≤ b / (Int.gcd a b : Int) by omega) (by omega), gt_iff_lt]
  have e3 : ¬ 68719476736 < a / (Int.gcd a b : Int) := by omega
  have e4 : ¬ 68719476736 < b / (Int.gcd a b : Int) := by omega
  simp only [e3, e4, decide_false, cond_false]
/-- what a made ratio is -/
structure BaseOK (num den : Int) : Prop where
  n1 : 1 ≤ num
  n2 : num ≤ 768000
  d1 : 1 ≤ den
  d2 : den ≤ 768000
  g : Int.gcd num den = 1
  r1 : den ≤ 768 * num
  r2 : num ≤ 768 * den
theorem base_ok {a b : Int} (ha : 1000 ≤ a) (ha' : a ≤ 768000) (hb : 1000 ≤ b) (hb' : b ≤ 768000) : BaseOK (a / (Int.gcd a b : Int)) (b / (Int.gcd a b : Int)) := by
  obtain ⟨m, rfl⟩ : ∃ m : Nat, a = m := ⟨a.toNat, by omega⟩
  obtain ⟨n, rfl⟩ : ∃ n : Nat, b = n := ⟨b.toNat, by omega⟩
  rw [Int.gcd_natCast_natCast, ← Int.natCast_ediv, ← Int.natCast_ediv]
  have hg : 0 < Nat.gcd m n := Nat.gcd_pos_of_pos_left _ (by omega)
  obtain ⟨x, hx⟩ := Nat.gcd_dvd_left m n
  obtain ⟨y, hy⟩ := Nat.gcd_dvd_right m n
  have e1 : m / Nat.gcd m n = x := by
    conv => lhs; arg 1; rw [hx]
    exact Nat.mul_div_cancel_left _ hg
  have e2 : n / Nat.gcd m n = y := by
    conv => lhs; arg 1; rw [hy]
    exact Nat.mul_div_cancel_left _ hg
  have hc : Nat.gcd (m / Nat.gcd m n) (n / Nat.gcd m n) = 1 := Nat.gcd_div_gcd_div_gcd_of_pos_left (by omega)
  rw [e1, e2] at hc ⊢
  have x0 : 1 ≤ x := by
    rcases Nat.eq_zero_or_pos x with h | h
    · subst h; omega
    · exact h
  have y0 : 1 ≤ y := by
    rcases Nat.eq_zero_or_pos y with h | h
    · subst h; omega
    · exact h
  have x1 : x ≤ m := by rw [hx]; exact Nat.le_mul_of_pos_left _ hg
  have y1 : y ≤ n := by rw [hy]; exact Nat.le_mul_of_pos_left _ hg
  have r1 : y ≤ 768 * x := by
    have : Nat.gcd m n * y ≤ Nat.gcd m n * (768 * x) := by
      calc Nat.gcd m n * y = n := hy.symm
        _ ≤ 768 * m := by omega
        _ = Nat.gcd m n * (768 * x) := by conv => lhs; rw [hx]
                                          ac_rfl
    exact Nat.le_of_mul_le_mul_left this hg
  have r2 : x ≤ 768 * y := by
    have : Nat.gcd m n * x ≤ Nat.gcd m n * (768 * y) := by
      calc Nat.gcd m n * x = m := hx.symm
        _ ≤ 768 * n := by omega
        _ = Nat.gcd m n * (768 * y) := by conv => lhs; rw [hy]
                                          ac_rfl
    exact Nat.le_of_mul_le_mul_left this hg
  exact ⟨by omega, by omega, by omega, by omega, by simpa using hc, by omega, by omega⟩
theorem rates_ok {i : Int} (h0 : 0 ≤ i) (h1 : i < 10) : 1000 ≤ ([(48000 : Int), (48000 : Int), (44100 : Int), (96000 : Int), (8000 : Int), (32000 : Int), (192000 : Int), (1000 : Int), (768000 : Int), (47999 : Int)]).getD i.toNat 0 ∧ ([(48000 : Int), (48000 : Int), (44100 : Int), (96000 : Int), (8000 : Int), (32000 : Int), (192000 : Int), (1000 : Int), (768000 : Int), (47999 : Int)]).getD i.toNat 0 ≤ 768000 := by
  obtain ⟨n, rfl⟩ : ∃ n : Nat, i = n := ⟨i.toNat, by omega⟩
  rw [Int.toNat_natCast]
  match n, h1 with
  | 0, _ | 1, _ | 2, _ | 3, _ | 4, _ | 5, _ | 6, _ | 7, _ | 8, _ | 9, _ => simp
  | n + 10, h => omega
theorem s48 {k : Nat} (hk : Big k) {l : List Int} (h : D8 l) : ∃ num den l', f66 k l = some ((num, den), l') ∧ D8 l' ∧ BaseOK num den := by
  obtain ⟨r1, l1, e1, h1, a1, b1, _⟩ := s51 k h 10
  obtain ⟨r2, l2, e2, h2, a2, b2, _⟩ := s51 k h1 10
  obtain ⟨c1, c2⟩ := rates_ok a1 (b1 (by omega))
  obtain ⟨c3, c4⟩ := rates_ok a2 (b2 (by omega))
  refine ⟨_, _, l2, ?_, h2, base_ok c1 c2 c3 c4⟩
  unfold f66
  have d1 : decide (r1 < (([(48000 : Int), (48000 : Int), (44100 : Int), (96000 : Int), (8000 : Int), (32000 : Int), (192000 : Int), (1000 : Int), (768000 : Int), (47999 : Int)]).length : Int)) = true := by simp; have := b1 (by omega); omega
  have d2 : decide (r2 < (([(48000 : Int), (48000 : Int), (44100 : Int), (96000 : Int), (8000 : Int), (32000 : Int), (192000 : Int), (1000 : Int), (768000 : Int), (47999 : Int)]).length : Int)) = true := by simp; have := b2 (by omega); omega
  simp only [e1, e2, Option.bind_some, d1, d2, a1, a2, decide_true, Bool.and_self, cond_true]
  rw [s101 hk (by omega) c2 (by omega) c4, Option.bind_some]
end Go.Proofs.YtbfkfobfhjgphaaGreat.Sp

/- Resamplers: what stays valid, and the resamplers that are made. -/
set_option linter.unusedVariables false
set_option linter.unusedSimpArgs false
namespace Go.Proofs.YtbfkfobfhjgphaaGreat.Sp
open Go Go.Pev Go.Snd Go.Proofs.YtbfkfobfhjgphaaGreat.Fn

theorem frames_mul {ch : Int} (hc : 1 ≤ ch) {d : List Int} {w : Int} (h : (d.length : Int) = w * ch) : frames ch d = w := by
  unfold frames
  rw [h, Int.mul_ediv_cancel _ (by omega)]
theorem BkOK.mk' {ch : Int} (c1 : 1 ≤ ch) (c2 : ch ≤ 8) {d : List Int} {w : Int} (h : (d.length : Int) = w * ch) (hw : w ≤ 65536) (hs : ∀ x ∈ d, isS x) : BkOK ch d ∧ frames ch d = w := by
  have hf := frames_mul c1 h
  refine ⟨⟨c1, c2, by rw [h, Int.mul_emod_left], ?_, hs⟩, hf⟩
  show frames ch d ≤ _
  omega
theorem lenN {ch : Int} {d : List Int} (h : BkOK ch d) : d.length = (frames ch d).toNat * ch.toNat := by
  have h1 := h.len
  have h2 := frames_nonneg (d := d) h.c1
  have c1 := h.c1
  have : ((d.length : Nat) : Int) = (((frames ch d).toNat * ch.toNat : Nat) : Int) := by
    rw [h1, Int.natCast_mul]; congr 1 <;> omega
  omega
theorem drop_ok {ch : Int} {d : List Int} (h : BkOK ch d) (g : Nat) : BkOK ch (d.drop (g * ch.toNat)) ∧ frames ch (d.drop (g * ch.toNat)) = max 0 (frames ch d - g) := by
  have h1 := lenN h
  have h2 := frames_nonneg (d := d) h.c1
  have c1 := h.c1
  have hl : frames ch d ≤ 65536 := h.l
  have hs : ∀ x ∈ d.drop (g * ch.toNat), isS x := fun x hx => h.s x (List.mem_of_mem_drop hx)
  refine BkOK.mk' h.c1 h.c2 ?_ (by omega) hs
  rw [List.length_drop, h1]
  by_cases hg : (g : Int) ≤ frames ch d
  · have e : (frames ch d).toNat * ch.toNat - g * ch.toNat = ((frames ch d).toNat - g) * ch.toNat := by rw [Nat.sub_mul]
    rw [e, show max 0 (frames ch d - g) = frames ch d - g by omega, Int.natCast_mul]
    congr 1 <;> omega
  · have : (frames ch d).toNat * ch.toNat ≤ g * ch.toNat := Nat.mul_le_mul_right _ (by omega)
    rw [show max 0 (frames ch d - g) = 0 by omega, Nat.sub_eq_zero_of_le this]
    simp
theorem append_ok {ch : Int} {a b : List Int} (ha : BkOK ch a) (hb : BkOK ch b) (hl : frames ch a + frames ch b ≤ 65536) : BkOK ch (a ++ b) ∧ frames ch (a ++ b) = frames ch a + frames ch b := by
  refine BkOK.mk' ha.c1 ha.c2 ?_ hl fun x hx => ?_
  · rw [List.length_append, Int.natCast_add, ha.len, hb.len, Int.add_mul]
  · rcases List.mem_append.1 hx with hx | hx
    · exact ha.s x hx
    · exact hb.s x hx
theorem nil_ok {ch : Int} (c1 : 1 ≤ ch) (c2 : ch ≤ 8) : BkOK ch [] ∧ frames ch [] = 0 := BkOK.mk' c1 c2 (by simp) (by omega) (by simp)
theorem out_ok {ch num den adj pos frac : Int} {rest : List Int} (h : RsOK ch num den adj pos frac rest) {n : Int} (h0 : 0 ≤ n) (h1 : n ≤ 65536) : BkOK ch (outS ch num den adj frac rest n) ∧ frames ch (outS ch num den adj frac rest n) = n := by
  refine BkOK.mk' h.b.c1 h.b.c2 ?_ h1 (out_isS _ h.p.ok _ _ h.b.s _ _)
  unfold outS
  rw [out_length, Int.natCast_mul]
  have := h.b.c1
  congr 1 <;> omega

/-- what is produced, when the position stays in range -/
theorem prodS_ok {ch num den adj pos frac : Int} {rest : List Int} (h : RsOK ch num den adj pos frac rest) {n : Int} (h0 : 0 ≤ n) (h1 : n ≤ 65536) (hp : pos + (ph num den adj frac).gone n ≤ 1125899906842624) :
    prodS ch num den adj pos frac rest n = ((ch, outS ch num den adj frac rest n), (ch, num, den, adj, pos + (ph num den adj frac).gone n, (ph num den adj frac).A n % (den * 65536), rest.drop (goneS num den adj frac n * ch.toNat)), 0) ∧
    RsOK ch num den adj (pos + (ph num den adj frac).gone n) ((ph num den adj frac).A n % (den * 65536)) (rest.drop (goneS num den adj frac n * ch.toNat)) ∧
    frames ch (rest.drop (goneS num den adj frac n * ch.toNat)) = max 0 (frames ch rest - (ph num den adj frac).gone n) := by
  have hck : checkS (phOK num den adj pos frac) n = 0 := (checkS_zero _ _).2 ⟨(phOK_iff _ _ _ _ _).2 h.p, h0, h1⟩
  have hadv : (advS num den adj pos frac n).2 = 0 := by unfold advS; rw [if_pos hck, if_neg (by omega)]
  obtain ⟨g1, g2⟩ := gone_bd h.p h0 h1
  obtain ⟨d1, d2⟩ := drop_ok h.b (goneS num den adj frac n)
  have hPpos : 0 < den * 65536 := by have := h.p.d1; omega
  have hf0 := Int.emod_nonneg ((ph num den adj frac).A n) (Int.ne_of_gt hPpos)
  have hf1 := Int.emod_lt_of_pos ((ph num den adj frac).A n) hPpos
  refine ⟨by unfold prodS; rw [if_pos hadv], ⟨⟨h.p.n1, h.p.d1, h.p.n2, h.p.d2, h.p.g, h.p.a1, h.p.a2, ?_, hp, hf0, hf1⟩, d1⟩, ?_⟩
  · have := h.p.p0; omega
  · rw [d2]
    unfold goneS
    congr 2
    omega
theorem prodS_bad {ch num den adj pos frac : Int} {rest : List Int} (h : RsOK ch num den adj pos frac rest) {n : Int} (h0 : 0 ≤ n) (h1 : n ≤ 65536) (hp : ¬ pos + (ph num den adj frac).gone n ≤ 1125899906842624) :
    prodS ch num den adj pos frac rest n = (zeroB, zeroR, 2) := by
  have hck : checkS (phOK num den adj pos frac) n = 0 := (checkS_zero _ _).2 ⟨(phOK_iff _ _ _ _ _).2 h.p, h0, h1⟩
  have hadv : (advS num den adj pos frac n).2 = 2 := by unfold advS; rw [if_pos hck, if_pos (by omega)]
  unfold prodS
  rw [hadv]
  simp [zeroB, zeroR]
/-- the next resampler behind n frames -/
def nextR (ch num den adj pos frac : Int) (rest : List Int) (n : Int) : RsT :=
  (ch, num, den, adj, pos + (ph num den adj frac).gone n, (ph num den adj frac).A n % (den * 65536), rest.drop (goneS num den adj frac n * ch.toNat))
/-- taking what can be taken -/
theorem takeS_ok {ch num den adj pos frac : Int} {rest : List Int} (h : RsOK ch num den adj pos frac rest) (hpos : pos ≤ 562949953421312) {n : Int} (h0 : 0 ≤ n) (h1 : n ≤ (ph num den adj frac).make (frames ch rest)) :
    takeS ch num den adj pos frac rest n = ((ch, outS ch num den adj frac rest n), nextR ch num den adj pos frac rest n, 0) ∧
    RsOK ch num den adj (pos + (ph num den adj frac).gone n) ((ph num den adj frac).A n % (den * 65536)) (rest.drop (goneS num den adj frac n * ch.toNat)) ∧
    frames ch (rest.drop (goneS num den adj frac n * ch.toNat)) = frames ch rest - (ph num den adj frac).gone n ∧ 0 ≤ (ph num den adj frac).gone n ∧ (ph num den adj frac).gone n ≤ frames ch rest := by
  have hm := (ph num den adj frac).make_le (frames ch rest)
  have w0 := frames_nonneg (d := rest) h.b.c1
  have w1 : frames ch rest ≤ 65536 := h.b.l
  have hneed := (ph num den adj frac).need_of_le_make h.p.ok w0 h0 h1
  have hg := (ph num den adj frac).gone_le_need h.p.ok h0
  have hg0 := (ph num den adj frac).gone_nonneg h.p.ok h0
  obtain ⟨e1, e2, e3⟩ := prodS_ok h h0 (by omega) (by omega)
  have hck : checkS (rsOK ch num den adj pos frac rest) n = 0 := (checkS_zero _ _).2 ⟨(rsOK_iff _ _ _ _ _ _ _).2 h, h0, by omega⟩
  refine ⟨?_, e2, by rw [e3]; omega, hg0, by omega⟩
  unfold takeS
  rw [if_pos hck, if_neg (by omega), e1]
  rfl
/-- converting a block -/
theorem convS_ok {ch num den adj pos frac : Int} {rest : List Int} (h : RsOK ch num den adj pos frac rest) (hpos : pos ≤ 562949953421312) {d : List Int} (hd : BkOK ch d) (hl : frames ch rest + frames ch d ≤ 65536) :
    convS ch num den adj pos frac rest ch d = takeS ch num den adj pos frac (rest ++ d) ((ph num den adj frac).make (frames ch rest + frames ch d)) ∧ RsOK ch num den adj pos frac (rest ++ d) ∧ frames ch (rest ++ d) = frames ch rest + frames ch d := by
  obtain ⟨a1, a2⟩ := append_ok h.b hd hl
  have hfeed : feedS ch num den adj pos frac rest ch d = ((ch, num, den, adj, pos, frac, rest ++ d), 0) := by
    unfold feedS
    rw [if_pos ⟨(rsOK_iff _ _ _ _ _ _ _).2 h, (bkOK_iff _ _).2 hd⟩, if_pos rfl, if_neg]
    have : ((rest.length : Int) + d.length) / ch = frames ch (rest ++ d) := by unfold frames; rw [List.length_append, Int.natCast_add]
    omega
  refine ⟨?_, ⟨h.p, a1⟩, a2⟩
  unfold convS
  rw [hfeed, if_pos rfl, a2]

/-! ### the resamplers that are made -/
theorem newS_ok {ch num den : Int} (c1 : 1 ≤ ch) (c2 : ch ≤ 8) (h : BaseOK num den) : newS ch num den = ((ch, num, den, 0, 0, 0, []), 0) ∧ RsOK ch num den 0 0 0 [] := by
  have hd1 := h.d1
  have : RsOK ch num den 0 0 0 [] := ⟨⟨h.n1, h.d1, h.n2, h.d2, h.g, by omega, by omega, by omega, by omega, by omega, by omega⟩, (nil_ok c1 c2).1⟩
  exact ⟨by unfold newS; rw [if_pos ((rsOK_iff _ _ _ _ _ _ _).2 this)], this⟩
theorem rs_adj {ch num den adj pos frac : Int} {rest : List Int} (h : RsOK ch num den adj pos frac rest) {a : Int} (a1 : -4096 ≤ a) (a2 : a ≤ 4096) : RsOK ch num den a pos frac rest :=
  ⟨⟨h.p.n1, h.p.d1, h.p.n2, h.p.d2, h.p.g, a1, a2, h.p.p0, h.p.p1, h.p.f0, h.p.f1⟩, h.b⟩
theorem loop_ex {S R : Type} (f : S → (S → Option R) → Option R) (Inv : S → Prop) (Q : Option R → Prop) (μ : S → Nat)
    (h : ∀ s next, Inv s → (∀ s', Inv s' → μ s' < μ s → Q (next s')) → Q (f s next)) : ∀ n s, Inv s → μ s < n → Q (loopC n f s)
  | 0, s, _, hμ => absurd hμ (Nat.not_lt_zero _)
  | n + 1, s, hs, hμ => h s (loopC n f) hs fun s' hs' hμ' => loop_ex f Inv Q μ h n s' hs' (by omega)
end Go.Proofs.YtbfkfobfhjgphaaGreat.Sp

/- Blocks in pieces: cutting, joining, converting one after the other. -/
set_option linter.unusedVariables false
set_option linter.unusedSimpArgs false
namespace Go.Proofs.YtbfkfobfhjgphaaGreat.Sp
open Go Go.Pev Go.Snd Go.Proofs.YtbfkfobfhjgphaaGreat.Fn

theorem maxB32 {n : Nat} (h : n ≤ 1000000000000) : (decide (n * 32 ≤ maxBytes) && decide (n ≤ 9223372036854775807)) = true := by
  unfold maxBytes
  simp only [Bool.and_eq_true, decide_eq_true_eq]
  omega
theorem s42 (k : Nat) (c1 c2 : Int) (a b : List Int) (ha : a.length ≤ 100000000000) (hb : b.length ≤ 100000000000) : f36 k ((c1, a), (c2, b)) = some (c1, a ++ b) := by
  unfold f36
  simp only [maxB (show a.length ≤ 1000000000000 by omega), maxB (show a.length + b.length ≤ 1000000000000 by omega), cond_true]
theorem s47' {k : Nat} (hk : Big k) {ch : Int} {d : List Int} (h : BkOK ch d) : f42 k (ch, d) = some (frames ch d) := by
  have hl := h.len_le
  unfold f42
  rw [s83 hk _ _ (by omega), (bkOK_iff _ _).2 h, Option.bind_some]
  simp only [Bool.not_true, cond_false, ch_ne h.c1, w_frames h]
theorem take_ok {ch : Int} {d : List Int} (h : BkOK ch d) {b : Nat} (hb : (b : Int) ≤ frames ch d) : BkOK ch (d.take (b * ch.toNat)) ∧ frames ch (d.take (b * ch.toNat)) = b := by
  have hn := lenN h
  have c1 := h.c1
  have m2 : b * ch.toNat ≤ (frames ch d).toNat * ch.toNat := Nat.mul_le_mul_right _ (by omega)
  have hl : frames ch d ≤ 65536 := h.l
  refine BkOK.mk' h.c1 h.c2 ?_ (by omega) fun x hx => h.s x (List.mem_of_mem_take hx)
  rw [List.length_take, hn, Nat.min_eq_left m2, Int.natCast_mul]
  congr 1
  omega

/-- A block that is converted behind n frames that have been taken. -/
theorem conv_more {ch num den adj pos frac : Int} {A x : List Int} (hA : RsOK ch num den adj pos frac A) (hx : BkOK ch x) (hpos : pos ≤ 281474976710656) {n : Int} (h0 : 0 ≤ n) (h1 : n ≤ 65536) (hn : (ph num den adj frac).need n ≤ frames ch A) (hl : frames ch A + frames ch x ≤ 65536) (hmk : (ph num den adj frac).make (frames ch A + frames ch x) < 65536) :
    ∃ O, convS ch num den adj (pos + (ph num den adj frac).gone n) ((ph num den adj frac).A n % (den * 65536)) (A.drop (goneS num den adj frac n * ch.toNat)) ch x = ((ch, O), nextR ch num den adj pos frac (A ++ x) ((ph num den adj frac).make (frames ch A + frames ch x)), 0) ∧
      outS ch num den adj frac A n ++ O = outS ch num den adj frac (A ++ x) ((ph num den adj frac).make (frames ch A + frames ch x)) ∧ n ≤ (ph num den adj frac).make (frames ch A + frames ch x) := by
  have hok := hA.p.ok
  have w0 := frames_nonneg (d := A) hA.b.c1
  have x0 := frames_nonneg (d := x) hA.b.c1
  have c1 := hA.b.c1
  have hnm : n ≤ (ph num den adj frac).make (frames ch A) := (ph num den adj frac).le_make hok h1 hn
  obtain ⟨t1, t2, t3, t4, t5⟩ := takeS_ok hA (by omega) h0 hnm
  obtain ⟨u1, u2, u3⟩ := convS_ok t2 (by omega) hx (by omega)
  have hadv : ph num den adj ((ph num den adj frac).A n % (den * 65536)) = (ph num den adj frac).adv n := rfl
  have hmake : (ph num den adj ((ph num den adj frac).A n % (den * 65536))).make (frames ch (A.drop (goneS num den adj frac n * ch.toNat)) + frames ch x) = (ph num den adj frac).make (frames ch A + frames ch x) - n := by
    rw [hadv, t3, show frames ch A - (ph num den adj frac).gone n + frames ch x = (frames ch A + frames ch x) - (ph num den adj frac).gone n by omega]
    exact (ph num den adj frac).make_adv hok w0 h0 hn (by omega) hmk
  have hnle : n ≤ (ph num den adj frac).make (frames ch A + frames ch x) := by
    have := (ph num den adj ((ph num den adj frac).A n % (den * 65536))).make_nonneg (frames ch (A.drop (goneS num den adj frac n * ch.toNat)) + frames ch x)
    omega
  have hneed := (ph num den adj frac).need_make (w := frames ch A + frames ch x) (by omega)
  have htk := takeS_ok u2 (by omega) (n := (ph num den adj frac).make (frames ch A + frames ch x) - n) (by omega) (by rw [u3, hmake]; omega)
  generalize (ph num den adj frac).make (frames ch A + frames ch x) = m at *
  obtain ⟨v1, v2, v3, v4, v5⟩ := htk
  have hgm : (ph num den adj frac).gone m = ((ph num den adj frac).adv n).gone (m - n) + (ph num den adj frac).gone n := by
    have := (ph num den adj frac).gone_adv hok n (m - n)
    rwa [show n + (m - n) = m by omega] at this
  have hfm : (ph num den adj frac).A m % (den * 65536) = ((ph num den adj frac).adv n).A (m - n) % (den * 65536) := by
    have := (ph num den adj frac).frac_adv hok n (m - n)
    rwa [show n + (m - n) = m by omega] at this
  have g'0 := ((ph num den adj frac).adv n).gone_nonneg ((ph num den adj frac).adv_ok hok n) (show 0 ≤ m - n by omega)
  have hlA := lenN hA.b
  have hgoneN : goneS num den adj frac n ≤ (frames ch A).toNat := by unfold goneS; omega
  have hGS : goneS num den adj frac m = goneS num den adj frac n + goneS num den adj ((ph num den adj frac).A n % (den * 65536)) (m - n) := by
    unfold goneS
    rw [hadv, hgm]
    omega
  have hnext : nextR ch num den adj (pos + (ph num den adj frac).gone n) ((ph num den adj frac).A n % (den * 65536)) (A.drop (goneS num den adj frac n * ch.toNat) ++ x) (m - n) = nextR ch num den adj pos frac (A ++ x) m := by
    unfold nextR
    rw [hGS, hadv, hgm, hfm, show pos + (ph num den adj frac).gone n + ((ph num den adj frac).adv n).gone (m - n) = pos + (((ph num den adj frac).adv n).gone (m - n) + (ph num den adj frac).gone n) by omega]
    have hd : (A.drop (goneS num den adj frac n * ch.toNat) ++ x).drop (goneS num den adj ((ph num den adj frac).A n % (den * 65536)) (m - n) * ch.toNat) = (A ++ x).drop ((goneS num den adj frac n + goneS num den adj ((ph num den adj frac).A n % (den * 65536)) (m - n)) * ch.toNat) := by
      have e0 : (A ++ x).drop (goneS num den adj frac n * ch.toNat) = A.drop (goneS num den adj frac n * ch.toNat) ++ x := List.drop_append_of_le_length (by rw [hlA]; exact Nat.mul_le_mul_right _ hgoneN)
      rw [← e0, List.drop_drop, Nat.add_mul]
    rw [hd]
  refine ⟨outS ch num den adj ((ph num den adj frac).A n % (den * 65536)) (A.drop (goneS num den adj frac n * ch.toNat) ++ x) (m - n), by rw [u1, hmake, v1, hnext], ?_, hnle⟩
  have hlx := lenN hx
  obtain ⟨a1, a2⟩ := append_ok hA.b hx hl
  obtain ⟨nN, rfl⟩ : ∃ nN : Nat, n = nN := ⟨n.toNat, by omega⟩
  obtain ⟨mN, hmN⟩ : ∃ mN : Nat, m - nN = mN := ⟨(m - nN).toNat, by omega⟩
  have hm : m = ((nN + mN : Nat) : Int) := by omega
  have hop := out_pieces (ph num den adj frac) hok ch.toNat A x (frames ch A).toNat (frames ch x).toNat nN mN hlA hlx (by omega) (by rw [← hm]; omega)
  unfold outS
  rw [hmN, u3, t3, a2, hm, Int.toNat_natCast, Int.toNat_natCast, Int.toNat_natCast, show (frames ch A + frames ch x).toNat = (frames ch A).toNat + (frames ch x).toNat by omega, hop]
  congr 1
  rw [hadv]
  congr 1
  omega
end Go.Proofs.YtbfkfobfhjgphaaGreat.Sp

/- Small facts about what waits, what is taken, and silence. -/
set_option linter.unusedVariables false
set_option linter.unusedSimpArgs false
namespace Go.Proofs.YtbfkfobfhjgphaaGreat.Sp
open Go Go.Pev Go.Snd Go.Proofs.YtbfkfobfhjgphaaGreat.Fn

theorem waiting_eq' {ch num den adj pos frac : Int} {rest : List Int} (h : RsOK ch num den adj pos frac rest) : waiting ch num den adj pos frac rest = frames ch rest := by
  unfold waiting; rw [if_pos ((rsOK_iff _ _ _ _ _ _ _).2 h)]
theorem takeS_ch {ch num den adj pos frac : Int} {rest : List Int} {n : Int} (h : (takeS ch num den adj pos frac rest n).2.2 = 0) : (takeS ch num den adj pos frac rest n).1.1 = ch ∧ (takeS ch num den adj pos frac rest n).2.1.1 = ch := by
  unfold takeS at h ⊢
  split at h
  · rename_i h1
    rw [if_pos h1]
    split at h
    · simp at h
    · rename_i h2
      rw [if_neg h2]
      unfold prodS at h ⊢
      split at h
      · rename_i h3; rw [if_pos h3]; exact ⟨rfl, rfl⟩
      · rename_i h3; exact absurd h h3
  · rename_i h1; exact absurd h h1
theorem takeS_out_len (ch num den adj pos frac : Int) (rest : List Int) (n : Int) : (takeS ch num den adj pos frac rest n).1.2.length ≤ 1000000 := by
  unfold takeS
  split
  · rename_i h
    obtain ⟨h1, h2, h3, _⟩ := check_ph h
    split
    · simp [zeroB]
    · unfold prodS
      split
      · simp only [outS, out_length]
        have c2 := h1.b.c2
        have : n.toNat * ch.toNat ≤ 65536 * 8 := Nat.mul_le_mul (by omega) (by omega)
        omega
      · simp
  · simp [zeroB]
theorem s63 (k : Nat) {ch n : Int} (c1 : 1 ≤ ch) (c2 : ch ≤ 8) (h0 : 0 ≤ n) (h1 : n ≤ 65536) : f30 k (ch, n) = some ((ch, List.replicate (ch * n).toNat 0), 0) := by
  unfold f30
  obtain ⟨m1, m2⟩ := mul_bd (show 0 ≤ ch by omega) c2 h0 h1
  have e1 : ¬ ch < 1 := by omega
  have e2 : ¬ ch > 8 := by omega
  have e3 : ¬ n < 0 := by omega
  have e4 : ¬ n > 65536 := by omega
  have e5 : IntKind.wrap .i64 (ch * n) = ch * n := w64 (by omega) (by omega)
  have d1 : decide (0 ≤ ch * n) = true := by simp only [decide_eq_true_eq]; omega
  have d2 : decide (ch * n * ((4 : Nat) : Int) ≤ (maxBytes : Int)) = true := by unfold maxBytes; simp only [decide_eq_true_eq]; omega
  simp only [e1, e2, e3, e4, e5, d1, d2, decide_false, cond_false, Int.le_refl, decide_true, Bool.and_self, cond_true]
theorem s108 (k : Nat) {ch n : Int} (c1 : 1 ≤ ch) (c2 : ch ≤ 8) (h0 : 0 ≤ n) (h1 : n ≤ 65536) : f105 k (ch, n) = some ((ch, List.replicate (ch * n).toNat 0), 0) := s63 k c1 c2 h0 h1
end Go.Proofs.YtbfkfobfhjgphaaGreat.Sp

/- How long results are; the fuel. -/
set_option linter.unusedVariables false
set_option linter.unusedSimpArgs false
namespace Go.Proofs.YtbfkfobfhjgphaaGreat.Sp
open Go Go.Pev Go.Snd Go.Proofs.YtbfkfobfhjgphaaGreat.Fn

theorem getD_mem' {α : Type} {d : List α} {i : Nat} {e : α} (h : i < d.length) : d.getD i e ∈ d := by
  have : d.getD i e = d[i] := by simp [List.getD, h]
  rw [this]; exact List.getElem_mem h

theorem feedS_len (ch num den adj pos frac : Int) (rest : List Int) (bc : Int) (bd : List Int) : (feedS ch num den adj pos frac rest bc bd).1.2.2.2.2.2.2.length ≤ rest.length + bd.length := by
  unfold feedS
  split
  · split
    · split
      · simp [zeroR]
      · simp
    · simp [zeroR]
  · simp [zeroR]
theorem prodS_len (ch num den adj pos frac : Int) (rest : List Int) (n : Int) (hc : ch ≤ 8) (hn : n ≤ 65536) : (prodS ch num den adj pos frac rest n).1.2.length ≤ 1000000 ∧ (prodS ch num den adj pos frac rest n).2.1.2.2.2.2.2.2.length ≤ rest.length := by
  unfold prodS
  split
  · refine ⟨?_, by simp⟩
    simp only [outS, out_length]
    have : n.toNat * ch.toNat ≤ 65536 * 8 := Nat.mul_le_mul (by omega) (by omega)
    omega
  · simp
theorem takeS_len (ch num den adj pos frac : Int) (rest : List Int) (n : Int) : (takeS ch num den adj pos frac rest n).1.2.length ≤ 1000000 ∧ (takeS ch num den adj pos frac rest n).2.1.2.2.2.2.2.2.length ≤ rest.length := by
  unfold takeS
  split
  · rename_i h
    obtain ⟨h1, h2, h3, _⟩ := check_ph h
    split
    · simp [zeroB, zeroR]
    · exact prodS_len _ _ _ _ _ _ _ _ h1.b.c2 h3
  · simp [zeroB, zeroR]
theorem finS_len (ch num den adj pos frac : Int) (rest : List Int) (n : Int) : (finS ch num den adj pos frac rest n).1.2.length ≤ 1000000 ∧ (finS ch num den adj pos frac rest n).2.1.2.2.2.2.2.2.length ≤ rest.length := by
  unfold finS
  split
  · rename_i h
    obtain ⟨h1, h2, h3, _⟩ := check_ph h
    exact prodS_len _ _ _ _ _ _ _ _ h1.b.c2 (by omega)
  · simp [zeroB, zeroR]
theorem convS_len (ch num den adj pos frac : Int) (rest : List Int) (bc : Int) (bd : List Int) : (convS ch num den adj pos frac rest bc bd).1.2.length ≤ 1000000 ∧ (convS ch num den adj pos frac rest bc bd).2.1.2.2.2.2.2.2.length ≤ rest.length + bd.length := by
  unfold convS
  split
  · have := takeS_len ch num den adj pos frac (rest ++ bd) ((ph num den adj frac).make (frames ch (rest ++ bd)))
    rw [List.length_append] at this
    exact this
  · simp [zeroB, zeroR]

noncomputable def fuel : Nat := 1099511627776
theorem big_fuel : Big fuel := Nat.le_refl _
end Go.Proofs.YtbfkfobfhjgphaaGreat.Sp

/- Small bounds of phases, and what is left. -/
set_option linter.unusedVariables false
set_option linter.unusedSimpArgs false
namespace Go.Proofs.YtbfkfobfhjgphaaGreat.Sp
open Go Go.Pev Go.Snd Go.Proofs.YtbfkfobfhjgphaaGreat.Fn

theorem mul_mn {a b c : Int} (hc : 0 ≤ c) (h : a ≤ b) : c * a ≤ c * b := Int.mul_le_mul_of_nonneg_left h hc
theorem u8_of {x : Int} (h : (Lit.int .u8 x).wf = true) : 0 ≤ x ∧ x ≤ 255 := by
  have := D8_of (l := [x]) (by simpa using h)
  simpa using this
theorem mulS_small {num den adj pos frac : Int} (h : PhOK num den adj pos frac) {x w W R : Int} (hx : 1 ≤ x) (hw0 : 0 ≤ w) (hw : w ≤ W) (hR0 : 0 ≤ R) (hR : den ≤ R * num) (hm : (x - 1) * (num * (65536 + adj)) ≤ w * (den * 65536)) : (x - 1) * 61440 ≤ W * R * 65536 := by
  have n1 := h.n1
  have d1 := h.d1
  have a1 := h.a1
  have e1 : (x - 1) * num * 61440 ≤ (x - 1) * num * (65536 + adj) := mul_mn (Int.mul_nonneg (by omega) (by omega)) (by omega)
  have e2 : (x - 1) * (num * (65536 + adj)) = (x - 1) * num * (65536 + adj) := (Int.mul_assoc _ _ _).symm
  have e3 : w * (den * 65536) ≤ W * (R * num * 65536) := Int.mul_le_mul hw (by omega) (by omega) (by omega)
  have e4 : (x - 1) * num * 61440 = (x - 1) * 61440 * num := by ac_rfl
  have e5 : W * (R * num * 65536) = W * R * 65536 * num := by ac_rfl
  have e6 : (x - 1) * 61440 * num ≤ W * R * 65536 * num := by omega
  exact Int.le_of_mul_le_mul_right e6 (by omega)
theorem gone_small {num den adj pos frac : Int} (h : PhOK num den adj pos frac) (hb : BaseOK num den) {n : Int} (h0 : 0 ≤ n) (h1 : n ≤ 65536) : 0 ≤ (ph num den adj frac).gone n ∧ (ph num den adj frac).gone n ≤ 54000000 := by
  refine ⟨(ph num den adj frac).gone_nonneg h.ok h0, ?_⟩
  have d1 := h.d1
  have a1 := h.a1
  have a2 := h.a2
  have n1 := h.n1
  have r2 := hb.r2
  have f1 := h.f1
  have hA := ph_A num den adj frac n
  have e1 : n * num ≤ 65536 * num := Int.mul_le_mul_of_nonneg_right h1 (by omega)
  have e0 : 0 ≤ n * num := Int.mul_nonneg h0 (by omega)
  have e2 : n * num * (65536 + adj) ≤ 65536 * num * 69632 := Int.mul_le_mul e1 (by omega) (by omega) (by omega)
  show (ph num den adj frac).A n / (den * 65536) ≤ 54000000
  have : (ph num den adj frac).A n ≤ 53477377 * (den * 65536) := by omega
  have := Int.ediv_le_ediv (show 0 < den * 65536 by omega) this
  rw [Int.mul_ediv_cancel _ (by omega)] at this
  omega
theorem cmp50 {num den adj pos frac : Int} (h : PhOK num den adj pos frac) : decide (den > IntKind.wrap .i64 (50 * num)) = decide (50 * num < den) := by
  have n2 := h.n2
  have n1 := h.n1
  rw [w64 (by omega) (by omega)]
theorem u8_mod {x m : Int} (h : 0 ≤ x ∧ x ≤ 255) (hm : 1 ≤ m) (hm' : m ≤ 1000) : IntKind.wrap .i64 (Int.tmod x m) = x % m ∧ 0 ≤ x % m ∧ x % m < m := by
  have h1 := Int.emod_nonneg x (show m ≠ 0 by omega)
  have h2 := Int.emod_lt_of_pos x (show 0 < m by omega)
  rw [tmod_pos h.1]
  exact ⟨w64 (by omega) (by omega), h1, h2⟩
theorem s47 {k : Nat} (hk : Big k) {ch : Int} {d : List Int} (h : BkOK ch d) : f42 k (ch, d) = some (frames ch d) := by
  have hl := h.len_le
  unfold f42
  rw [s83 hk _ _ (by omega), (bkOK_iff _ _).2 h, Option.bind_some]
  simp only [Bool.not_true, cond_false, ch_ne h.c1, w_frames h]
theorem waiting_eq {ch num den adj pos frac : Int} {rest : List Int} (h : RsOK ch num den adj pos frac rest) : waiting ch num den adj pos frac rest = frames ch rest := by
  unfold waiting; rw [if_pos ((rsOK_iff _ _ _ _ _ _ _).2 h)]
theorem makeS_eq {num den adj pos frac n : Int} (h : PhOK num den adj pos frac) (h0 : 0 ≤ n) (h1 : n ≤ 1099511627776) : makeS num den adj pos frac n = ((ph num den adj frac).make n, 0) := by
  unfold makeS; rw [if_pos ((phOK_iff _ _ _ _ _).2 h), if_neg (by omega)]
theorem finS_eq {ch num den adj pos frac : Int} {rest : List Int} (h : RsOK ch num den adj pos frac rest) {n : Int} (h0 : 0 ≤ n) (h1 : n ≤ 65536) : finS ch num den adj pos frac rest n = prodS ch num den adj pos frac rest (min n ((ph num den adj frac).left (frames ch rest))) := by
  unfold finS; rw [if_pos ((checkS_zero _ _).2 ⟨(rsOK_iff _ _ _ _ _ _ _).2 h, h0, h1⟩)]
/-- all that is left fits into one block -/
theorem left_small {num den adj pos frac : Int} (h : PhOK num den adj pos frac) {w W R : Int} (hw0 : 0 ≤ w) (hw : w ≤ W) (hR0 : 0 ≤ R) (hR : den ≤ R * num) : ((ph num den adj frac).left w - 1) * 61440 ≤ W * R * 65536 := by
  have hl := (ph num den adj frac).left_nonneg h.ok w
  by_cases h0 : (ph num den adj frac).left w = 0
  · rw [h0]
    have := Int.mul_nonneg (show 0 ≤ W by omega) hR0
    omega
  · rcases (ph num den adj frac).left_mul h.ok hw0 with hm | hm
    · exact mulS_small h (by omega) hw0 hw hR0 hR (Int.le_of_lt hm)
    · exact absurd hm h0
theorem make_small {num den adj pos frac : Int} (h : PhOK num den adj pos frac) {w W R : Int} (hw0 : 0 ≤ w) (hw : w ≤ W) (hR0 : 0 ≤ R) (hR : den ≤ R * num) : ((ph num den adj frac).make w - 1) * 61440 ≤ W * R * 65536 := by
  have hl := (ph num den adj frac).make_nonneg w
  by_cases h0 : (ph num den adj frac).make w = 0
  · rw [h0]
    have := Int.mul_nonneg (show 0 ≤ W by omega) hR0
    omega
  · exact mulS_small h (by omega) hw0 hw hR0 hR ((ph num den adj frac).make_mul h.ok hw0)

theorem flat_take {ps : List BkT} {i : Nat} (h : i < ps.length) (e : BkT) : ((ps.map (·.2)).take (i + 1)).flatten = ((ps.map (·.2)).take i).flatten ++ (ps.getD i e).2 := by
  have h' : i < (ps.map (·.2)).length := by simpa using h
  rw [List.take_succ_eq_append_getElem h', List.flatten_append]
  simp [List.getD, h]
theorem pieces_prefix {ch : Int} (c1 : 1 ≤ ch) (c2 : ch ≤ 8) {ps : List BkT} (h : ∀ p ∈ ps, p.1 = ch ∧ BkOK ch p.2) {W : Int} (hW : W ≤ 65536) : ∀ i, i ≤ ps.length → (((ps.map (·.2)).flatten.length : Int) = W * ch) → BkOK ch ((ps.map (·.2)).take i).flatten ∧ frames ch ((ps.map (·.2)).take i).flatten ≤ W := by
  intro i hi hlen
  have key : ∀ i, i ≤ ps.length → ∃ w : Int, ((((ps.map (·.2)).take i).flatten.length : Int) = w * ch) ∧ 0 ≤ w := by
    intro i
    induction i with
    | zero => intro _; exact ⟨0, by simp, by omega⟩
    | succ i ih =>
      intro hi
      obtain ⟨w, h1, h2⟩ := ih (by omega)
      have hb := (h _ (getD_mem' (e := ((0 : Int), [])) (show i < ps.length by omega))).2
      refine ⟨w + frames ch (ps.getD i (0, [])).2, ?_, by have := frames_nonneg (d := (ps.getD i (0, [])).2) c1; omega⟩
      rw [flat_take (show i < ps.length by omega) (0, []), List.length_append, Int.natCast_add, h1, hb.len, Int.add_mul]
  obtain ⟨w, h1, h2⟩ := key i hi
  have hle : ((ps.map (·.2)).take i).flatten.length ≤ (ps.map (·.2)).flatten.length := by
    have : (ps.map (·.2)).flatten = ((ps.map (·.2)).take i).flatten ++ ((ps.map (·.2)).drop i).flatten := by
      rw [← List.flatten_append, List.take_append_drop]
    rw [this, List.length_append]; omega
  have hwW : w ≤ W := by
    have : w * ch ≤ W * ch := by rw [← h1, ← hlen]; omega
    exact Int.le_of_mul_le_mul_right this (by omega)
  have hs : ∀ x ∈ ((ps.map (·.2)).take i).flatten, isS x := by
    intro x hx
    obtain ⟨l, hl, hxl⟩ := List.mem_flatten.1 hx
    obtain ⟨p, hp, rfl⟩ := List.mem_map.1 (List.mem_of_mem_take hl)
    exact (h p hp).2.s x hxl
  obtain ⟨r1, r2⟩ := BkOK.mk' c1 c2 h1 (by omega) hs
  exact ⟨r1, by omega⟩

end Go.Proofs.YtbfkfobfhjgphaaGreat.Sp

/- What the program's rings and streams do, in plain words. -/
set_option linter.unusedVariables false
set_option linter.unusedSimpArgs false
namespace Go.Proofs.YtbfkfobfhjgphaaGreat.Sp
open Go Go.Pev Go.Snd Go.Proofs.YtbfkfobfhjgphaaGreat.Fn

/-! ### rings -/
abbrev RgT := Int × Int × Int × Int × List Int
def zeroG : RgT := (0, 0, 0, 0, [])
def unusedS (g : RgT) : Bool := (g.1 == 0) && (g.2.1 == 0) && (g.2.2.1 == 0) && (g.2.2.2.1 == 0) && ((g.2.2.2.2.length : Int) == 0)
def rgOK (g : RgT) : Bool := !decide (g.2.1 < 1) && !decide (g.2.1 > 65536) && !decide (g.2.2.2.1 < 0) && !decide (g.2.2.2.1 > g.2.2.1) && !decide (g.2.2.1 > 1125899906842624) && bkOK g.1 g.2.2.2.2 && (g.2.2.1 - g.2.2.2.1 == frames g.1 g.2.2.2.2) && decide (g.2.2.1 - g.2.2.2.1 ≤ g.2.1)
structure RgOK (g : RgT) : Prop where
  c0 : 1 ≤ g.2.1
  c1 : g.2.1 ≤ 65536
  r0 : 0 ≤ g.2.2.2.1
  r1 : g.2.2.2.1 ≤ g.2.2.1
  w1 : g.2.2.1 ≤ 1125899906842624
  b : BkOK g.1 g.2.2.2.2
  fr : g.2.2.1 - g.2.2.2.1 = frames g.1 g.2.2.2.2
  l : g.2.2.1 - g.2.2.2.1 ≤ g.2.1
theorem rgOK_iff (g : RgT) : rgOK g = true ↔ RgOK g := by
  unfold rgOK
  simp only [Bool.and_eq_true, Bool.not_eq_true', decide_eq_false_iff_not, decide_eq_true_eq, bkOK_iff, beq_iff_eq]
  exact ⟨fun ⟨⟨⟨⟨⟨⟨⟨a, b⟩, c⟩, d⟩, e⟩, f⟩, g⟩, h⟩ => ⟨by omega, by omega, by omega, by omega, by omega, f, g, h⟩, fun ⟨a, b, c, d, e, f, g, h⟩ => ⟨⟨⟨⟨⟨⟨⟨by omega, by omega⟩, by omega⟩, by omega⟩, by omega⟩, f⟩, g⟩, h⟩⟩
theorem s153 (k : Nat) (g : RgT) : f124 k g = some (unusedS g) := by
  obtain ⟨a, b, c, d, e⟩ := g
  unfold f124 unusedS
  simp only
  cases a == 0 <;> simp only [cond_true, cond_false, Bool.true_and, Bool.false_and]
  cases b == 0 <;> simp only [cond_true, cond_false, Bool.true_and, Bool.false_and]
  cases c == 0 <;> simp only [cond_true, cond_false, Bool.true_and, Bool.false_and]
  cases d == 0 <;> simp only [cond_true, cond_false, Bool.true_and, Bool.false_and]
theorem unusedS_iff (g : RgT) : unusedS g = true ↔ g = zeroG := by
  obtain ⟨a, b, c, d, e⟩ := g
  unfold unusedS zeroG
  simp only [Bool.and_eq_true, beq_iff_eq, Prod.mk.injEq]
  constructor
  · rintro ⟨⟨⟨⟨rfl, rfl⟩, rfl⟩, rfl⟩, h⟩
    exact ⟨rfl, rfl, rfl, rfl, List.length_eq_zero_iff.1 (by omega)⟩
  · rintro ⟨rfl, rfl, rfl, rfl, rfl⟩
    simp
theorem s154 {k : Nat} (hk : Big k) (g : RgT) (hd : g.2.2.2.2.length ≤ 1000000000000) : f125 k g = some (rgOK g) := by
  obtain ⟨ch, cap, wr, rd, d⟩ := g
  simp only at hd
  unfold f125 rgOK
  simp only [s81 hk ch d hd, Option.bind_some]
  by_cases h1 : cap < 1 <;> simp only [h1, decide_true, decide_false, cond_true, cond_false, Bool.not_true, Bool.not_false, Bool.true_and, Bool.false_and]
  by_cases h2 : cap > 65536 <;> simp only [h2, decide_true, decide_false, cond_true, cond_false, Bool.not_true, Bool.not_false, Bool.true_and, Bool.false_and]
  by_cases h3 : rd < 0 <;> simp only [h3, decide_true, decide_false, cond_true, cond_false, Bool.not_true, Bool.not_false, Bool.true_and, Bool.false_and]
  by_cases h4 : rd > wr <;> simp only [h4, decide_true, decide_false, cond_true, cond_false, Bool.not_true, Bool.not_false, Bool.true_and, Bool.false_and]
  by_cases h5 : wr > 1125899906842624 <;> simp only [h5, decide_true, decide_false, cond_true, cond_false, Bool.not_true, Bool.not_false, Bool.true_and, Bool.false_and]
  cases hb : bkOK ch d with
  | false => simp only [cond_false, Bool.false_and]
  | true =>
    have h := (bkOK_iff _ _).1 hb
    simp only [cond_true, Bool.true_and, ch_ne h.c1, cond_false, w_frames h, w64 (show -9223372036854775808 ≤ wr - rd by omega) (by omega)]
    cases wr - rd == frames ch d <;> simp
def fillG (g : RgT) : Int := if rgOK g = true then g.2.2.1 - g.2.2.2.1 else 0
theorem s129 {k : Nat} (hk : Big k) (g : RgT) (hd : g.2.2.2.2.length ≤ 1000000000000) : f128 k g = some (fillG g) := by
  unfold f128 fillG
  rw [s154 hk g hd, Option.bind_some]
  cases h : rgOK g with
  | false => simp
  | true =>
    have h := (rgOK_iff g).1 h
    have := h.r0
    have := h.r1
    have := h.w1
    simp only [Bool.not_true, cond_false, if_true, w64 (show -9223372036854775808 ≤ g.2.2.1 - g.2.2.2.1 by omega) (by omega)]
def newG (ch cap : Int) : RgT × Int := if rgOK (ch, cap, 0, 0, []) = true then ((ch, cap, 0, 0, []), 0) else (zeroG, 2)
theorem s121 {k : Nat} (hk : Big k) (ch cap : Int) : f69 k (ch, cap) = some (newG ch cap) := by
  unfold f69 newG
  simp only [s154 hk (ch, cap, 0, 0, []) (by simp), Option.bind_some]
  cases rgOK (ch, cap, 0, 0, []) <;> simp [zeroG]
def clearG (g : RgT) : RgT × Int := if rgOK g = true then ((g.1, g.2.1, g.2.2.1, g.2.2.1, []), 0) else (zeroG, 1)
theorem s164 {k : Nat} (hk : Big k) (g : RgT) (hd : g.2.2.2.2.length ≤ 1000000000000) : f257 k g = some (clearG g) := by
  unfold f257 clearG
  rw [s154 hk g hd, Option.bind_some]
  cases rgOK g <;> simp [zeroG]

/-! ### streams -/
abbrev StT := Int × Int × Int × Int × Int × Int × Int × Int × Int × Int × List Int × Int × Int × Int × Int × List Int × Int × Int × Int
structure St where
  dir : Int
  state : Int
  cap : Int
  start : Int
  r : RsT
  g : RgT
  wr : Int
  pl : Int
  ms : Int
def St.t (s : St) : StT := (s.dir, s.state, s.cap, s.start, s.r.1, s.r.2.1, s.r.2.2.1, s.r.2.2.2.1, s.r.2.2.2.2.1, s.r.2.2.2.2.2.1, s.r.2.2.2.2.2.2, s.g.1, s.g.2.1, s.g.2.2.1, s.g.2.2.2.1, s.g.2.2.2.2, s.wr, s.pl, s.ms)
def mkSt (x : StT) : St := ⟨x.1, x.2.1, x.2.2.1, x.2.2.2.1, (x.2.2.2.2.1, x.2.2.2.2.2.1, x.2.2.2.2.2.2.1, x.2.2.2.2.2.2.2.1, x.2.2.2.2.2.2.2.2.1, x.2.2.2.2.2.2.2.2.2.1, x.2.2.2.2.2.2.2.2.2.2.1), (x.2.2.2.2.2.2.2.2.2.2.2.1, x.2.2.2.2.2.2.2.2.2.2.2.2.1, x.2.2.2.2.2.2.2.2.2.2.2.2.2.1, x.2.2.2.2.2.2.2.2.2.2.2.2.2.2.1, x.2.2.2.2.2.2.2.2.2.2.2.2.2.2.2.1), x.2.2.2.2.2.2.2.2.2.2.2.2.2.2.2.2.1, x.2.2.2.2.2.2.2.2.2.2.2.2.2.2.2.2.2.1, x.2.2.2.2.2.2.2.2.2.2.2.2.2.2.2.2.2.2⟩
theorem mkSt_t (x : StT) : (mkSt x).t = x := rfl
def zeroSt : St := ⟨0, 0, 0, 0, zeroR, zeroG, 0, 0, 0⟩
def rOK (r : RsT) : Bool := rsOK r.1 r.2.1 r.2.2.1 r.2.2.2.1 r.2.2.2.2.1 r.2.2.2.2.2.1 r.2.2.2.2.2.2
abbrev ROK (r : RsT) : Prop := RsOK r.1 r.2.1 r.2.2.1 r.2.2.2.1 r.2.2.2.2.1 r.2.2.2.2.2.1 r.2.2.2.2.2.2
def rW (r : RsT) : Int := waiting r.1 r.2.1 r.2.2.1 r.2.2.2.1 r.2.2.2.2.1 r.2.2.2.2.2.1 r.2.2.2.2.2.2
def rFr (r : RsT) : Int := frames r.1 r.2.2.2.2.2.2
def rFeed (r : RsT) (b : BkT) : RsT × Int := feedS r.1 r.2.1 r.2.2.1 r.2.2.2.1 r.2.2.2.2.1 r.2.2.2.2.2.1 r.2.2.2.2.2.2 b.1 b.2
noncomputable def rTake (r : RsT) (n : Int) : BkT × RsT × Int := takeS r.1 r.2.1 r.2.2.1 r.2.2.2.1 r.2.2.2.2.1 r.2.2.2.2.2.1 r.2.2.2.2.2.2 n
noncomputable def rFin (r : RsT) (n : Int) : BkT × RsT × Int := finS r.1 r.2.1 r.2.2.1 r.2.2.2.1 r.2.2.2.2.1 r.2.2.2.2.2.1 r.2.2.2.2.2.2 n
noncomputable def rConv (r : RsT) (b : BkT) : BkT × RsT × Int := convS r.1 r.2.1 r.2.2.1 r.2.2.2.1 r.2.2.2.2.1 r.2.2.2.2.2.1 r.2.2.2.2.2.2 b.1 b.2
def rPh (r : RsT) : Ph := ph r.2.1 r.2.2.1 r.2.2.2.1 r.2.2.2.2.2.1
noncomputable def rMake (r : RsT) (n : Int) : Int × Int := makeS r.2.1 r.2.2.1 r.2.2.2.1 r.2.2.2.2.1 r.2.2.2.2.2.1 n
def rNeed (r : RsT) (n : Int) : Int × Int := needS r.2.1 r.2.2.1 r.2.2.2.1 r.2.2.2.2.1 r.2.2.2.2.2.1 n
theorem rOK_iff (r : RsT) : rOK r = true ↔ ROK r := rsOK_iff _ _ _ _ _ _ _
theorem rW_eq {r : RsT} (h : ROK r) : rW r = rFr r := waiting_eq' h
/-- short: what a stream holds can be counted -/
def Short (s : St) : Prop := s.r.2.2.2.2.2.2.length ≤ 10000000000 ∧ s.g.2.2.2.2.length ≤ 10000000000

def stOK (s : St) : Bool :=
  !decide (s.state < 1) && !decide (s.state > 7) && !decide (s.cap < 1) && !decide (s.cap > 65536) && !decide (s.start < 0) && !decide (s.start > s.cap) && rOK s.r && !(s.r.2.2.2.1 != 0) && !decide (s.wr < 0) && !decide (s.pl < 0) && !decide (s.ms < 0) &&
    (bif s.dir == 1 then decide (rW s.r ≤ s.cap) && unusedS s.g else bif s.dir == 2 then rgOK s.g && (s.g.2.1 == s.cap) && (s.g.1 == s.r.1) else false)
structure StOK (s : St) : Prop where
  s0 : 1 ≤ s.state
  s1 : s.state ≤ 7
  c0 : 1 ≤ s.cap
  c1 : s.cap ≤ 65536
  b0 : 0 ≤ s.start
  b1 : s.start ≤ s.cap
  r : ROK s.r
  adj : s.r.2.2.2.1 = 0
  w0 : 0 ≤ s.wr
  p0 : 0 ≤ s.pl
  m0 : 0 ≤ s.ms
  d : (s.dir = 1 ∧ rFr s.r ≤ s.cap ∧ s.g = zeroG) ∨ (s.dir = 2 ∧ RgOK s.g ∧ s.g.2.1 = s.cap ∧ s.g.1 = s.r.1)
theorem stOK_iff (s : St) : stOK s = true ↔ StOK s := by
  unfold stOK
  simp only [Bool.and_eq_true, Bool.not_eq_true', decide_eq_false_iff_not, bne_eq_false_iff_eq, rOK_iff]
  constructor
  · rintro ⟨⟨⟨⟨⟨⟨⟨⟨⟨⟨⟨a, b⟩, c⟩, d⟩, e⟩, f⟩, r⟩, g⟩, h⟩, i⟩, j⟩, m⟩
    refine ⟨by omega, by omega, by omega, by omega, by omega, by omega, r, g, by omega, by omega, by omega, ?_⟩
    by_cases h1 : s.dir = 1
    · rw [h1] at m
      simp only [beq_self_eq_true, cond_true, Bool.and_eq_true, decide_eq_true_eq, unusedS_iff, rW_eq r] at m
      exact .inl ⟨h1, m.1, m.2⟩
    · have e1 : (s.dir == 1) = false := by simpa using h1
      rw [e1, cond_false] at m
      by_cases h2 : s.dir = 2
      · rw [h2] at m
        simp only [beq_self_eq_true, cond_true, Bool.and_eq_true, beq_iff_eq, rgOK_iff] at m
        exact .inr ⟨h2, m.1.1, m.1.2, m.2⟩
      · have e2 : (s.dir == 2) = false := by simpa using h2
        rw [e2] at m; cases m
  · rintro ⟨a, b, c, d, e, f, r, g, h, i, j, m⟩
    refine ⟨⟨⟨⟨⟨⟨⟨⟨⟨⟨⟨by omega, by omega⟩, by omega⟩, by omega⟩, by omega⟩, by omega⟩, r⟩, g⟩, by omega⟩, by omega⟩, by omega⟩, ?_⟩
    rcases m with ⟨h1, h2, h3⟩ | ⟨h1, h2, h3, h4⟩
    · simp only [h1, beq_self_eq_true, cond_true, Bool.and_eq_true, decide_eq_true_eq, unusedS_iff, rW_eq r]
      exact ⟨h2, h3⟩
    · rw [h1, show ((2 : Int) == 1) = false from rfl, cond_false, beq_self_eq_true, cond_true]
      simp only [Bool.and_eq_true, beq_iff_eq, rgOK_iff]
      exact ⟨⟨h2, h3⟩, h4⟩
theorem StOK.short {s : St} (h : StOK s) : Short s := by
  have h1 := h.r.b.len_le
  refine ⟨by omega, ?_⟩
  rcases h.d with ⟨_, _, h2⟩ | ⟨_, h2, _, _⟩
  · rw [h2]; simp [zeroG]
  · have := h2.b.len_le; omega
set_option maxHeartbeats 1000000 in
theorem s120 {k : Nat} (hk : Big k) (s : St) (hd : Short s) : f47 k s.t = some (stOK s) := by
  obtain ⟨dir, state, cap, start, ⟨ch, num, den, adj, pos, frac, rest⟩, ⟨a, b, c, d, e⟩, wr, pl, ms⟩ := s
  obtain ⟨h1, h2⟩ := hd
  simp only at h1 h2
  show f47 k (dir, state, cap, start, ch, num, den, adj, pos, frac, rest, a, b, c, d, e, wr, pl, ms) = _
  unfold f47 stOK
  simp only [s28 hk _ _ _ _ _ _ _ (show rest.length ≤ 1000000000000 by omega), s30 hk _ _ _ _ _ _ _ (show rest.length ≤ 1000000000000 by omega), s153, s154 hk (a, b, c, d, e) (show e.length ≤ 1000000000000 by omega), Option.bind_some, rOK, rW]
  by_cases h1 : state < 1 <;> simp only [h1, decide_true, decide_false, cond_true, cond_false, Bool.not_true, Bool.not_false, Bool.true_and, Bool.false_and]
  by_cases h2 : state > 7 <;> simp only [h2, decide_true, decide_false, cond_true, cond_false, Bool.not_true, Bool.not_false, Bool.true_and, Bool.false_and]
  by_cases h3 : cap < 1 <;> simp only [h3, decide_true, decide_false, cond_true, cond_false, Bool.not_true, Bool.not_false, Bool.true_and, Bool.false_and]
  by_cases h4 : cap > 65536 <;> simp only [h4, decide_true, decide_false, cond_true, cond_false, Bool.not_true, Bool.not_false, Bool.true_and, Bool.false_and]
  by_cases h5 : start < 0 <;> simp only [h5, decide_true, decide_false, cond_true, cond_false, Bool.not_true, Bool.not_false, Bool.true_and, Bool.false_and]
  by_cases h6 : start > cap <;> simp only [h6, decide_true, decide_false, cond_true, cond_false, Bool.not_true, Bool.not_false, Bool.true_and, Bool.false_and]
  cases rsOK ch num den adj pos frac rest <;> simp only [cond_true, cond_false, Bool.not_true, Bool.not_false, Bool.true_and, Bool.false_and]
  cases adj != 0 <;> simp only [cond_true, cond_false, Bool.not_true, Bool.not_false, Bool.true_and, Bool.false_and]
  by_cases h7 : wr < 0 <;> simp only [h7, decide_true, decide_false, cond_true, cond_false, Bool.not_true, Bool.not_false, Bool.true_and, Bool.false_and]
  by_cases h8 : pl < 0 <;> simp only [h8, decide_true, decide_false, cond_true, cond_false, Bool.not_true, Bool.not_false, Bool.true_and, Bool.false_and]
  by_cases h9 : ms < 0 <;> simp only [h9, decide_true, decide_false, cond_true, cond_false, Bool.not_true, Bool.not_false, Bool.true_and, Bool.false_and]
  cases dir == 1 <;> simp only [cond_true, cond_false]
  · cases dir == 2 <;> simp only [cond_true, cond_false]
    cases rgOK (a, b, c, d, e) <;> simp only [cond_true, cond_false, Bool.true_and, Bool.false_and]
    cases b == cap <;> simp only [cond_true, cond_false, Bool.true_and, Bool.false_and]
  · by_cases h10 : waiting ch num den adj pos frac rest ≤ cap <;> simp only [h10, decide_true, decide_false, cond_true, cond_false, Bool.true_and, Bool.false_and]
end Go.Proofs.YtbfkfobfhjgphaaGreat.Sp

/- What the program's streams do, in plain words: new ones, waiting, writing, commands, taking. -/
set_option linter.unusedVariables false
set_option linter.unusedSimpArgs false
namespace Go.Proofs.YtbfkfobfhjgphaaGreat.Sp
open Go Go.Pev Go.Snd Go.Proofs.YtbfkfobfhjgphaaGreat.Fn

/-- a result: the stream as the machine's tuple -/
def rt (p : St × Int) : StT × Int := (p.1.t, p.2)
def newSt (dir ch num den cap start : Int) : St × Int :=
  let s : St := ⟨dir, 1, cap, start, (newS ch num den).1, if dir = 2 then (newG ch cap).1 else zeroG, 0, 0, 0⟩
  if stOK s = true then (s, 0) else (zeroSt, 1)
theorem newS_len (ch num den : Int) : (newS ch num den).1.2.2.2.2.2.2 = [] := by unfold newS; split <;> rfl
theorem newG_len (ch cap : Int) : (newG ch cap).1.2.2.2.2 = [] := by unfold newG; split <;> rfl
theorem s71 {k : Nat} (hk : Big k) (dir ch num den cap start : Int) : f15 k (dir, ch, (num, den), cap, start) = some (rt (newSt dir ch num den cap start)) := by
  unfold f15 newSt
  simp only [s32 hk, s121 hk, Option.bind_some]
  by_cases h : dir = 2
  · subst h
    have e := s120 hk ⟨2, 1, cap, start, (newS ch num den).1, (newG ch cap).1, 0, 0, 0⟩ ⟨by simp [newS_len], by simp [newG_len]⟩
    simp only [St.t] at e
    simp only [beq_self_eq_true, cond_true, if_true, e, Option.bind_some]
    cases hb : stOK ⟨2, 1, cap, start, (newS ch num den).1, (newG ch cap).1, 0, 0, 0⟩ <;> simp [rt, St.t, zeroSt, zeroR, zeroG]
  · have h' : (dir == 2) = false := by simpa using h
    have e := s120 hk ⟨dir, 1, cap, start, (newS ch num den).1, zeroG, 0, 0, 0⟩ ⟨by simp [newS_len], by simp [zeroG]⟩
    simp only [St.t, zeroG] at e
    simp only [h', cond_false, if_neg h, e, Option.bind_some]
    simp only [← zeroG.eq_1]
    cases hb : stOK ⟨dir, 1, cap, start, (newS ch num den).1, zeroG, 0, 0, 0⟩ <;> simp [rt, St.t, zeroSt, zeroR, zeroG]
def waitS (s : St) : Int := if stOK s = true then if s.dir = 2 then fillG s.g else rW s.r else 0
theorem s77 {k : Nat} (hk : Big k) (s : St) (hd : Short s) : f49 k s.t = some (waitS s) := by
  have h1 := hd.1
  have h2 := hd.2
  unfold f49 waitS
  rw [s120 hk s hd, Option.bind_some]
  cases hb : stOK s with
  | false => simp
  | true =>
    simp only [Bool.not_true, cond_false, if_true]
    have e1 := s129 hk s.g (by omega)
    have e2 := s30 hk s.r.1 s.r.2.1 s.r.2.2.1 s.r.2.2.2.1 s.r.2.2.2.2.1 s.r.2.2.2.2.2.1 s.r.2.2.2.2.2.2 (by omega)
    by_cases hdir : s.dir = 2
    · have : (s.t.1 == 2) = true := by simpa [St.t] using hdir
      rw [this, cond_true, if_pos hdir]
      exact (congrArg (Option.bind · _) e1)
    · have : (s.t.1 == 2) = false := by simpa [St.t] using hdir
      rw [this, cond_false, if_neg hdir]
      exact (congrArg (Option.bind · _) e2)
theorem waitS_eq {s : St} (h : StOK s) : (s.dir = 1 ∧ waitS s = rFr s.r) ∨ (s.dir = 2 ∧ waitS s = s.g.2.2.1 - s.g.2.2.2.1) := by
  unfold waitS
  rw [if_pos ((stOK_iff s).2 h)]
  rcases h.d with ⟨h1, _, _⟩ | ⟨h1, h2, _, _⟩
  · exact .inl ⟨h1, by rw [if_neg (by omega), rW_eq h.r]⟩
  · exact .inr ⟨h1, by rw [if_pos h1, fillG, if_pos ((rgOK_iff _).2 h2)]⟩
theorem waitS_bd {s : St} (h : StOK s) : 0 ≤ waitS s ∧ waitS s ≤ s.cap := by
  rcases waitS_eq h with ⟨h1, h2⟩ | ⟨h1, h2⟩
  · have := frames_nonneg (d := s.r.2.2.2.2.2.2) h.r.b.c1
    rcases h.d with ⟨_, h3, _⟩ | ⟨h3, _⟩
    · rw [h2]; exact ⟨this, h3⟩
    · omega
  · rcases h.d with ⟨h3, _, _⟩ | ⟨h3, h4, h5, _⟩
    · omega
    · have := h4.r1; have := h4.l; omega
def roomS (s : St) : Int := if stOK s = true then s.cap - waitS s else 0
theorem s76 {k : Nat} (hk : Big k) (s : St) (hd : Short s) : f51 k s.t = some (roomS s) := by
  unfold f51 roomS
  rw [s120 hk s hd, s77 hk s hd, Option.bind_some, Option.bind_some]
  cases hb : stOK s with
  | false => simp
  | true =>
    have h := (stOK_iff s).1 hb
    have hw := waitS_bd h
    have := h.c1
    simp only [Bool.not_true, cond_false, if_true]
    show some (IntKind.wrap .i64 (s.cap - waitS s)) = _
    rw [w64 (by omega) (by omega)]
theorem s122 {k : Nat} (hk : Big k) (s : St) (hd : Short s) (d : Int) : f91 k (s.t, d) = some (stOK s && (s.dir == d)) := by
  unfold f91
  simp only [s120 hk s hd, Option.bind_some]
  cases stOK s <;> simp [St.t]

/-! ### writing -/
def writeS (s : St) (b : BkT) : St × Int :=
  if (stOK s && (s.dir == 1)) = true ∧ bkOK b.1 b.2 = true then
    if b.1 = s.r.1 then
      if 5 ≤ s.state then (zeroSt, 9)
      else if roomS s < frames b.1 b.2 then (zeroSt, 10)
      else (⟨s.dir, if s.state = 1 ∧ 0 < frames b.1 b.2 then 2 else s.state, s.cap, s.start, (rFeed s.r b).1, s.g, IntKind.wrap .i64 (s.wr + frames b.1 b.2), s.pl, s.ms⟩, 0)
    else (zeroSt, 11)
  else (zeroSt, 1)
theorem s72 {k : Nat} (hk : Big k) (s : St) (hd : Short s) (b : BkT) (hb : b.2.length ≤ 10000000000) : f27 k (s.t, b) = some (rt (writeS s b)) := by
  have h1 := hd.1
  unfold f27 writeS
  simp only [s122 hk s hd, s76 hk s hd, Option.bind_some]
  cases hs : stOK s && (s.dir == 1) with
  | false => simp [rt, St.t, zeroSt, zeroR, zeroG]
  | true =>
    obtain ⟨bc, bd⟩ := b
    simp only at hb
    simp only [s81 hk bc bd (by omega), Option.bind_some, Bool.not_true, cond_false]
    cases hbk : bkOK bc bd with
    | false => simp [rt, St.t, zeroSt, zeroR, zeroG]
    | true =>
      have h := (bkOK_iff _ _).1 hbk
      simp only [Bool.not_true, cond_false, and_self, if_true]
      by_cases hc : bc = s.r.1
      · have e1 : (bc != s.t.2.2.2.2.1) = false := by simp [St.t, hc]
        rw [e1, cond_false, if_pos hc]
        by_cases h5 : 5 ≤ s.state
        · have e2 : decide (s.t.2.1 ≥ 5) = true := decide_eq_true h5
          rw [e2, cond_true, if_pos h5]; rfl
        · have e2 : decide (s.t.2.1 ≥ 5) = false := decide_eq_false h5
          rw [e2, cond_false, if_neg h5, ch_ne h.c1, cond_false, w_frames h]
          by_cases h6 : roomS s < frames bc bd
          · have e3 : decide (frames bc bd > roomS s) = true := decide_eq_true h6
            rw [e3, cond_true, if_pos h6]; rfl
          · have e3 : decide (frames bc bd > roomS s) = false := decide_eq_false h6
            rw [e3, cond_false, if_neg h6]
            have e4 := s25 hk s.r.1 s.r.2.1 s.r.2.2.1 s.r.2.2.2.1 s.r.2.2.2.2.1 s.r.2.2.2.2.2.1 s.r.2.2.2.2.2.2 bc bd (by omega) (by omega)
            have e4' : f93 k ((s.t.2.2.2.2.1, s.t.2.2.2.2.2.1, s.t.2.2.2.2.2.2.1, s.t.2.2.2.2.2.2.2.1, s.t.2.2.2.2.2.2.2.2.1, s.t.2.2.2.2.2.2.2.2.2.1, s.t.2.2.2.2.2.2.2.2.2.2.1), bc, bd) = some (rFeed s.r (bc, bd)) := e4
            rw [e4', Option.bind_some]
            by_cases h7 : s.state = 1
            · have e5 : (s.t.2.1 == 1) = true := by simpa [St.t] using h7
              rw [e5, cond_true]
              by_cases h8 : 0 < frames bc bd
              · have e6 : decide (frames bc bd > 0) = true := decide_eq_true h8
                rw [e6, cond_true, if_pos ⟨h7, h8⟩]; rfl
              · have e6 : decide (frames bc bd > 0) = false := decide_eq_false h8
                rw [e6, cond_false, if_neg (fun h => h8 h.2)]; rfl
            · have e5 : (s.t.2.1 == 1) = false := by simpa [St.t] using h7
              rw [e5, cond_false, if_neg (fun h => h7 h.1)]; rfl
      · have e1 : (bc != s.t.2.2.2.2.1) = true := by simpa [St.t] using hc
        rw [e1, cond_true, if_neg hc]; rfl

/-! ### commands -/
def emptyS (s : St) : St := ⟨s.dir, s.state, s.cap, s.start, (newS s.r.1 s.r.2.1 s.r.2.2.1).1, if s.dir = 2 then (clearG s.g).1 else s.g, s.wr, s.pl, s.ms⟩
theorem s163 {k : Nat} (hk : Big k) (s : St) (hd : Short s) : f224 k s.t = some (emptyS s).t := by
  have h2 := hd.2
  unfold f224 emptyS
  have e1 := s32 hk s.r.1 s.r.2.1 s.r.2.2.1
  have e2 := s164 hk s.g (by omega)
  have e1' : f68 k (s.t.2.2.2.2.1, s.t.2.2.2.2.2.1, s.t.2.2.2.2.2.2.1) = some (newS s.r.1 s.r.2.1 s.r.2.2.1) := e1
  have e2' : f257 k (s.t.2.2.2.2.2.2.2.2.2.2.2.1, s.t.2.2.2.2.2.2.2.2.2.2.2.2.1, s.t.2.2.2.2.2.2.2.2.2.2.2.2.2.1, s.t.2.2.2.2.2.2.2.2.2.2.2.2.2.2.1, s.t.2.2.2.2.2.2.2.2.2.2.2.2.2.2.2.1) = some (clearG s.g) := e2
  rw [e1', Option.bind_some]
  by_cases hdir : s.dir = 2
  · have : (s.t.1 == 2) = true := by simpa [St.t] using hdir
    rw [this, cond_true, e2', Option.bind_some, if_pos hdir]; rfl
  · have : (s.t.1 == 2) = false := by simpa [St.t] using hdir
    rw [this, cond_false, if_neg hdir]; rfl
def rewindS (s : St) : St := emptyS { s with state := if s.state = 2 then 1 else s.state }
theorem s157 {k : Nat} (hk : Big k) (s : St) (hd : Short s) : f168 k s.t = some (rewindS s).t := by
  unfold f168 rewindS
  by_cases h : s.state = 2
  · have e : (s.t.2.1 == 2) = true := by simpa [St.t] using h
    have e1 : f224 k (s.t.1, 1, s.t.2.2) = some (emptyS { s with state := 1 }).t := s163 hk { s with state := 1 } hd
    rw [e, cond_true, if_pos h, e1]; rfl
  · have e : (s.t.2.1 == 2) = false := by simpa [St.t] using h
    rw [e, cond_false, if_neg h, s163 hk s hd]; rfl
theorem s161 (k : Nat) (s : St) (n : Int) : f222 k (s.t, n) = some (({ s with state := n } : St).t, n) := rfl
theorem s162 {k : Nat} (hk : Big k) (s : St) (hd : Short s) (n : Int) : f223 k (s.t, n) = some ((emptyS { s with state := n }).t, n) := by
  unfold f223
  have e1 : f224 k (s.t.1, n, s.t.2.2) = some (emptyS { s with state := n }).t := s163 hk { s with state := n } hd
  show Option.bind (f224 k (s.t.1, n, s.t.2.2)) _ = _
  rw [e1]; rfl
theorem s158 {k : Nat} (hk : Big k) (l : List Int) (v : Int) (hl : l.length ≤ 100) : ∃ r, f163 k (l, v) = some r ∧ (0 ≤ r ↔ v ∈ l) := by
  unfold f163
  refine loop_ex (L163_2 k _ _) (fun y => ∃ i : Nat, y = (l, v, (l.length : Int), (i : Int)) ∧ i ≤ l.length ∧ v ∉ l.take i) (fun o => ∃ r, o = some r ∧ (0 ≤ r ↔ v ∈ l)) (fun y => (l.length - y.2.2.2).toNat) ?_ k _ ⟨0, rfl, by omega, by simp⟩ (hk.lt (by simp; omega))
  rintro y next ⟨i, rfl, hi, hno⟩ hnext
  unfold L163_2
  simp only at hnext ⊢
  by_cases hlt : i < l.length
  · have c1 : decide ((i : Int) < (l.length : Int)) = true := by simp; omega
    have c2 : decide ((0 : Int) ≤ (i : Int)) = true := by simp
    simp only [c1, c2, Bool.and_self, cond_true, Int.toNat_natCast, getD_lt l i hlt]
    by_cases he : v = l[i]
    · have : (v == l[i]) = true := by simpa using he
      rw [this, cond_true]
      exact ⟨i, rfl, ⟨fun _ => by rw [he]; exact List.getElem_mem hlt, fun _ => by omega⟩⟩
    · have : (v == l[i]) = false := by simpa using he
      rw [this, cond_false, show IntKind.wrap .i64 ((i : Int) + 1) = ((i + 1 : Nat) : Int) by rw [w64 (by omega) (by omega)]; omega]
      refine hnext _ ⟨i + 1, rfl, by omega, ?_⟩ (by simp only; omega)
      rw [List.take_succ_eq_append_getElem hlt, List.mem_append, List.mem_singleton]
      rintro (h | h)
      · exact hno h
      · exact he h
  · have : i = l.length := by omega
    subst this
    have c1 : decide (((l.length : Nat) : Int) < (l.length : Int)) = false := by simp
    simp only [c1, cond_false]
    rw [List.take_length] at hno
    exact ⟨-1, rfl, ⟨fun h => by omega, fun h => absurd h hno⟩⟩
theorem s124 {k : Nat} (hk : Big k) (l : List Int) (v : Int) (hl : l.length ≤ 100) : f95 k (l, v) = some (decide (v ∈ l)) := by
  unfold f95
  obtain ⟨r, e, h⟩ := s158 hk l v hl
  rw [e, Option.bind_some]
  by_cases hv : v ∈ l
  · have := h.2 hv
    simp [hv, this]
  · have : ¬ (0 ≤ r) := fun h' => hv (h.1 h')
    simp [hv]; omega
theorem s143 (k : Nat) (l : List Int) (h : l.length ≤ 1000000000000) : f169 k l = some l := by
  unfold f169 maxLen
  rw [maxB h, cond_true]
theorem s125 (k : Nat) (s : St) (hd : Short s) : f96 k s.t = some s.t := by
  have h1 := hd.1
  have h2 := hd.2
  unfold f96
  have e1 : f169 k s.t.2.2.2.2.2.2.2.2.2.2.1 = some s.r.2.2.2.2.2.2 := s143 k s.r.2.2.2.2.2.2 (by omega)
  have e2 : f169 k s.t.2.2.2.2.2.2.2.2.2.2.2.2.2.2.2.1 = some s.g.2.2.2.2 := s143 k s.g.2.2.2.2 (by omega)
  rw [e1, Option.bind_some, e2]; rfl

/-- which commands are possible from the state that a valid stream is in -/
def mayS (s : St) (c : Int) : Bool :=
  if c = 1 then decide (s.state = 2) || (decide (s.state = 1) && !(decide (s.dir = 1) && decide (0 < s.start)))
  else if c = 2 then decide (s.state = 3)
  else if c = 3 then decide (s.state = 4)
  else if c = 4 then decide (s.dir = 1) && (decide (s.state = 2) || decide (s.state = 3) || decide (s.state = 4))
  else if c = 5 then decide (s.state ≤ 5)
  else if c = 6 then decide (s.state ≤ 6)
  else decide (s.state ≤ 4)
def afterS (s : St) (c : Int) : St :=
  if c = 1 then { s with state := 3 }
  else if c = 2 then { s with state := 4 }
  else if c = 3 then { s with state := 3 }
  else if c = 4 then { s with state := 5 }
  else if c = 5 then emptyS { s with state := 6 }
  else if c = 6 then emptyS { s with state := 7 }
  else rewindS s
def doS (s : St) (c : Int) : St × Int :=
  if stOK s = true ∧ 1 ≤ c ∧ c ≤ 7 then
    if mayS s c = true then
      if c = 1 ∧ s.state = 2 ∧ s.dir = 1 ∧ waitS s < s.start then (zeroSt, 4) else (afterS s c, 0)
    else (zeroSt, 9)
  else (zeroSt, 1)
theorem doS_1 (s : St) : doS s 1 = if stOK s = true then if mayS s 1 = true then if s.state = 2 ∧ s.dir = 1 ∧ waitS s < s.start then (zeroSt, 4) else (afterS s 1, 0) else (zeroSt, 9) else (zeroSt, 1) := by
  unfold doS; simp
theorem doS_n (s : St) (c : Int) (h1 : 2 ≤ c) (h2 : c ≤ 7) : doS s c = if stOK s = true then if mayS s c = true then (afterS s c, 0) else (zeroSt, 9) else (zeroSt, 1) := by
  unfold doS
  have e1 : 1 ≤ c := by omega
  have e2 : ¬ c = 1 := by omega
  simp [e1, h2, e2]
theorem rt_zero (e : Int) : ((0, 0, 0, 0, 0, 0, 0, 0, 0, 0, [], 0, 0, 0, 0, [], 0, 0, 0), e) = rt (zeroSt, e) := rfl
theorem c_ne {a b : Int} (h : a ≠ b) : (a == b) = false := by simpa using h
theorem s73_1 {k : Nat} (hk : Big k) (s : St) (hd : Short s) : f28_1 k s.t = some (rt (doS s 1)) := by
  unfold f28_1
  rw [s120 hk s hd, Option.bind_some, doS_1]
  cases hb : stOK s with
  | false => simp only [Bool.not_false, cond_true]; rfl
  | true =>
    have h := (stOK_iff s).1 hb
    have q0 := h.s0
    have q1 := h.s1
    have ec : f95 k ([1, 2], s.t.2.1) = some (decide (s.state ∈ [(1 : Int), 2])) := s124 hk _ _ (by simp)
    have e161 : f222 k (s.t, 3) = some (({ s with state := 3 } : St).t, 3) := rfl
    simp only [Bool.not_true, cond_false, if_true, ec, s125 k s hd, s77 hk s hd, Option.bind_some, e161, show ((1 : Int) == 1) = true from rfl, show ((1 : Int) == 4) = false from rfl, cond_true]
    rw [show s.t.2.1 = s.state from rfl, show s.t.1 = s.dir from rfl, show s.t.2.2.2.1 = s.start from rfl]
    unfold mayS afterS
    simp only [if_true]
    by_cases h1 : s.state = 1
    · simp only [h1]
      by_cases h2 : s.dir = 1
      · by_cases h3 : 0 < s.start
        · simp [h2, h3, rt_zero]
        · simp [h2, h3, rt]
      · simp [h2, c_ne h2, rt]
    · by_cases h2 : s.state = 2
      · simp only [h2]
        by_cases h3 : s.dir = 1
        · by_cases h4 : waitS s < s.start
          · simp [h3, h4, rt_zero]
          · simp [h3, h4, rt]
        · simp [h3, c_ne h3, rt]
      · simp [h1, h2, rt_zero]
theorem s73_2 {k : Nat} (hk : Big k) (s : St) (hd : Short s) : f28_2 k s.t = some (rt (doS s 2)) := by
  unfold f28_2
  rw [s120 hk s hd, Option.bind_some, doS_n s 2 (by omega) (by omega)]
  cases hb : stOK s with
  | false => simp only [Bool.not_false, cond_true]; rfl
  | true =>
    have ec : f95 k ([3], s.t.2.1) = some (decide (s.state ∈ [(3 : Int)])) := s124 hk _ _ (by simp)
    have e161 : f222 k (s.t, 4) = some (({ s with state := 4 } : St).t, 4) := rfl
    simp only [Bool.not_true, cond_false, if_true, ec, s125 k s hd, Option.bind_some, e161, show ((2 : Int) == 1) = false from rfl, show ((2 : Int) == 4) = false from rfl]
    by_cases h1 : s.state = 3
    · simp [h1, mayS, afterS, rt]
    · simp [h1, mayS, rt_zero]
theorem s73_3 {k : Nat} (hk : Big k) (s : St) (hd : Short s) : f28_3 k s.t = some (rt (doS s 3)) := by
  unfold f28_3
  rw [s120 hk s hd, Option.bind_some, doS_n s 3 (by omega) (by omega)]
  cases hb : stOK s with
  | false => simp only [Bool.not_false, cond_true]; rfl
  | true =>
    have ec : f95 k ([4], s.t.2.1) = some (decide (s.state ∈ [(4 : Int)])) := s124 hk _ _ (by simp)
    have e161 : f222 k (s.t, 3) = some (({ s with state := 3 } : St).t, 3) := rfl
    simp only [Bool.not_true, cond_false, if_true, ec, s125 k s hd, Option.bind_some, e161, show ((3 : Int) == 1) = false from rfl, show ((3 : Int) == 4) = false from rfl]
    by_cases h1 : s.state = 4
    · simp [h1, mayS, afterS, rt]
    · simp [h1, mayS, rt_zero]
theorem s73_4 {k : Nat} (hk : Big k) (s : St) (hd : Short s) : f28_4 k s.t = some (rt (doS s 4)) := by
  unfold f28_4
  rw [s120 hk s hd, Option.bind_some, doS_n s 4 (by omega) (by omega)]
  cases hb : stOK s with
  | false => simp only [Bool.not_false, cond_true]; rfl
  | true =>
    have ec : f95 k ([2, 3, 4], s.t.2.1) = some (decide (s.state ∈ [(2 : Int), 3, 4])) := s124 hk _ _ (by simp)
    have e161 : f222 k (s.t, 5) = some (({ s with state := 5 } : St).t, 5) := rfl
    simp only [Bool.not_true, cond_false, if_true, ec, s125 k s hd, Option.bind_some, e161, show ((4 : Int) == 1) = false from rfl, show ((4 : Int) == 4) = true from rfl, cond_true]
    rw [show s.t.1 = s.dir from rfl]
    by_cases h0 : s.dir = 1
    · by_cases h1 : s.state = 2
      · simp [h0, h1, mayS, afterS, rt]
      · by_cases h2 : s.state = 3
        · simp [h0, h2, mayS, afterS, rt]
        · by_cases h3 : s.state = 4
          · simp [h0, h3, mayS, afterS, rt]
          · simp [h0, h1, h2, h3, mayS, rt_zero]
    · by_cases h1 : s.state = 2 <;> by_cases h2 : s.state = 3 <;> by_cases h3 : s.state = 4 <;> simp [h0, c_ne h0, h1, h2, h3, mayS, rt_zero]
theorem s73_5 {k : Nat} (hk : Big k) (s : St) (hd : Short s) : f28_5 k s.t = some (rt (doS s 5)) := by
  unfold f28_5
  rw [s120 hk s hd, Option.bind_some, doS_n s 5 (by omega) (by omega)]
  cases hb : stOK s with
  | false => simp only [Bool.not_false, cond_true]; rfl
  | true =>
    have h := (stOK_iff s).1 hb
    have q0 := h.s0
    have ec : f95 k ([1, 2, 3, 4, 5], s.t.2.1) = some (decide (s.state ∈ [(1 : Int), 2, 3, 4, 5])) := s124 hk _ _ (by simp)
    have hm : decide (s.state ∈ [(1 : Int), 2, 3, 4, 5]) = decide (s.state ≤ 5) := decide_eq_decide.2 (by simp only [List.mem_cons, List.not_mem_nil, or_false]; omega)
    simp only [Bool.not_true, cond_false, if_true, ec, hm, s125 k s hd, Option.bind_some, s162 hk s hd, show ((5 : Int) == 1) = false from rfl, show ((5 : Int) == 4) = false from rfl]
    by_cases h1 : s.state ≤ 5
    · simp [h1, mayS, afterS, rt]
    · simp [h1, mayS, rt_zero]
theorem s73_6 {k : Nat} (hk : Big k) (s : St) (hd : Short s) : f28_6 k s.t = some (rt (doS s 6)) := by
  unfold f28_6
  rw [s120 hk s hd, Option.bind_some, doS_n s 6 (by omega) (by omega)]
  cases hb : stOK s with
  | false => simp only [Bool.not_false, cond_true]; rfl
  | true =>
    have h := (stOK_iff s).1 hb
    have q0 := h.s0
    have ec : f95 k ([1, 2, 3, 4, 5, 6], s.t.2.1) = some (decide (s.state ∈ [(1 : Int), 2, 3, 4, 5, 6])) := s124 hk _ _ (by simp)
    have hm : decide (s.state ∈ [(1 : Int), 2, 3, 4, 5, 6]) = decide (s.state ≤ 6) := decide_eq_decide.2 (by simp only [List.mem_cons, List.not_mem_nil, or_false]; omega)
    simp only [Bool.not_true, cond_false, if_true, ec, hm, s125 k s hd, Option.bind_some, s162 hk s hd, show ((6 : Int) == 1) = false from rfl, show ((6 : Int) == 4) = false from rfl]
    by_cases h1 : s.state ≤ 6
    · simp [h1, mayS, afterS, rt]
    · simp [h1, mayS, rt_zero]
theorem s73_7 {k : Nat} (hk : Big k) (s : St) (hd : Short s) : f28_7 k s.t = some (rt (doS s 7)) := by
  unfold f28_7
  rw [s120 hk s hd, Option.bind_some, doS_n s 7 (by omega) (by omega)]
  cases hb : stOK s with
  | false => simp only [Bool.not_false, cond_true]; rfl
  | true =>
    have h := (stOK_iff s).1 hb
    have q0 := h.s0
    have ec : f95 k ([1, 2, 3, 4], s.t.2.1) = some (decide (s.state ∈ [(1 : Int), 2, 3, 4])) := s124 hk _ _ (by simp)
    have hm : decide (s.state ∈ [(1 : Int), 2, 3, 4]) = decide (s.state ≤ 4) := decide_eq_decide.2 (by simp only [List.mem_cons, List.not_mem_nil, or_false]; omega)
    simp only [Bool.not_true, cond_false, if_true, ec, hm, s125 k s hd, Option.bind_some, s157 hk s hd, show ((7 : Int) == 1) = false from rfl, show ((7 : Int) == 4) = false from rfl]
    by_cases h1 : s.state ≤ 4
    · simp [h1, mayS, afterS, rt]
    · simp [h1, mayS, rt_zero]
theorem s73 {k : Nat} (hk : Big k) (s : St) (hd : Short s) (c : Int) : f28 k (s.t, c) = some (rt (doS s c)) := by
  unfold f28
  by_cases h1 : c = 1
  · subst h1; exact s73_1 hk s hd
  by_cases h2 : c = 2
  · subst h2; exact s73_2 hk s hd
  by_cases h3 : c = 3
  · subst h3; exact s73_3 hk s hd
  by_cases h4 : c = 4
  · subst h4; exact s73_4 hk s hd
  by_cases h5 : c = 5
  · subst h5; exact s73_5 hk s hd
  by_cases h6 : c = 6
  · subst h6; exact s73_6 hk s hd
  by_cases h7 : c = 7
  · subst h7; exact s73_7 hk s hd
  simp only [c_ne h1, c_ne h2, c_ne h3, c_ne h4, c_ne h5, c_ne h6, c_ne h7, cond_false]
  unfold f28_0 doS
  simp only [s120 hk s hd, Option.bind_some]
  rw [if_neg (by omega)]
  cases stOK s <;> rfl
end Go.Proofs.YtbfkfobfhjgphaaGreat.Sp

/- What the program's streams do, in plain words: what they owe, taking from them, comparing them. -/
set_option linter.unusedVariables false
set_option linter.unusedSimpArgs false
namespace Go.Proofs.YtbfkfobfhjgphaaGreat.Sp
open Go Go.Pev Go.Snd Go.Proofs.YtbfkfobfhjgphaaGreat.Fn

theorem s127 (k : Nat) (n : Int) : f100 k n = some (decide (n < 0) || decide (65536 < n)) := by
  unfold f100
  by_cases h : n < 0 <;> simp [h]
def owesS (s : St) (n : Int) : Int × Int :=
  if (stOK s && (s.dir == 1)) = true then
    if n < 0 ∨ 65536 < n then (0, 2) else (max 0 ((rPh s.r).need n - rFr s.r), 0)
  else (0, 1)
theorem s119 {k : Nat} (hk : Big k) (s : St) (hd : Short s) (n : Int) : f32 k (s.t, n) = some (owesS s n) := by
  unfold f32 owesS
  simp only [s122 hk s hd, s127, Option.bind_some]
  cases hb : stOK s && (s.dir == 1) with
  | false => simp
  | true =>
    have hb' : stOK s = true ∧ s.dir = 1 := by simpa using hb
    have h := (stOK_iff s).1 hb'.1
    simp only [Bool.not_true, cond_false, if_true]
    by_cases h1 : n < 0
    · simp [h1]
    by_cases h2 : 65536 < n
    · simp [h1, h2]
    simp only [h1, h2, decide_false, Bool.or_self, cond_false, or_self, if_false]
    have e1 : f101 k ((s.t.2.2.2.2.2.1, s.t.2.2.2.2.2.2.1, s.t.2.2.2.2.2.2.2.1, s.t.2.2.2.2.2.2.2.2.1, s.t.2.2.2.2.2.2.2.2.2.1), n) = some ((rPh s.r).need n, 0) := by
      refine (s91 hk _ _ _ _ _ n).trans ?_
      have : needS s.r.2.1 s.r.2.2.1 s.r.2.2.2.1 s.r.2.2.2.2.1 s.r.2.2.2.2.2.1 n = ((rPh s.r).need n, 0) := by
        unfold needS
        rw [if_pos ((checkS_zero _ _).2 ⟨(phOK_iff _ _ _ _ _).2 h.r.p, by omega, by omega⟩)]; rfl
      exact congrArg some this
    rw [e1, s77 hk s hd, Option.bind_some, Option.bind_some]
    have hw : waitS s = rFr s.r := by
      rcases waitS_eq h with ⟨_, e⟩ | ⟨e, _⟩
      · exact e
      · have := hb'.2; omega
    have w0 := frames_nonneg (d := s.r.2.2.2.2.2.2) h.r.b.c1
    have w1 : rFr s.r ≤ 65536 := h.r.b.l
    have g0 := (rPh s.r).need_nonneg h.r.p.ok (n := n) (by omega)
    have g1 : (rPh s.r).need n ≤ 36000000000000000 := by
      by_cases hz : n = 0
      · subst hz
        unfold Ph.need; simp
      · rw [(rPh s.r).need_eq hz]
        obtain ⟨a1, a2⟩ := gone_bd h.r.p (n := n - 1) (by omega) (by omega)
        obtain ⟨b1, b2⟩ := gone_bd h.r.p (n := n) (by omega) (by omega)
        change (rPh s.r).gone (n - 1) ≤ _ at a2
        change (rPh s.r).gone n ≤ _ at b2
        omega
    have w0' : 0 ≤ rFr s.r := w0
    rw [hw, w64 (by omega) (by omega)]
    congr 2
    simp only [gt_iff_lt]
    split <;> omega

/-! ### taking -/
def padS (ch n : Int) (d : List Int) : List Int := d ++ List.replicate (n * ch - d.length).toNat 0
theorem padCount_eq {ch n : Int} {d : List Int} {m : Int} (c1 : 1 ≤ ch) (c2 : ch ≤ 8) (h0 : 0 ≤ m) (hm : m ≤ n) (h1 : n ≤ 65536) (hl : (d.length : Int) = m * ch) :
    padCount ch n d.length = n * ch - d.length ∧ 0 ≤ n * ch - d.length ∧ (d.length + (n * ch - d.length).toNat) * 4 ≤ maxBytes := by
  obtain ⟨a1, a2⟩ := mul_bd (show 0 ≤ n by omega) h1 (show 0 ≤ ch by omega) c2
  obtain ⟨b1, b2⟩ := mul_bd h0 hm (show 0 ≤ ch by omega) (Int.le_refl ch)
  have e : padCount ch n d.length = n * ch - d.length := by
    unfold padCount
    rw [w64 (x := n * ch) (by omega) (by omega), w64 (by omega) (by omega)]
  refine ⟨e, by omega, ?_⟩
  unfold maxBytes
  omega
/-- what is produced, or the error -/
theorem prodS_cases {r : RsT} (h : ROK r) {n : Int} (h0 : 0 ≤ n) (h1 : n ≤ 65536) :
    (prodS r.1 r.2.1 r.2.2.1 r.2.2.2.1 r.2.2.2.2.1 r.2.2.2.2.2.1 r.2.2.2.2.2.2 n = ((r.1, outS r.1 r.2.1 r.2.2.1 r.2.2.2.1 r.2.2.2.2.2.1 r.2.2.2.2.2.2 n), nextR r.1 r.2.1 r.2.2.1 r.2.2.2.1 r.2.2.2.2.1 r.2.2.2.2.2.1 r.2.2.2.2.2.2 n, 0)) ∨
    prodS r.1 r.2.1 r.2.2.1 r.2.2.2.1 r.2.2.2.2.1 r.2.2.2.2.2.1 r.2.2.2.2.2.2 n = (zeroB, zeroR, 2) := by
  by_cases hp : r.2.2.2.2.1 + (ph r.2.1 r.2.2.1 r.2.2.2.1 r.2.2.2.2.2.1).gone n ≤ 1125899906842624
  · exact .inl (prodS_ok h h0 h1 hp).1
  · exact .inr (prodS_bad h h0 h1 hp)
theorem outS_len {ch num den adj pos frac : Int} {rest : List Int} (h : RsOK ch num den adj pos frac rest) {n : Int} (h0 : 0 ≤ n) : ((outS ch num den adj frac rest n).length : Int) = n * ch := by
  unfold outS
  rw [out_length]
  have := h.b.c1
  rw [Int.natCast_mul]
  congr 1 <;> omega
/-- the stream behind a take -/
def takenSt (s : St) (r : RsT) (state n miss : Int) : St := ⟨s.dir, state, s.cap, s.start, r, s.g, s.wr, IntKind.wrap .i64 (s.pl + n), IntKind.wrap .i64 (s.ms + miss)⟩
noncomputable def takeSt (s : St) (n : Int) : BkT × Int × St × Int :=
  if (stOK s && (s.dir == 1)) = true then
    if n < 0 ∨ 65536 < n then (zeroB, 0, zeroSt, 2)
    else if s.state = 3 then
      let K := min n ((rPh s.r).make (rFr s.r))
      let t := rTake s.r K
      if t.2.2 = 0 then ((t.1.1, padS t.1.1 n t.1.2), n - K, takenSt s t.2.1 3 n (n - K), 0) else (zeroB, 0, zeroSt, t.2.2)
    else if s.state = 5 then
      let t := rFin s.r n
      if t.2.2 = 0 then ((t.1.1, padS t.1.1 n t.1.2), 0, takenSt s t.2.1 (if t.2.1.2.2.2.2.2.2 = [] then 6 else 5) n 0, 0) else (zeroB, 0, zeroSt, t.2.2)
    else ((s.r.1, List.replicate (s.r.1 * n).toNat 0), 0, s, 0)
  else (zeroB, 0, zeroSt, 1)
def rt4 (p : BkT × Int × St × Int) : BkT × Int × StT × Int := (p.1, p.2.1, p.2.2.1.t, p.2.2.2)
set_option maxHeartbeats 1000000 in
theorem s75 {k : Nat} (hk : Big k) (s : St) (hd : Short s) (n : Int) : f33 k (s.t, n) = some (rt4 (takeSt s n)) := by
  unfold f33 takeSt
  have hd1 := hd.1
  simp only [s122 hk s hd, s127, Option.bind_some]
  cases hb : stOK s && (s.dir == 1) with
  | false => simp [rt4, zeroB, zeroSt, St.t, zeroR, zeroG]
  | true =>
    have hb' : stOK s = true ∧ s.dir = 1 := by simpa using hb
    have h := (stOK_iff s).1 hb'.1
    have hw : waitS s = rFr s.r := by
      rcases waitS_eq h with ⟨_, e⟩ | ⟨e, _⟩
      · exact e
      · have := hb'.2; omega
    have w0 : 0 ≤ rFr s.r := frames_nonneg (d := s.r.2.2.2.2.2.2) h.r.b.c1
    have w1 : rFr s.r ≤ 65536 := h.r.b.l
    simp only [Bool.not_true, cond_false, if_true]
    by_cases h1 : n < 0
    · simp [h1, rt4, zeroB, zeroSt, St.t, zeroR, zeroG]
    by_cases h2 : 65536 < n
    · simp [h1, h2, rt4, zeroB, zeroSt, St.t, zeroR, zeroG]
    simp only [h1, h2, decide_false, Bool.or_self, cond_false, or_self, if_false]
    rw [show s.t.2.1 = s.state from rfl]
    by_cases h3 : s.state = 3
    · have hm0 := (rPh s.r).make_nonneg (rFr s.r)
      have hm1 := (rPh s.r).make_le (rFr s.r)
      have e1 : f102 k ((s.t.2.2.2.2.2.1, s.t.2.2.2.2.2.2.1, s.t.2.2.2.2.2.2.2.1, s.t.2.2.2.2.2.2.2.2.1, s.t.2.2.2.2.2.2.2.2.2.1), rFr s.r) = some ((rPh s.r).make (rFr s.r), 0) := by
        refine (s96 hk _ _ _ _ _ _).trans ?_
        have : makeS s.r.2.1 s.r.2.2.1 s.r.2.2.2.1 s.r.2.2.2.2.1 s.r.2.2.2.2.2.1 (rFr s.r) = ((rPh s.r).make (rFr s.r), 0) := by
          unfold makeS
          rw [if_pos ((phOK_iff _ _ _ _ _).2 h.r.p), if_neg (by omega)]; rfl
        exact congrArg some this
      simp only [h3, beq_self_eq_true, cond_true, if_true, s77 hk s hd, hw, e1, Option.bind_some]
      have eK : (if n < (rPh s.r).make (rFr s.r) then n else (rPh s.r).make (rFr s.r)) = min n ((rPh s.r).make (rFr s.r)) := by split <;> omega
      rw [eK]
      obtain ⟨K, hK⟩ : ∃ K, K = min n ((rPh s.r).make (rFr s.r)) := ⟨_, rfl⟩
      rw [← hK]
      have e2 : f103 k ((s.t.2.2.2.2.1, s.t.2.2.2.2.2.1, s.t.2.2.2.2.2.2.1, s.t.2.2.2.2.2.2.2.1, s.t.2.2.2.2.2.2.2.2.1, s.t.2.2.2.2.2.2.2.2.2.1, s.t.2.2.2.2.2.2.2.2.2.2.1), K) = some (rTake s.r K) := s34 hk _ _ _ _ _ _ _ (show s.r.2.2.2.2.2.2.length ≤ 1000000000000 by omega) K
      rw [e2, Option.bind_some]
      by_cases he : (rTake s.r K).2.2 = 0
      · have hcase : rTake s.r K = ((s.r.1, outS s.r.1 s.r.2.1 s.r.2.2.1 s.r.2.2.2.1 s.r.2.2.2.2.2.1 s.r.2.2.2.2.2.2 K), nextR s.r.1 s.r.2.1 s.r.2.2.1 s.r.2.2.2.1 s.r.2.2.2.2.1 s.r.2.2.2.2.2.1 s.r.2.2.2.2.2.2 K, 0) := by
          have hx : rTake s.r K = prodS s.r.1 s.r.2.1 s.r.2.2.1 s.r.2.2.2.1 s.r.2.2.2.2.1 s.r.2.2.2.2.2.1 s.r.2.2.2.2.2.2 K := by
            unfold rTake takeS
            rw [if_pos ((checkS_zero _ _).2 ⟨(rsOK_iff _ _ _ _ _ _ _).2 h.r, by omega, by omega⟩), if_neg]
            have := (rPh s.r).need_of_le_make h.r.p.ok w0 (j := K) (by omega) (by omega)
            show ¬ rFr s.r < (rPh s.r).need K
            omega
          rcases prodS_cases h.r (n := K) (by omega) (by omega) with e | e
          · rw [hx, e]
          · rw [hx, e] at he; simp at he
        rw [hcase]
        have hl := outS_len h.r (n := K) (by omega)
        obtain ⟨p1, p2, p3⟩ := padCount_eq (d := outS s.r.1 s.r.2.1 s.r.2.2.1 s.r.2.2.2.1 s.r.2.2.2.2.2.1 s.r.2.2.2.2.2.2 K) (m := K) (n := n) h.r.b.c1 h.r.b.c2 (by omega) (by omega) (by omega) hl
        have d1 : decide (0 ≤ n * s.r.1 - ((outS s.r.1 s.r.2.1 s.r.2.2.1 s.r.2.2.2.1 s.r.2.2.2.2.2.1 s.r.2.2.2.2.2.2 K).length : Int)) = true := decide_eq_true p2
        have d2 : decide (((outS s.r.1 s.r.2.1 s.r.2.2.1 s.r.2.2.2.1 s.r.2.2.2.2.2.1 s.r.2.2.2.2.2.2 K).length + (n * s.r.1 - ((outS s.r.1 s.r.2.1 s.r.2.2.1 s.r.2.2.2.1 s.r.2.2.2.2.2.1 s.r.2.2.2.2.2.2 K).length : Int)).toNat) * 4 ≤ maxBytes) = true := decide_eq_true p3
        simp only [p1, d1, d2, bne_self_eq_false, cond_false, Bool.and_self, cond_true, if_true, w64 (show -9223372036854775808 ≤ n - K by omega) (by omega)]
        simp only [rt4, St.t, takenSt, padS, hb'.2, h3]
      · have he' : ((rTake s.r K).2.2 != 0) = true := by simpa using he
        rw [he', cond_true, if_neg he]; rfl
    · rw [c_ne h3, cond_false, if_neg h3]
      by_cases h5 : s.state = 5
      · rw [if_pos h5, show (s.state == 5) = true by simpa using h5, cond_true]
        have e2 : f104 k ((s.t.2.2.2.2.1, s.t.2.2.2.2.2.1, s.t.2.2.2.2.2.2.1, s.t.2.2.2.2.2.2.2.1, s.t.2.2.2.2.2.2.2.2.1, s.t.2.2.2.2.2.2.2.2.2.1, s.t.2.2.2.2.2.2.2.2.2.2.1), n) = some (rFin s.r n) := s36 hk _ _ _ _ _ _ _ (show s.r.2.2.2.2.2.2.length ≤ 1000000000000 by omega) n
        rw [e2, Option.bind_some]
        have hl0 := (rPh s.r).left_nonneg h.r.p.ok (rFr s.r)
        obtain ⟨K, hK⟩ : ∃ K, K = min n ((rPh s.r).left (rFr s.r)) := ⟨_, rfl⟩
        have hx : rFin s.r n = prodS s.r.1 s.r.2.1 s.r.2.2.1 s.r.2.2.2.1 s.r.2.2.2.2.1 s.r.2.2.2.2.2.1 s.r.2.2.2.2.2.2 K := by
          rw [hK]
          unfold rFin finS
          rw [if_pos ((checkS_zero _ _).2 ⟨(rsOK_iff _ _ _ _ _ _ _).2 h.r, by omega, by omega⟩)]; rfl
        rcases prodS_cases h.r (n := K) (by omega) (by omega) with e | e
        · rw [hx, e]
          have hl := outS_len h.r (n := K) (by omega)
          obtain ⟨p1, p2, p3⟩ := padCount_eq (d := outS s.r.1 s.r.2.1 s.r.2.2.1 s.r.2.2.2.1 s.r.2.2.2.2.2.1 s.r.2.2.2.2.2.2 K) (m := K) (n := n) h.r.b.c1 h.r.b.c2 (by omega) (by omega) (by omega) hl
          have d1 : decide (0 ≤ n * s.r.1 - ((outS s.r.1 s.r.2.1 s.r.2.2.1 s.r.2.2.2.1 s.r.2.2.2.2.2.1 s.r.2.2.2.2.2.2 K).length : Int)) = true := decide_eq_true p2
          have d2 : decide (((outS s.r.1 s.r.2.1 s.r.2.2.1 s.r.2.2.2.1 s.r.2.2.2.2.2.1 s.r.2.2.2.2.2.2 K).length + (n * s.r.1 - ((outS s.r.1 s.r.2.1 s.r.2.2.1 s.r.2.2.2.1 s.r.2.2.2.2.2.1 s.r.2.2.2.2.2.2 K).length : Int)).toNat) * 4 ≤ maxBytes) = true := decide_eq_true p3
          simp only [p1, d1, d2, bne_self_eq_false, cond_false, Bool.and_self, cond_true, if_true]
          by_cases hr : (nextR s.r.1 s.r.2.1 s.r.2.2.1 s.r.2.2.2.1 s.r.2.2.2.2.1 s.r.2.2.2.2.2.1 s.r.2.2.2.2.2.2 K).2.2.2.2.2.2 = []
          · have : ((((nextR s.r.1 s.r.2.1 s.r.2.2.1 s.r.2.2.2.1 s.r.2.2.2.2.1 s.r.2.2.2.2.2.1 s.r.2.2.2.2.2.2 K).2.2.2.2.2.2).length : Int) == 0) = true := by rw [hr]; rfl
            rw [this, cond_true, if_pos hr]
            simp only [rt4, St.t, takenSt, padS, hb'.2]
          · have : ((((nextR s.r.1 s.r.2.1 s.r.2.2.1 s.r.2.2.2.1 s.r.2.2.2.2.1 s.r.2.2.2.2.2.1 s.r.2.2.2.2.2.2 K).2.2.2.2.2.2).length : Int) == 0) = false := by
              refine c_ne fun h0 => hr (List.length_eq_zero_iff.1 (by omega))
            rw [this, cond_false, if_neg hr]
            simp only [rt4, St.t, takenSt, padS, hb'.2, h5]
        · rw [hx, e]
          simp [zeroR, rt4, zeroB, zeroSt, St.t, zeroG]
      · rw [if_neg h5, c_ne h5, cond_false]
        have e2 : f105 k (s.t.2.2.2.2.1, n) = some ((s.r.1, List.replicate (s.r.1 * n).toNat 0), 0) := s108 k h.r.b.c1 h.r.b.c2 (by omega) (by omega)
        rw [e2, Option.bind_some, s125 k s hd]; rfl

/-! ### comparing -/
theorem same84 {k : Nat} (hk : Big k) (d : List Int) (hd : d.length ≤ 1000000000) : f71 k (d, d) = some true := by
  exact same_loop hk d hd
theorem same126 {k : Nat} (hk : Big k) (g : RgT) (hd : g.2.2.2.2.length ≤ 1000000000) : f126 k (g, g) = some true := by
  unfold f126
  simp [same84 hk _ hd]
theorem same74 {k : Nat} (hk : Big k) (s : St) (h1 : s.r.2.2.2.2.2.2.length ≤ 1000000000) (h2 : s.g.2.2.2.2.length ≤ 1000000000) : f54 k (s.t, s.t) = some true := by
  unfold f54
  have e1 := same27 hk s.r h1
  have e2 := same126 hk s.g h2
  simp only [St.t, beq_self_eq_true, cond_true]
  rw [show ((s.r.1, s.r.2.1, s.r.2.2.1, s.r.2.2.2.1, s.r.2.2.2.2.1, s.r.2.2.2.2.2.1, s.r.2.2.2.2.2.2) : RsT) = s.r from rfl, e1, Option.bind_some, cond_true, show ((s.g.1, s.g.2.1, s.g.2.2.1, s.g.2.2.2.1, s.g.2.2.2.2) : RgT) = s.g from rfl, e2]
  rfl
theorem same74' {k : Nat} (hk : Big k) {s : St} (h : StOK s) : f54 k (s.t, s.t) = some true := by
  have h1 := h.r.b.len_le
  refine same74 hk s (by omega) ?_
  rcases h.d with ⟨_, _, h2⟩ | ⟨_, h2, _, _⟩
  · rw [h2]; simp [zeroG]
  · have := h2.b.len_le; omega
end Go.Proofs.YtbfkfobfhjgphaaGreat.Sp

/- Playback streams step by step, in plain words: new, written to, started, drained, taken from. -/
set_option linter.unusedVariables false
set_option linter.unusedSimpArgs false
namespace Go.Proofs.YtbfkfobfhjgphaaGreat.Sp
open Go Go.Pev Go.Snd Go.Proofs.YtbfkfobfhjgphaaGreat.Fn

def pst (st cap start ch num den pos frac : Int) (rest : List Int) (wr pl ms : Int) : St := ⟨1, st, cap, start, (ch, num, den, 0, pos, frac, rest), zeroG, wr, pl, ms⟩
theorem pst_ok {st cap start ch num den pos frac : Int} {rest : List Int} {wr pl ms : Int} (h : RsOK ch num den 0 pos frac rest) (s0 : 1 ≤ st) (s1 : st ≤ 7) (c0 : 1 ≤ cap) (c1 : cap ≤ 65536) (b0 : 0 ≤ start) (b1 : start ≤ cap) (w0 : 0 ≤ wr) (p0 : 0 ≤ pl) (m0 : 0 ≤ ms) (hf : frames ch rest ≤ cap) : StOK (pst st cap start ch num den pos frac rest wr pl ms) :=
  ⟨s0, s1, c0, c1, b0, b1, h, rfl, w0, p0, m0, .inl ⟨rfl, hf, rfl⟩⟩
theorem pst_wait {st cap start ch num den pos frac : Int} {rest : List Int} {wr pl ms : Int} (h : StOK (pst st cap start ch num den pos frac rest wr pl ms)) : waitS (pst st cap start ch num den pos frac rest wr pl ms) = frames ch rest := by
  rcases waitS_eq h with ⟨_, e⟩ | ⟨e, _⟩
  · exact e
  · have e : (1 : Int) = 2 := e
    omega
theorem pst_room {st cap start ch num den pos frac : Int} {rest : List Int} {wr pl ms : Int} (h : StOK (pst st cap start ch num den pos frac rest wr pl ms)) : roomS (pst st cap start ch num den pos frac rest wr pl ms) = cap - frames ch rest := by
  unfold roomS
  rw [if_pos ((stOK_iff _).2 h), pst_wait h]; rfl
theorem pst_short {st cap start ch num den pos frac : Int} {rest : List Int} {wr pl ms : Int} (h : rest.length ≤ 10000000000) : Short (pst st cap start ch num den pos frac rest wr pl ms) := ⟨h, by simp [pst, zeroG]⟩
theorem newSt_play {ch num den cap start : Int} (c1 : 1 ≤ ch) (c2 : ch ≤ 8) (h : BaseOK num den) (a1 : 1 ≤ cap) (a2 : cap ≤ 65536) (b0 : 0 ≤ start) (b1 : start ≤ cap) :
    newSt 1 ch num den cap start = (pst 1 cap start ch num den 0 0 [] 0 0 0, 0) ∧ StOK (pst 1 cap start ch num den 0 0 [] 0 0 0) := by
  obtain ⟨e1, e2⟩ := newS_ok c1 c2 h
  have hs : StOK (pst 1 cap start ch num den 0 0 [] 0 0 0) := pst_ok e2 (by omega) (by omega) a1 a2 b0 b1 (by omega) (by omega) (by omega) (by rw [(nil_ok c1 c2).2]; omega)
  refine ⟨?_, hs⟩
  unfold newSt
  simp only [e1, show ¬ ((1 : Int) = 2) by decide, if_false]
  exact if_pos ((stOK_iff _).2 hs)
theorem play_is {s : St} (h : StOK s) (hd : s.dir = 1) : (stOK s && (s.dir == 1)) = true := by rw [(stOK_iff _).2 h, hd]; rfl
/-- writing a block for which there is room -/
theorem write_ok {st cap start ch num den pos frac : Int} {rest : List Int} {wr pl ms : Int} (h : StOK (pst st cap start ch num den pos frac rest wr pl ms)) (hst : st ≤ 4) {d : List Int} (hd : BkOK ch d) (hf : frames ch rest + frames ch d ≤ cap) (hw : wr ≤ 1000000000000000000) :
    writeS (pst st cap start ch num den pos frac rest wr pl ms) (ch, d) = (pst (if st = 1 ∧ 0 < frames ch d then 2 else st) cap start ch num den pos frac (rest ++ d) (wr + frames ch d) pl ms, 0) ∧ StOK (pst (if st = 1 ∧ 0 < frames ch d then 2 else st) cap start ch num den pos frac (rest ++ d) (wr + frames ch d) pl ms) := by
  have hr : RsOK ch num den 0 pos frac rest := h.r
  have c1 := h.c1
  have q0 := frames_nonneg (d := d) hd.c1
  have q1 : frames ch d ≤ 65536 := hd.l
  change cap ≤ 65536 at c1
  obtain ⟨a1, a2⟩ := append_ok hr.b hd (by omega)
  have hfeed : rFeed (ch, num, den, 0, pos, frac, rest) (ch, d) = ((ch, num, den, 0, pos, frac, rest ++ d), 0) := by
    unfold rFeed feedS
    simp only
    rw [if_pos ⟨(rsOK_iff _ _ _ _ _ _ _).2 hr, (bkOK_iff _ _).2 hd⟩, if_pos trivial, if_neg]
    have : ((rest.length : Int) + d.length) / ch = frames ch (rest ++ d) := by unfold frames; rw [List.length_append, Int.natCast_add]
    rw [this, a2]; omega
  have w0 : 0 ≤ wr := h.w0
  have s0 : 1 ≤ st := h.s0
  refine ⟨?_, pst_ok ⟨hr.p, a1⟩ ?_ ?_ h.c0 h.c1 h.b0 h.b1 (by omega) h.p0 h.m0 (by rw [a2]; exact hf)⟩
  · unfold writeS
    rw [if_pos ⟨play_is h rfl, (bkOK_iff _ _).2 hd⟩, if_pos (show (ch, d).1 = (pst st cap start ch num den pos frac rest wr pl ms).r.1 from rfl), if_neg (show ¬ 5 ≤ (pst st cap start ch num den pos frac rest wr pl ms).state by show ¬ 5 ≤ st; omega), if_neg (show ¬ roomS (pst st cap start ch num den pos frac rest wr pl ms) < frames (ch, d).1 (ch, d).2 by rw [pst_room h]; show ¬ cap - frames ch rest < frames ch d; omega)]
    simp only [pst, hfeed]
    rw [w64 (by omega) (by omega)]
    rfl
  · split <;> omega
  · split <;> omega
theorem write_full {st cap start ch num den pos frac : Int} {rest : List Int} {wr pl ms : Int} (h : StOK (pst st cap start ch num den pos frac rest wr pl ms)) (hst : st ≤ 4) {d : List Int} (hd : BkOK ch d) (hf : cap < frames ch rest + frames ch d) :
    writeS (pst st cap start ch num den pos frac rest wr pl ms) (ch, d) = (zeroSt, 10) := by
  unfold writeS
  rw [if_pos ⟨play_is h rfl, (bkOK_iff _ _).2 hd⟩, if_pos (show (ch, d).1 = (pst st cap start ch num den pos frac rest wr pl ms).r.1 from rfl), if_neg (show ¬ 5 ≤ (pst st cap start ch num den pos frac rest wr pl ms).state by show ¬ 5 ≤ st; omega), if_pos (show roomS (pst st cap start ch num den pos frac rest wr pl ms) < frames (ch, d).1 (ch, d).2 by rw [pst_room h]; show cap - frames ch rest < frames ch d; omega)]
/-- starting -/
theorem start_ok {st cap ch num den pos frac : Int} {rest : List Int} {wr pl ms : Int} (h : StOK (pst st cap 0 ch num den pos frac rest wr pl ms)) (hst : st ≤ 2) :
    doS (pst st cap 0 ch num den pos frac rest wr pl ms) 1 = (pst 3 cap 0 ch num den pos frac rest wr pl ms, 0) ∧ StOK (pst 3 cap 0 ch num den pos frac rest wr pl ms) := by
  have s0 : 1 ≤ st := h.s0
  have hm : mayS (pst st cap 0 ch num den pos frac rest wr pl ms) 1 = true := by
    rcases (show st = 1 ∨ st = 2 by omega) with rfl | rfl <;> simp [mayS, pst]
  refine ⟨?_, pst_ok h.r (by omega) (by omega) h.c0 h.c1 h.b0 h.b1 h.w0 h.p0 h.m0 (by have := pst_wait h; have := (waitS_bd h).2; rw [pst_wait h] at this; exact this)⟩
  rw [doS_1, if_pos ((stOK_iff _).2 h), if_pos hm, if_neg]
  · rfl
  · rw [pst_wait h]
    have := frames_nonneg (d := rest) h.r.b.c1
    rintro ⟨_, _, hh⟩
    have hh : frames ch rest < 0 := hh
    have : 0 ≤ frames ch rest := this
    omega
/-- draining -/
theorem drain_ok {cap start ch num den pos frac : Int} {rest : List Int} {wr pl ms : Int} (h : StOK (pst 2 cap start ch num den pos frac rest wr pl ms)) :
    doS (pst 2 cap start ch num den pos frac rest wr pl ms) 4 = (pst 5 cap start ch num den pos frac rest wr pl ms, 0) ∧ StOK (pst 5 cap start ch num den pos frac rest wr pl ms) := by
  refine ⟨?_, pst_ok h.r (by omega) (by omega) h.c0 h.c1 h.b0 h.b1 h.w0 h.p0 h.m0 (by have := (waitS_bd h).2; rw [pst_wait h] at this; exact this)⟩
  rw [doS_n _ 4 (by omega) (by omega), if_pos ((stOK_iff _).2 h), if_pos (by simp [mayS, pst])]
  rfl
/-- what is padded is a block -/
theorem pad_bk {ch num den adj pos frac : Int} {rest : List Int} (h : RsOK ch num den adj pos frac rest) {K n : Int} (h0 : 0 ≤ K) (h1 : K ≤ n) (h2 : n ≤ 65536) :
    BkOK ch (padS ch n (outS ch num den adj frac rest K)) ∧ frames ch (padS ch n (outS ch num den adj frac rest K)) = n := by
  have hl := outS_len h h0
  obtain ⟨p1, p2, p3⟩ := padCount_eq (d := outS ch num den adj frac rest K) (m := K) (n := n) h.b.c1 h.b.c2 h0 h1 h2 hl
  have ho := (out_ok h h0 (show K ≤ 65536 by omega)).1
  have hlen : ((padS ch n (outS ch num den adj frac rest K)).length : Int) = n * ch := by
    unfold padS
    rw [List.length_append, List.length_replicate, Int.natCast_add]
    omega
  refine BkOK.mk' h.b.c1 h.b.c2 hlen h2 ?_
  intro x hx
  unfold padS at hx
  rcases List.mem_append.1 hx with hx | hx
  · exact ho.s x hx
  · have := (List.mem_replicate.1 hx).2
    subst this
    unfold isS; omega
/-- taking from a running stream -/
theorem take_run {cap start ch num den pos frac : Int} {rest : List Int} {wr pl ms : Int} (h : StOK (pst 3 cap start ch num den pos frac rest wr pl ms)) (hpos : pos ≤ 562949953421312) {n : Int} (h0 : 0 ≤ n) (h1 : n ≤ 65536) (hpl : pl ≤ 1000000000000000000) (hms : ms ≤ 1000000000000000000) {K : Int} (hK : K = min n ((ph num den 0 frac).make (frames ch rest))) :
    takeSt (pst 3 cap start ch num den pos frac rest wr pl ms) n = ((ch, padS ch n (outS ch num den 0 frac rest K)), n - K, pst 3 cap start ch num den (pos + (ph num den 0 frac).gone K) ((ph num den 0 frac).A K % (den * 65536)) (rest.drop (goneS num den 0 frac K * ch.toNat)) wr (pl + n) (ms + (n - K)), 0) ∧
    StOK (pst 3 cap start ch num den (pos + (ph num den 0 frac).gone K) ((ph num den 0 frac).A K % (den * 65536)) (rest.drop (goneS num den 0 frac K * ch.toNat)) wr (pl + n) (ms + (n - K))) ∧
    frames ch (rest.drop (goneS num den 0 frac K * ch.toNat)) = frames ch rest - (ph num den 0 frac).gone K ∧ 0 ≤ (ph num den 0 frac).gone K ∧ (ph num den 0 frac).gone K ≤ frames ch rest ∧ 0 ≤ K ∧ K ≤ n := by
  have hm0 := (ph num den 0 frac).make_nonneg (frames ch rest)
  have hr : RsOK ch num den 0 pos frac rest := h.r
  obtain ⟨t1, t2, t3, t4, t5⟩ := takeS_ok hr hpos (n := K) (by omega) (show K ≤ (ph num den 0 frac).make (frames ch rest) by omega)
  have p0 : 0 ≤ pl := h.p0
  have m0 : 0 ≤ ms := h.m0
  have hfc : frames ch rest ≤ cap := by have := (waitS_bd h).2; rw [pst_wait h] at this; exact this
  refine ⟨?_, pst_ok t2 (by omega) (by omega) h.c0 h.c1 h.b0 h.b1 h.w0 (by omega) (by omega) (by rw [t3]; omega), t3, t4, t5, by omega, by omega⟩
  unfold takeSt
  rw [if_pos (play_is h rfl), if_neg (by omega), if_pos (show (pst 3 cap start ch num den pos frac rest wr pl ms).state = 3 from rfl)]
  have e1 : (rPh (pst 3 cap start ch num den pos frac rest wr pl ms).r).make (rFr (pst 3 cap start ch num den pos frac rest wr pl ms).r) = (ph num den 0 frac).make (frames ch rest) := rfl
  simp only [e1]
  rw [← hK]
  have e2 : rTake (pst 3 cap start ch num den pos frac rest wr pl ms).r K = ((ch, outS ch num den 0 frac rest K), nextR ch num den 0 pos frac rest K, 0) := t1
  rw [e2]
  simp only [if_true]
  unfold takenSt pst nextR
  rw [w64 (by simp only; omega) (by simp only; omega), w64 (by simp only; omega) (by simp only; omega)]
/-- taking from a draining stream -/
theorem take_drain {cap start ch num den pos frac : Int} {rest : List Int} {wr pl ms : Int} (h : StOK (pst 5 cap start ch num den pos frac rest wr pl ms)) (hpos : pos ≤ 562949953421312) {n : Int} (h0 : 0 ≤ n) (h1 : n ≤ 65536) (hpl : pl ≤ 1000000000000000000) (hms : ms ≤ 1000000000000000000) {K : Int} (hK : K = min n ((ph num den 0 frac).left (frames ch rest))) (hg : (ph num den 0 frac).gone K ≤ 562949953421312) :
    takeSt (pst 5 cap start ch num den pos frac rest wr pl ms) n = ((ch, padS ch n (outS ch num den 0 frac rest K)), 0, pst (if rest.drop (goneS num den 0 frac K * ch.toNat) = [] then 6 else 5) cap start ch num den (pos + (ph num den 0 frac).gone K) ((ph num den 0 frac).A K % (den * 65536)) (rest.drop (goneS num den 0 frac K * ch.toNat)) wr (pl + n) ms, 0) ∧
    StOK (pst (if rest.drop (goneS num den 0 frac K * ch.toNat) = [] then 6 else 5) cap start ch num den (pos + (ph num den 0 frac).gone K) ((ph num den 0 frac).A K % (den * 65536)) (rest.drop (goneS num den 0 frac K * ch.toNat)) wr (pl + n) ms) ∧
    frames ch (rest.drop (goneS num den 0 frac K * ch.toNat)) = max 0 (frames ch rest - (ph num den 0 frac).gone K) ∧ 0 ≤ (ph num den 0 frac).gone K ∧ 0 ≤ K ∧ K ≤ n := by
  have hm0 := (ph num den 0 frac).left_nonneg h.r.p.ok (frames ch rest)
  have g0 := (ph num den 0 frac).gone_nonneg h.r.p.ok (n := K) (by omega)
  have hr : RsOK ch num den 0 pos frac rest := h.r
  obtain ⟨t1, t2, t3⟩ := prodS_ok hr (n := K) (by omega) (by omega) (show pos + (ph num den 0 frac).gone K ≤ 1125899906842624 by omega)
  have p0 : 0 ≤ pl := h.p0
  have m0 : 0 ≤ ms := h.m0
  have hfc : frames ch rest ≤ cap := by have := (waitS_bd h).2; rw [pst_wait h] at this; exact this
  have cc := h.c0
  change 1 ≤ cap at cc
  refine ⟨?_, pst_ok t2 (by split <;> omega) (by split <;> omega) h.c0 h.c1 h.b0 h.b1 h.w0 (by omega) m0 (by rw [t3]; omega), t3, g0, by omega, by omega⟩
  unfold takeSt
  rw [if_pos (play_is h rfl), if_neg (by omega), if_neg (show ¬ (pst 5 cap start ch num den pos frac rest wr pl ms).state = 3 by simp [pst]), if_pos (show (pst 5 cap start ch num den pos frac rest wr pl ms).state = 5 from rfl)]
  have e2 : rFin (pst 5 cap start ch num den pos frac rest wr pl ms).r n = ((ch, outS ch num den 0 frac rest K), nextR ch num den 0 pos frac rest K, 0) := by
    refine Eq.trans ?_ t1
    rw [hK]
    exact finS_eq h.r h0 h1
  simp only [e2, if_true]
  unfold takenSt pst nextR
  simp only
  rw [w64 (by omega) (by omega), w64 (x := ms + 0) (by omega) (by omega), Int.add_zero]
theorem padS_full {ch n : Int} {d : List Int} (h : (d.length : Int) = n * ch) : padS ch n d = d := by
  unfold padS
  rw [h, Int.sub_self]; simp
theorem sane20 : f43 fuel () = some true := by kernel_rfl
end Go.Proofs.YtbfkfobfhjgphaaGreat.Sp
