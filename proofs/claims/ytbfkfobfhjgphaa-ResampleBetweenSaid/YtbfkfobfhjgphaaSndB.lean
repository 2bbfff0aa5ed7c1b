/- Plain arithmetic of resamplers: the frames that come out. No program in sight. -/
import Derived.Test.YtbfkfobfhjgphaaSndA
set_option linter.unusedVariables false
namespace Go.Snd

/-- sample c of frame k -/
def smp (ch : Nat) (rest : List Int) (k c : Nat) : Int := rest.getD (k * ch + c) 0
/-- output frame i; input frames after the last one are as that one -/
def fr (p : Ph) (ch : Nat) (rest : List Int) (w : Nat) (i : Nat) : List Int :=
  (List.range ch).map fun c => ip (smp ch rest (min (p.gone i).toNat (w - 1)) c) (smp ch rest (min ((p.gone i).toNat + 1) (w - 1)) c) (p.A i % p.P) p.P
def out (p : Ph) (ch : Nat) (rest : List Int) (w n : Nat) : List Int := (List.range n).flatMap (fr p ch rest w)

theorem fr_length (p : Ph) (ch : Nat) (rest : List Int) (w i : Nat) : (fr p ch rest w i).length = ch := by simp [fr]
theorem out_zero (p : Ph) (ch : Nat) (rest : List Int) (w : Nat) : out p ch rest w 0 = [] := by simp [out]
theorem out_succ (p : Ph) (ch : Nat) (rest : List Int) (w n : Nat) : out p ch rest w (n + 1) = out p ch rest w n ++ fr p ch rest w n := by
  simp [out, List.range_succ]
theorem out_length (p : Ph) (ch : Nat) (rest : List Int) (w : Nat) : ∀ n, (out p ch rest w n).length = n * ch
  | 0 => by simp [out]
  | n + 1 => by rw [out_succ, List.length_append, out_length p ch rest w n, fr_length, Nat.add_mul, Nat.one_mul]
theorem range_add (n m : Nat) : List.range (n + m) = List.range n ++ (List.range m).map (n + ·) := by
  induction m with
  | zero => simp
  | succ m ih => rw [← Nat.add_assoc, List.range_succ, ih, List.range_succ]; simp
theorem out_add (p : Ph) (ch : Nat) (rest : List Int) (w n m : Nat) : out p ch rest w (n + m) = out p ch rest w n ++ (List.range m).flatMap (fun i => fr p ch rest w (n + i)) := by
  simp [out, range_add, List.flatMap_map]
theorem flatMap_congr {α β : Type} : ∀ (l : List α) (f g : α → List β), (∀ a ∈ l, f a = g a) → l.flatMap f = l.flatMap g
  | [], _, _, _ => rfl
  | a :: l, f, g, h => by
    rw [List.flatMap_cons, List.flatMap_cons, h a (by simp), flatMap_congr l f g fun b hb => h b (by simp [hb])]
theorem out_congr (p q : Ph) (ch : Nat) (r s : List Int) (w v n : Nat) (h : ∀ i, i < n → fr p ch r w i = fr q ch s v i) : out p ch r w n = out q ch s v n :=
  flatMap_congr _ _ _ fun i hi => h i (by simpa using hi)

theorem smp_drop (ch : Nat) (rest : List Int) (g k c : Nat) : smp ch (rest.drop (g * ch)) k c = smp ch rest (k + g) c := by
  unfold smp
  rw [List.getD_eq_getElem?_getD, List.getD_eq_getElem?_getD, List.getElem?_drop]
  congr 2
  rw [Nat.add_mul]; omega
theorem smp_append (ch : Nat) (r s : List Int) (w k c : Nat) (hr : r.length = w * ch) (hk : k < w) (hc : c < ch) : smp ch (r ++ s) k c = smp ch r k c := by
  unfold smp
  rw [List.getD_eq_getElem?_getD, List.getD_eq_getElem?_getD, List.getElem?_append_left]
  rw [hr]
  calc k * ch + c < k * ch + ch := by omega
    _ = (k + 1) * ch := by rw [Nat.add_mul, Nat.one_mul]
    _ ≤ w * ch := Nat.mul_le_mul_right _ hk

/-- frames that are wholly there do not depend on what comes behind -/
theorem fr_append (p : Ph) (ch : Nat) (r s : List Int) (w v i : Nat) (hr : r.length = w * ch) (hi : (p.gone i).toNat + 1 < w) (hv : w ≤ v) : fr p ch (r ++ s) v i = fr p ch r w i := by
  unfold fr
  refine List.map_congr_left fun c hc => ?_
  have hc : c < ch := by simpa using hc
  rw [show min (p.gone i).toNat (v - 1) = (p.gone i).toNat by omega, show min (p.gone i).toNat (w - 1) = (p.gone i).toNat by omega,
    show min ((p.gone i).toNat + 1) (v - 1) = (p.gone i).toNat + 1 by omega, show min ((p.gone i).toNat + 1) (w - 1) = (p.gone i).toNat + 1 by omega,
    smp_append ch r s w _ c hr (by omega) hc, smp_append ch r s w _ c hr (by omega) hc]

/-- frames behind some that have been taken -/
theorem fr_adv (p : Ph) (h : p.OK) (ch : Nat) (rest : List Int) (w n i : Nat) (hg : (p.gone n).toNat < w) :
    fr p ch rest w (n + i) = fr (p.adv n) ch (rest.drop ((p.gone n).toNat * ch)) (w - (p.gone n).toNat) i := by
  unfold fr
  refine List.map_congr_left fun c hc => ?_
  have h1 := p.gone_adv h n i
  have h2 := p.frac_adv h n i
  have h3 := p.gone_nonneg h (show (0 : Int) ≤ n by omega)
  have h4 := (p.adv n).gone_nonneg (p.adv_ok h n) (show (0 : Int) ≤ i by omega)
  rw [smp_drop, smp_drop, show ((n + i : Nat) : Int) = (n : Int) + i by omega, h2, h1]
  have e1 : min ((p.adv n).gone i + p.gone n).toNat (w - 1) = min ((p.adv n).gone i).toNat (w - (p.gone n).toNat - 1) + (p.gone n).toNat := by omega
  have e2 : min (((p.adv n).gone i + p.gone n).toNat + 1) (w - 1) = min (((p.adv n).gone i).toNat + 1) (w - (p.gone n).toNat - 1) + (p.gone n).toNat := by omega
  rw [e1, e2]
  rfl

/-- taking in two steps, more coming in between -/
theorem out_pieces (p : Ph) (h : p.OK) (ch : Nat) (r s : List Int) (w v n m : Nat) (hr : r.length = w * ch) (hs : s.length = v * ch) (hn : p.need n ≤ w) (hnm : p.need (n + m : Nat) ≤ (w + v : Nat)) :
    out p ch (r ++ s) (w + v) (n + m) = out p ch r w n ++ out (p.adv n) ch ((r.drop ((p.gone n).toNat * ch)) ++ s) (w + v - (p.gone n).toNat) m := by
  rw [out_add]
  have hgn := p.gone_le_need h (show (0 : Int) ≤ n by omega)
  have hg0 := p.gone_nonneg h (show (0 : Int) ≤ n by omega)
  congr 1
  · refine out_congr _ _ _ _ _ _ _ _ fun i hi => ?_
    refine fr_append p ch r s w (w + v) i hr ?_ (by omega)
    have h1 := p.need_mono h (show (0 : Int) ≤ ((i : Int) + 1) by omega) (show (i : Int) + 1 ≤ n by omega)
    rw [p.need_eq (by omega), show (i : Int) + 1 - 1 = i by omega] at h1
    have h2 := p.gone_nonneg h (show (0 : Int) ≤ i by omega)
    omega
  · by_cases hm : m = 0
    · subst hm; simp [out]
    · unfold out
      refine flatMap_congr _ _ _ fun i hi => ?_
      have hi : i < m := by simpa using hi
      have h1 := p.need_mono h (show (0 : Int) ≤ ((n + m : Nat) : Int) by omega) (Int.le_refl _)
      rw [p.need_eq (show ((n + m : Nat) : Int) ≠ 0 by omega)] at h1 hnm
      have h2 := p.gone_mono h (show (n : Int) ≤ ((n + m : Nat) : Int) - 1 by omega)
      rw [fr_adv p h ch (r ++ s) (w + v) n i (by omega)]
      congr 1
      rw [List.drop_append_of_le_length]
      rw [hr]
      exact Nat.mul_le_mul_right _ (by omega)

/-- all samples come from within -/
def isS (s : Int) : Prop := -8388608 ≤ s ∧ s ≤ 8388607
theorem smp_isS (ch : Nat) (rest : List Int) (h : ∀ s ∈ rest, isS s) (k c : Nat) : isS (smp ch rest k c) := by
  unfold smp
  rw [List.getD_eq_getElem?_getD]
  cases hx : rest[k * ch + c]? with
  | none => simp [isS]
  | some s => exact h s (List.mem_of_getElem? hx)
theorem fr_isS (p : Ph) (h : p.OK) (ch : Nat) (rest : List Int) (hr : ∀ s ∈ rest, isS s) (w i : Nat) : ∀ s ∈ fr p ch rest w i, isS s := by
  intro s hs
  unfold fr at hs
  obtain ⟨c, _, rfl⟩ := List.mem_map.1 hs
  have h1 := Int.emod_nonneg (p.A i) (Int.ne_of_gt h.hP)
  have h2 := Int.emod_lt_of_pos (p.A i) h.hP
  have h3 := smp_isS ch rest hr (min (p.gone i).toNat (w - 1)) c
  have h4 := smp_isS ch rest hr (min ((p.gone i).toNat + 1) (w - 1)) c
  exact ⟨ip_ge _ _ _ _ _ h.hP h1 (Int.le_of_lt h2) h3.1 h4.1, ip_le _ _ _ _ _ h.hP h1 (Int.le_of_lt h2) h3.2 h4.2⟩
theorem out_isS (p : Ph) (h : p.OK) (ch : Nat) (rest : List Int) (hr : ∀ s ∈ rest, isS s) (w n : Nat) : ∀ s ∈ out p ch rest w n, isS s := by
  intro s hs
  obtain ⟨i, _, hi⟩ := List.mem_flatMap.1 hs
  exact fr_isS p h ch rest hr w i s hi

/-- one sample of what comes out -/
theorem out_get (p : Ph) (ch : Nat) (rest : List Int) (w : Nat) : ∀ (n i c : Nat), i < n → c < ch →
    (out p ch rest w n)[i * ch + c]? = some (ip (smp ch rest (min (p.gone i).toNat (w - 1)) c) (smp ch rest (min ((p.gone i).toNat + 1) (w - 1)) c) (p.A i % p.P) p.P)
  | 0, i, c, h, _ => absurd h (Nat.not_lt_zero _)
  | n + 1, i, c, h, hc => by
    rw [out_succ]
    by_cases hi : i < n
    · have : i * ch + c < n * ch := by
        calc i * ch + c < i * ch + ch := by omega
          _ = (i + 1) * ch := by rw [Nat.add_mul, Nat.one_mul]
          _ ≤ n * ch := Nat.mul_le_mul_right _ hi
      rw [List.getElem?_append_left (by rw [out_length]; exact this)]
      exact out_get p ch rest w n i c hi hc
    · have : i = n := by omega
      subst this
      rw [List.getElem?_append_right (by rw [out_length]; omega), out_length, Nat.add_sub_cancel_left]
      unfold fr
      rw [List.getElem?_map, List.getElem?_range hc]
      rfl

/-! ### how many frames are left at the end -/
def cdiv (a b : Int) : Int := (a + b - 1) / b
theorem lt_cdiv {a b k : Int} (hb : 0 < b) : k < cdiv a b ↔ k * b < a := by
  unfold cdiv
  rw [show (k < (a + b - 1) / b) = (k + 1 ≤ (a + b - 1) / b) from rfl, Int.le_ediv_iff_mul_le hb, Int.add_mul]
  omega
theorem cdiv_le {a b k : Int} (hb : 0 < b) : cdiv a b ≤ k ↔ a ≤ k * b := by
  have := lt_cdiv (a := a) (b := b) (k := k) hb
  omega
/-- so many frames begin ahead of the end -/
def Ph.left (p : Ph) (w : Int) : Int := if 0 < w * p.P - p.F then cdiv (w * p.P - p.F) p.S else 0
theorem Ph.left_nonneg (p : Ph) (h : p.OK) (w : Int) : 0 ≤ p.left w := by
  unfold Ph.left
  split
  · rename_i h0
    have := (lt_cdiv (a := w * p.P - p.F) (b := p.S) (k := 0) h.hS).2 (by omega)
    omega
  · omega
theorem Ph.lt_left (p : Ph) (h : p.OK) {w k : Int} (hk : 0 ≤ k) : k < p.left w ↔ p.gone k < w := by
  unfold Ph.gone
  rw [Int.ediv_lt_iff_lt_mul h.hP]
  unfold Ph.left Ph.A
  split
  · rw [lt_cdiv h.hS]; omega
  · have := Int.mul_nonneg hk (Int.le_of_lt h.hS)
    omega
/-- what can be taken is also given at the end -/
theorem Ph.make_le_left (p : Ph) (h : p.OK) {w : Int} (hw : 0 ≤ w) {n : Int} (hn : 0 ≤ n) (hnm : n ≤ p.make w) : n ≤ p.left w := by
  by_cases h0 : n = 0
  · subst h0; exact p.left_nonneg h w
  · have h1 := p.need_of_le_make h hw hn hnm
    rw [p.need_eq h0] at h1
    have := (p.lt_left h (w := w) (k := n - 1) (by omega)).2 (by omega)
    omega
/-- when all frames that begin ahead of the end have been given, all has been passed over -/
theorem Ph.gone_left (p : Ph) (h : p.OK) {w : Int} (hw : 0 ≤ w) : w ≤ p.gone (p.left w) := by
  by_cases hlt : p.gone (p.left w) < w
  · have := (p.lt_left h (w := w) (p.left_nonneg h w)).2 hlt
    omega
  · omega
theorem Ph.left_mul (p : Ph) (h : p.OK) {w : Int} (hw : 0 ≤ w) : (p.left w - 1) * p.S < w * p.P ∨ p.left w = 0 := by
  by_cases h0 : p.left w = 0
  · exact .inr h0
  · have h1 := p.left_nonneg h w
    have h2 := (p.lt_left h (w := w) (k := p.left w - 1) (by omega)).1 (by omega)
    left
    unfold Ph.gone at h2
    rw [Int.ediv_lt_iff_lt_mul h.hP] at h2
    unfold Ph.A at h2
    have := h.hF
    omega
end Go.Snd
