/- Plain forms: which blocks, phases and resamplers are valid; loops; wraps. -/
import Derived.Test.YtbfkfobfhjgphaaSndB
import Derived.Test.YtbfkfobfhjgphaaPevB
import Derived.IntWalk
set_option linter.unusedVariables false
namespace Go.Snd
open Go Go.Pev

/-! ### loops and fuel -/
theorem loopC_spec {S R : Type} (f : S → (S → Option R) → Option R) (Inv : S → Prop) (res : S → Option R) (μ : S → Nat)
    (h : ∀ s next, Inv s → (∀ s', Inv s' → μ s' < μ s → next s' = res s') → f s next = res s) : ∀ n s, Inv s → μ s < n → loopC n f s = res s
  | 0, s, _, hμ => absurd hμ (Nat.not_lt_zero _)
  | n + 1, s, hs, hμ => h s (loopC n f) hs fun s' hs' hμ' => loopC_spec f Inv res μ h n s' hs' (by omega)

def Big (k : Nat) : Prop := 1099511627776 ≤ k
theorem Big.lt {k : Nat} (h : Big k) {n : Nat} (hn : n ≤ 1000000000000) : n < k := by unfold Big at h; omega

theorem w64 {x : Int} (h1 : -9223372036854775808 ≤ x) (h2 : x ≤ 9223372036854775807) : IntKind.wrap .i64 x = x := by
  rw [IntKind.wrap_i64]; omega
theorem w32 {x : Int} (h1 : -2147483648 ≤ x) (h2 : x ≤ 2147483647) : IntKind.wrap .i32 x = x := by
  rw [IntKind.wrap_i32]; omega
theorem tdiv_pos {a b : Int} (ha : 0 ≤ a) : Int.tdiv a b = a / b := Int.tdiv_eq_ediv_of_nonneg ha
theorem tmod_pos {a b : Int} (ha : 0 ≤ a) : Int.tmod a b = a % b := Int.tmod_eq_emod_of_nonneg ha

/-! ### ratios -/
def ratOK (num den : Int) : Bool := decide (1 ≤ num) && decide (1 ≤ den) && decide (num ≤ 68719476736) && decide (den ≤ 68719476736) && decide (Int.gcd num den = 1)
/-! ### phases -/
def phOK (num den adj pos frac : Int) : Bool :=
  ratOK num den && decide (num ≤ 768000) && decide (den ≤ 768000) && decide (-4096 ≤ adj) && decide (adj ≤ 4096) && decide (0 ≤ pos) && decide (pos ≤ 1125899906842624) && decide (0 ≤ frac) && decide (frac < den * 65536)
structure PhOK (num den adj pos frac : Int) : Prop where
  n1 : 1 ≤ num
  d1 : 1 ≤ den
  n2 : num ≤ 768000
  d2 : den ≤ 768000
  g : Int.gcd num den = 1
  a1 : -4096 ≤ adj
  a2 : adj ≤ 4096
  p0 : 0 ≤ pos
  p1 : pos ≤ 1125899906842624
  f0 : 0 ≤ frac
  f1 : frac < den * 65536
theorem phOK_iff (num den adj pos frac : Int) : phOK num den adj pos frac = true ↔ PhOK num den adj pos frac := by
  unfold phOK ratOK
  simp only [Bool.and_eq_true, decide_eq_true_eq]
  constructor
  · rintro ⟨⟨⟨⟨⟨⟨⟨⟨⟨⟨⟨⟨h1, h2⟩, h3⟩, h4⟩, h5⟩, h6⟩, h7⟩, h8⟩, h9⟩, h10⟩, h11⟩, h12⟩, h13⟩
    exact ⟨h1, h2, h6, h7, h5, h8, h9, h10, h11, h12, h13⟩
  · rintro ⟨h1, h2, h6, h7, h5, h8, h9, h10, h11, h12, h13⟩
    exact ⟨⟨⟨⟨⟨⟨⟨⟨⟨⟨⟨⟨h1, h2⟩, by omega⟩, by omega⟩, h5⟩, h6⟩, h7⟩, h8⟩, h9⟩, h10⟩, h11⟩, h12⟩, h13⟩
def ph (num den adj frac : Int) : Ph := ⟨den * 65536, num * (65536 + adj), frac⟩
theorem PhOK.ok {num den adj pos frac : Int} (h : PhOK num den adj pos frac) : (ph num den adj frac).OK :=
  ⟨by have := h.d1; show 0 < den * 65536; omega, Int.mul_pos (by have := h.n1; omega) (by have := h.a1; omega), h.f0, h.f1⟩
/-- bounds of what is computed on the way -/
theorem PhOK.step_bd {num den adj pos frac : Int} (h : PhOK num den adj pos frac) {n : Int} (hn : 0 ≤ n) (hn' : n ≤ 65536) :
    0 ≤ n * num ∧ n * num ≤ 50331648000 ∧ 0 ≤ n * num * (65536 + adj) ∧ n * num * (65536 + adj) ≤ 3504693313536000 := by
  obtain ⟨h1, h2⟩ := mul_bd hn hn' (show 0 ≤ num by have := h.n1; omega) h.n2
  obtain ⟨h3, h4⟩ := mul_bd h1 h2 (show 0 ≤ 65536 + adj by have := h.a1; omega) (show 65536 + adj ≤ 69632 by have := h.a2; omega)
  exact ⟨h1, h2, h3, h4⟩
theorem ph_A (num den adj frac n : Int) : (ph num den adj frac).A n = frac + n * num * (65536 + adj) := by
  show frac + n * (num * (65536 + adj)) = _
  rw [Int.mul_assoc]

/-! ### blocks -/
def isSb (s : Int) : Bool := decide (-8388608 ≤ s) && decide (s ≤ 8388607)
def bkOK (ch : Int) (d : List Int) : Bool := decide (1 ≤ ch) && decide (ch ≤ 8) && decide ((d.length : Int) % ch = 0) && decide ((d.length : Int) / ch ≤ 65536) && d.all isSb
structure BkOK (ch : Int) (d : List Int) : Prop where
  c1 : 1 ≤ ch
  c2 : ch ≤ 8
  m : (d.length : Int) % ch = 0
  l : (d.length : Int) / ch ≤ 65536
  s : ∀ x ∈ d, isS x
theorem bkOK_iff (ch : Int) (d : List Int) : bkOK ch d = true ↔ BkOK ch d := by
  unfold bkOK
  simp only [Bool.and_eq_true, decide_eq_true_eq, List.all_eq_true]
  constructor
  · rintro ⟨⟨⟨⟨h1, h2⟩, h3⟩, h4⟩, h5⟩
    exact ⟨h1, h2, h3, h4, fun x hx => by simpa [isSb, isS] using h5 x hx⟩
  · rintro ⟨h1, h2, h3, h4, h5⟩
    exact ⟨⟨⟨⟨h1, h2⟩, h3⟩, h4⟩, fun x hx => by simpa [isSb, isS] using h5 x hx⟩
/-- the number of frames -/
def frames (ch : Int) (d : List Int) : Int := (d.length : Int) / ch
theorem BkOK.len {ch : Int} {d : List Int} (h : BkOK ch d) : (d.length : Int) = frames ch d * ch := by
  have := Int.emod_add_ediv_mul (d.length : Int) ch
  have := h.m
  unfold frames
  omega
theorem BkOK.len_le {ch : Int} {d : List Int} (h : BkOK ch d) : (d.length : Int) ≤ 524288 := by
  have h1 := h.len
  have h2 : frames ch d ≤ 65536 := h.l
  have h3 := Int.mul_le_mul_of_nonneg_right h2 (show 0 ≤ ch by have := h.c1; omega)
  have := h.c2
  omega
theorem frames_nonneg {ch : Int} {d : List Int} (h : 1 ≤ ch) : 0 ≤ frames ch d := Int.ediv_nonneg (by omega) (by omega)

/-! ### resamplers -/
def rsOK (ch num den adj pos frac : Int) (rest : List Int) : Bool := phOK num den adj pos frac && bkOK ch rest
structure RsOK (ch num den adj pos frac : Int) (rest : List Int) : Prop where
  p : PhOK num den adj pos frac
  b : BkOK ch rest
theorem rsOK_iff (ch num den adj pos frac : Int) (rest : List Int) : rsOK ch num den adj pos frac rest = true ↔ RsOK ch num den adj pos frac rest := by
  unfold rsOK
  rw [Bool.and_eq_true, phOK_iff, bkOK_iff]
  exact ⟨fun ⟨a, b⟩ => ⟨a, b⟩, fun ⟨a, b⟩ => ⟨a, b⟩⟩
end Go.Snd
