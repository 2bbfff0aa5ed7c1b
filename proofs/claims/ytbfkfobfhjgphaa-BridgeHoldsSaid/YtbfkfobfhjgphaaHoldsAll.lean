import Derived.Test.YtbfkfobfhjgphaaSndB
import Derived.Test.YtbfkfobfhjgphaaPevB
import Derived.Test.YtbfkfobfhjgphaaFnD2
import Derived.Test.YtbfkfobfhjgphaaSpK
import Derived.Test.YtbfkfobfhjgphaaFnTab
import Derived.Test.YtbfkfobfhjgphaaPevHand
import Derived.Laws.Externs
import Derived.Test.YtbfkfobfhjgphaaFnC2
import Derived.Test.YtbfkfobfhjgphaaLwA
/- The control loop of a bridge, in plain numbers: if transfers keep to what was declared, the fill stays near its target. No program in sight. -/
set_option linter.unusedVariables false
namespace Go.Snd

theorem mul_mono {a b c : Int} (hc : 0 ≤ c) (h : a ≤ b) : c * a ≤ c * b := Int.mul_le_mul_of_nonneg_left h hc

/-- the sums of one run -/
theorem run_sum (wd drift J Most m dv du0 du1 : Int) (hwd : 0 ≤ wd) (hd : 0 ≤ drift) (hM0 : 0 ≤ Most) (hm : 1 ≤ m)
    (h1 : 65536 * dv - 65536 * (du0 + du1) ≤ m * (wd * drift) + 65536 * J)
    (h2 : (m - 1) * (wd * 65536) - (m - 1) * (wd * drift) - 65536 * J ≤ 65536 * du1)
    (h3 : 65536 * du0 ≤ wd * 65536 + wd * drift + 65536 * J)
    (hM : 65536 * drift ≤ Most * (65536 - drift)) :
    65536 * (65536 * dv - 65536 * (du0 + du1) - Most * du1 + Most * du0) ≤ 65536 * (wd * drift) + 65536 * (wd * Most) + Most * (wd * drift) + 65536 * (J * 65536) + 131072 * (Most * J) := by
  have e2 := mul_mono hM0 h2
  have e3 := mul_mono hM0 h3
  have e4 := mul_mono (show 0 ≤ (m - 1) * wd from Int.mul_nonneg (by omega) hwd) hM
  have a1 : Most * ((m - 1) * (wd * 65536) - (m - 1) * (wd * drift) - 65536 * J) = 65536 * ((m - 1) * wd * Most) - (m - 1) * wd * (Most * drift) - 65536 * (Most * J) := by
    rw [Int.mul_sub, Int.mul_sub]
    congr 1
    · congr 1
      · ac_rfl
      · ac_rfl
    · ac_rfl
  have a2 : Most * (wd * 65536 + wd * drift + 65536 * J) = 65536 * (wd * Most) + Most * (wd * drift) + 65536 * (Most * J) := by
    rw [Int.mul_add, Int.mul_add]
    congr 1
    · congr 1
      ac_rfl
    · ac_rfl
  have a3 : (m - 1) * wd * (65536 * drift) = 65536 * ((m - 1) * (wd * drift)) := by ac_rfl
  have a4 : (m - 1) * wd * (Most * (65536 - drift)) = 65536 * ((m - 1) * wd * Most) - (m - 1) * wd * (Most * drift) := by
    rw [Int.mul_sub, Int.mul_sub]
    congr 1
    ac_rfl
  have a5 : m * (wd * drift) = (m - 1) * (wd * drift) + wd * drift := by rw [Int.sub_mul, Int.one_mul]; omega
  have a6 : Most * (65536 * du1) = 65536 * (Most * du1) := by ac_rfl
  have a7 : Most * (65536 * du0) = 65536 * (Most * du0) := by ac_rfl
  have a8 : J * 65536 = 65536 * J := Int.mul_comm _ _
  omega

/-- A bridge's run in plain numbers: 'D' the deviation before quantum k, 'F' the phase's fraction, 'a' the adjustment, 'q' what is pulled times the ratio's term, 'w' what is pushed, 'g' what is passed over. -/
structure Run (den wd drift J Most R : Int) (n : Nat) (D F a q w g SU SV : Nat → Int) : Prop where
  hden : 0 < den
  hwd : 0 ≤ wd
  hdr : 0 ≤ drift
  hJ : 0 ≤ J
  hM : 0 ≤ Most
  hM' : Most ≤ 4096
  hR : 0 ≤ R
  hq : ∀ k, 0 ≤ q k
  su : ∀ k, SU (k + 1) = SU k + q k
  sv : ∀ k, SV (k + 1) = SV k + w k * den
  start : D 0 ≤ R ∧ -R ≤ D 0
  up : ∀ i j : Nat, i < j → j ≤ n → 65536 * (SU j - SU i) ≤ ((j : Int) - i) * (wd * 65536) + ((j : Int) - i) * (wd * drift) + 65536 * J
  low : ∀ i j : Nat, i < j → j ≤ n → ((j : Int) - i) * (wd * 65536) - ((j : Int) - i) * (wd * drift) - 65536 * J ≤ 65536 * (SU j - SU i)
  vu : ∀ i j : Nat, i < j → j ≤ n → 65536 * (SV j - SV i) - 65536 * (SU j - SU i) ≤ ((j : Int) - i) * (wd * drift) + 65536 * J
  uv : ∀ i j : Nat, i < j → j ≤ n → 65536 * (SU j - SU i) - 65536 * (SV j - SV i) ≤ ((j : Int) - i) * (wd * drift) + 65536 * J
  gain : 65536 * drift ≤ Most * (65536 - drift)

/-- what one quantum does -/
structure Quantum (den Most R D D' F F' a q w g : Int) : Prop where
  f0 : 0 ≤ F
  f1 : F < den * 65536
  f0' : 0 ≤ F'
  f1' : F' < den * 65536
  fg : F' + den * 65536 * g = F + q * (65536 + a)
  dd : D' = D - g + w
  a0 : -Most ≤ a
  a1 : a ≤ Most
  hi : R < D → a = Most
  lo : D < -R → a = -Most

theorem Quantum.level {den Most R D D' F F' a q w g : Int} (h : Quantum den Most R D D' F F' a q w g) : den * 65536 * D' - F' = den * 65536 * D - F + 65536 * (w * den) - 65536 * q - q * a := by
  have h1 := h.fg
  rw [h.dd, Int.mul_add, Int.mul_sub]
  rw [Int.mul_add, Int.mul_comm q 65536] at h1
  have : den * 65536 * w = 65536 * (w * den) := by ac_rfl
  omega

theorem Run.inv_up {den wd drift J Most R : Int} {n : Nat} {D F a q w g SU SV : Nat → Int} (h : Run den wd drift J Most R n D F a q w g SU SV) : ∀ j : Nat, j ≤ n →
    (∀ k, k < j → Quantum den Most R (D k) (D (k + 1)) (F k) (F (k + 1)) (a k) (q k) (w k) (g k)) →
    ∃ i, i ≤ j ∧ D i ≤ R ∧ (i < j → den * 65536 * D j - F j ≤ den * 65536 * R + 65536 * (SV j - SV i) - 65536 * (SU j - SU i) - Most * (SU j - SU (i + 1)) + Most * (SU (i + 1) - SU i))
  | 0, _, _ => ⟨0, Nat.le_refl _, h.start.1, fun hh => absurd hh (Nat.lt_irrefl _)⟩
  | j + 1, hj, hk => by
    obtain ⟨i, h1, h2, h3⟩ := Run.inv_up h j (by omega) fun k hk' => hk k (by omega)
    have hq := hk j (by omega)
    have hlev := hq.level
    have hqn := h.hq j
    have hsu := h.su j
    have hsv := h.sv j
    by_cases hD : D j ≤ R
    · refine ⟨j, by omega, hD, fun _ => ?_⟩
      have e1 := mul_mono (show 0 ≤ den * 65536 by have := h.hden; omega) hD
      have e2 := mul_mono hqn hq.a0
      have e3 : q j * -Most = -(Most * q j) := by rw [Int.mul_neg, Int.mul_comm]
      have e4 : SU (j + 1) - SU j = q j := by omega
      have e5 : SV (j + 1) - SV j = w j * den := by omega
      rw [e4, e5, Int.sub_self, Int.mul_zero]
      have := hq.f0
      omega
    · have hij : i < j := by
        rcases Nat.lt_or_ge i j with hh | hh
        · exact hh
        · have : i = j := by omega
          subst this; exact absurd h2 hD
      refine ⟨i, by omega, h2, fun _ => ?_⟩
      have ha := hq.hi (by omega)
      have h4 := h3 hij
      rw [ha] at hlev
      have e1 : Most * (SU (j + 1) - SU (i + 1)) = Most * (SU j - SU (i + 1)) + q j * Most := by
        rw [hsu, show SU j + q j - SU (i + 1) = (SU j - SU (i + 1)) + q j by omega, Int.mul_add, Int.mul_comm Most (q j)]
      rw [e1]
      omega

theorem Run.inv_low {den wd drift J Most R : Int} {n : Nat} {D F a q w g SU SV : Nat → Int} (h : Run den wd drift J Most R n D F a q w g SU SV) : ∀ j : Nat, j ≤ n →
    (∀ k, k < j → Quantum den Most R (D k) (D (k + 1)) (F k) (F (k + 1)) (a k) (q k) (w k) (g k)) →
    ∃ i, i ≤ j ∧ -R ≤ D i ∧ (i < j → den * 65536 * (-R) - den * 65536 + 65536 * (SV j - SV i) - 65536 * (SU j - SU i) + Most * (SU j - SU (i + 1)) - Most * (SU (i + 1) - SU i) < den * 65536 * D j - F j)
  | 0, _, _ => ⟨0, Nat.le_refl _, h.start.2, fun hh => absurd hh (Nat.lt_irrefl _)⟩
  | j + 1, hj, hk => by
    obtain ⟨i, h1, h2, h3⟩ := Run.inv_low h j (by omega) fun k hk' => hk k (by omega)
    have hq := hk j (by omega)
    have hlev := hq.level
    have hqn := h.hq j
    have hsu := h.su j
    have hsv := h.sv j
    by_cases hD : -R ≤ D j
    · refine ⟨j, by omega, hD, fun _ => ?_⟩
      have e1 := mul_mono (show 0 ≤ den * 65536 by have := h.hden; omega) hD
      have e2 := mul_mono hqn hq.a1
      have e3 : q j * Most = Most * q j := Int.mul_comm _ _
      have e4 : SU (j + 1) - SU j = q j := by omega
      have e5 : SV (j + 1) - SV j = w j * den := by omega
      rw [e4, e5, Int.sub_self, Int.mul_zero]
      have := hq.f1
      omega
    · have hij : i < j := by
        rcases Nat.lt_or_ge i j with hh | hh
        · exact hh
        · have : i = j := by omega
          subst this; exact absurd h2 hD
      refine ⟨i, by omega, h2, fun _ => ?_⟩
      have ha := hq.lo (by omega)
      have h4 := h3 hij
      rw [ha, Int.mul_neg] at hlev
      have e1 : Most * (SU (j + 1) - SU (i + 1)) = Most * (SU j - SU (i + 1)) + q j * Most := by
        rw [hsu, show SU j + q j - SU (i + 1) = (SU j - SU (i + 1)) + q j by omega, Int.mul_add, Int.mul_comm Most (q j)]
      rw [e1]
      omega

/-- what the sums leave: at most so many frames -/
theorem sums_bound {den wd drift J Most B jit X : Int} (hden : 0 < den) (hwd : 0 ≤ wd) (hdr : 0 ≤ drift) (hJ : 0 ≤ J) (hM : 0 ≤ Most) (hM' : Most ≤ 4096)
    (hB : 2 * (wd * (drift + Most)) ≤ den * (65536 * B)) (hj : J = jit * den)
    (h : 65536 * X ≤ 65536 * (wd * drift) + 65536 * (wd * Most) + Most * (wd * drift) + 65536 * (J * 65536) + 131072 * (Most * J)) : X ≤ den * 65536 * (B + 2 * jit) := by
  have e1 := Int.mul_le_mul_of_nonneg_right hM' (Int.mul_nonneg hwd hdr)
  have e2 := Int.mul_le_mul_of_nonneg_right hM' hJ
  have e3 : wd * (drift + Most) = wd * drift + wd * Most := Int.mul_add _ _ _
  have e4 : den * (65536 * B) = den * 65536 * B := by rw [Int.mul_assoc]
  have e5 : den * 65536 * (B + 2 * jit) = den * 65536 * B + 131072 * (jit * den) := by
    rw [Int.mul_add]
    congr 1
    calc den * 65536 * (2 * jit) = (65536 * 2) * (jit * den) := by ac_rfl
      _ = 131072 * (jit * den) := rfl
  have e6 := Int.mul_nonneg hwd hdr
  have e7 := Int.mul_nonneg hwd hM
  rw [e5, ← hj]
  rw [e3, e4] at hB
  generalize wd * drift = p1 at *
  generalize wd * Most = p2 at *
  generalize Most * p1 = p3 at *
  generalize Most * J = p4 at *
  generalize den * 65536 * B = p5 at *
  omega

theorem Run.bound {den wd drift J Most R B jit : Int} {n : Nat} {D F a q w g SU SV : Nat → Int} (h : Run den wd drift J Most R n D F a q w g SU SV)
    (hB : 2 * (wd * (drift + Most)) ≤ den * (65536 * B)) (hB0 : 0 ≤ B) (hj0 : 0 ≤ jit) (hj : J = jit * den) (j : Nat) (hjn : j ≤ n) (hF : 0 ≤ F j ∧ F j < den * 65536)
    (hk : ∀ k, k < j → Quantum den Most R (D k) (D (k + 1)) (F k) (F (k + 1)) (a k) (q k) (w k) (g k)) :
    D j ≤ R + B + 2 * jit ∧ -(R + B + 2 * jit) ≤ D j := by
  have hP : 0 < den * 65536 := by have := h.hden; omega
  constructor
  · obtain ⟨i, h1, h2, h3⟩ := h.inv_up j hjn hk
    rcases Nat.lt_or_ge i j with hij | hij
    · have h4 := h3 hij
      have hsum := run_sum wd drift J Most ((j : Int) - i) (SV j - SV i) (SU (i + 1) - SU i) (SU j - SU (i + 1)) h.hwd h.hdr h.hM (by omega)
        (by have := h.vu i j hij hjn; omega)
        (by
          rcases Nat.lt_or_ge (i + 1) j with hh | hh
          · have := h.low (i + 1) j hh hjn
            rw [show ((j : Int) - ((i + 1 : Nat) : Int)) = (j : Int) - i - 1 by omega] at this
            exact this
          · have : j = i + 1 := by omega
            subst this
            have := h.hJ
            rw [show (((i + 1 : Nat) : Int) - i - 1) = 0 by omega]
            simp
            omega)
        (by
          have := h.up i (i + 1) (by omega) (by omega)
          rw [show (((i + 1 : Nat) : Int) - i) = 1 by omega, Int.one_mul, Int.one_mul] at this
          exact this)
        h.gain
      have h5 := sums_bound h.hden h.hwd h.hdr h.hJ h.hM h.hM' hB hj hsum
      rw [show SU (i + 1) - SU i + (SU j - SU (i + 1)) = SU j - SU i by omega] at h5
      have h6 : den * 65536 * D j < den * 65536 * (R + B + 2 * jit + 1) := by
        rw [show R + B + 2 * jit + 1 = R + (B + 2 * jit) + 1 by omega, Int.mul_add, Int.mul_add, Int.mul_one]
        omega
      have := Int.lt_of_mul_lt_mul_left h6 (by omega)
      omega
    · have : i = j := by omega
      subst this; omega
  · obtain ⟨i, h1, h2, h3⟩ := h.inv_low j hjn hk
    rcases Nat.lt_or_ge i j with hij | hij
    · have h4 := h3 hij
      have hsum := run_sum wd drift J Most ((j : Int) - i) (-(SV j - SV i) + 2 * (SU j - SU i)) (SU (i + 1) - SU i) (SU j - SU (i + 1)) h.hwd h.hdr h.hM (by omega)
        (by have := h.uv i j hij hjn; omega)
        (by
          rcases Nat.lt_or_ge (i + 1) j with hh | hh
          · have := h.low (i + 1) j hh hjn
            rw [show ((j : Int) - ((i + 1 : Nat) : Int)) = (j : Int) - i - 1 by omega] at this
            exact this
          · have : j = i + 1 := by omega
            subst this
            have := h.hJ
            rw [show (((i + 1 : Nat) : Int) - i - 1) = 0 by omega]
            simp
            omega)
        (by
          have := h.up i (i + 1) (by omega) (by omega)
          rw [show (((i + 1 : Nat) : Int) - i) = 1 by omega, Int.one_mul, Int.one_mul] at this
          exact this)
        h.gain
      have h5 := sums_bound h.hden h.hwd h.hdr h.hJ h.hM h.hM' hB hj hsum
      rw [show SU (i + 1) - SU i + (SU j - SU (i + 1)) = SU j - SU i by omega] at h5
      have h6 : den * 65536 * (-(R + B + 2 * jit + 1)) < den * 65536 * D j := by
        rw [show -(R + B + 2 * jit + 1) = -R - (B + 2 * jit) - 1 by omega, Int.mul_sub, Int.mul_sub, Int.mul_one]
        have := hF.1
        omega
      have := Int.lt_of_mul_lt_mul_left h6 (by omega)
      omega
    · have : i = j := by omega
      subst this; omega
end Go.Snd

/- The Lean form of bits.Add64, whose contract is proved by hand. -/
set_option linter.unusedVariables false
namespace Go.Proofs.Ytbfkfobfhjgphaa.Fn
open Go Go.Pev Go.Proofs
noncomputable def f151 (k : Nat) (x : Int × Int × Int) : Option (Int × Int) := bif decide (0 ≤ x.1) && decide (0 ≤ x.2.1) && decide (0 ≤ x.2.2) && decide (x.2.2 ≤ 1) then some ((x.1 + x.2.1 + x.2.2) % 18446744073709551616, (x.1 + x.2.1 + x.2.2) / 18446744073709551616) else none
end Go.Proofs.Ytbfkfobfhjgphaa.Fn

/- The functions of the given program as Lean functions. Printed by a program of this session. -/
set_option linter.unusedVariables false
set_option maxRecDepth 100000
namespace Go.Proofs.Ytbfkfobfhjgphaa.Fn
open Go Go.Pev Go.Proofs
/-- math/bits.Mul64 -/
noncomputable def f150 (k : Nat) (x : Int × Int) : Option (Int × Int) :=
  some ((IntKind.wrap .u64 ((IntKind.wrap .u64 ((IntKind.wrap .u64 ((Int.fdiv x.1 (2 ^ (min (Int.toNat (32 : Int)) (IntKind.bits .u64)))) * (Int.fdiv x.2 (2 ^ (min (Int.toNat (32 : Int)) (IntKind.bits .u64)))))) + (Int.fdiv (IntKind.wrap .u64 ((IntKind.wrap .u64 ((Int.fdiv x.1 (2 ^ (min (Int.toNat (32 : Int)) (IntKind.bits .u64)))) * (IntKind.wrap .u64 ((BitVec.ofInt (IntKind.bits .u64) x.2 &&& BitVec.ofInt (IntKind.bits .u64) (4294967295 : Int)).toNat : Int)))) + (Int.fdiv (IntKind.wrap .u64 ((IntKind.wrap .u64 ((BitVec.ofInt (IntKind.bits .u64) x.1 &&& BitVec.ofInt (IntKind.bits .u64) (4294967295 : Int)).toNat : Int)) * (IntKind.wrap .u64 ((BitVec.ofInt (IntKind.bits .u64) x.2 &&& BitVec.ofInt (IntKind.bits .u64) (4294967295 : Int)).toNat : Int)))) (2 ^ (min (Int.toNat (32 : Int)) (IntKind.bits .u64)))))) (2 ^ (min (Int.toNat (32 : Int)) (IntKind.bits .u64)))))) + (Int.fdiv (IntKind.wrap .u64 ((IntKind.wrap .u64 ((BitVec.ofInt (IntKind.bits .u64) (IntKind.wrap .u64 ((IntKind.wrap .u64 ((Int.fdiv x.1 (2 ^ (min (Int.toNat (32 : Int)) (IntKind.bits .u64)))) * (IntKind.wrap .u64 ((BitVec.ofInt (IntKind.bits .u64) x.2 &&& BitVec.ofInt (IntKind.bits .u64) (4294967295 : Int)).toNat : Int)))) + (Int.fdiv (IntKind.wrap .u64 ((IntKind.wrap .u64 ((BitVec.ofInt (IntKind.bits .u64) x.1 &&& BitVec.ofInt (IntKind.bits .u64) (4294967295 : Int)).toNat : Int)) * (IntKind.wrap .u64 ((BitVec.ofInt (IntKind.bits .u64) x.2 &&& BitVec.ofInt (IntKind.bits .u64) (4294967295 : Int)).toNat : Int)))) (2 ^ (min (Int.toNat (32 : Int)) (IntKind.bits .u64)))))) &&& BitVec.ofInt (IntKind.bits .u64) (4294967295 : Int)).toNat : Int)) + (IntKind.wrap .u64 ((IntKind.wrap .u64 ((BitVec.ofInt (IntKind.bits .u64) x.1 &&& BitVec.ofInt (IntKind.bits .u64) (4294967295 : Int)).toNat : Int)) * (Int.fdiv x.2 (2 ^ (min (Int.toNat (32 : Int)) (IntKind.bits .u64)))))))) (2 ^ (min (Int.toNat (32 : Int)) (IntKind.bits .u64)))))), (IntKind.wrap .u64 (x.1 * x.2)))
/-- soundservice/soundserviceref18.times -/
noncomputable def f115 (k : Nat) (x : Int × Int × Int) : Option (Int × Int) :=
  Option.bind (f150 k (x.1, x.2.1)) fun r1 =>
  Option.bind (f150 k (r1.2, x.2.2)) fun r2 =>
  some ((IntKind.wrap .u64 ((IntKind.wrap .u64 (r1.1 * x.2.2)) + r2.1)), r2.2)
/-- soundservice/soundserviceref18.plus -/
noncomputable def f116 (k : Nat) (x : (Int × Int) × Int × Int) : Option (Int × Int) :=
  Option.bind (f151 k (x.1.2, x.2.2, (0 : Int))) fun r1 =>
  Option.bind (f151 k (x.1.1, x.2.1, r1.2)) fun r2 =>
  some (r2.1, r1.1)
/-- soundservice/soundserviceref18.more -/
noncomputable def f152 (k : Nat) (x : (Int × Int) × Int × Int) : Option (Bool) :=
  bif (decide (x.1.1 > x.2.1)) then
    some true
  else
  bif (x.1.1 == x.2.1) then
    some (decide (x.1.2 > x.2.2))
  else
    some false
/-- soundservice/soundserviceref18.near -/
noncomputable def f117 (k : Nat) (x : (Int × Int) × (Int × Int) × Int × Int) : Option (Bool) :=
  Option.bind (f116 k x.2) fun r1 =>
  Option.bind (f152 k (x.1, r1)) fun r2 =>
  bif (!r2) then
    Option.bind (f116 k (x.1, x.2.2)) fun r3 =>
    Option.bind (f152 k (x.2.1, r3)) fun r4 =>
    some (!r4)
  else
    some false
/-- soundservice/soundserviceref18.Declared -/
noncomputable def L67_4 (k : Nat) {R : Type} (K0 : Bool → Option R) (K1 : (Int × Int × (List (Int × Int)) × (Int × Int) × Int × Int) → Option R) (y : Int × Int × (List (Int × Int)) × (List (Int × Int)) × Int × Int × (Int × Int) × Int × Int) (next : (Int × Int × (List (Int × Int)) × (List (Int × Int)) × Int × Int × (Int × Int) × Int × Int) → Option R) : Option R :=
  bif (decide (y.2.2.2.2.2.1 < y.2.2.2.2.1)) then
    bif (decide (0 ≤ y.2.2.2.2.2.1) && decide (y.2.2.2.2.2.1 < ((y.2.2.2.1).length : Int))) then
      bif (decide (((y.2.2.2.1).getD (y.2.2.2.2.2.1).toNat ((0 : Int), (0 : Int))).1 < (0 : Int))) then
        K0 false
      else
      bif (decide (((y.2.2.2.1).getD (y.2.2.2.2.2.1).toNat ((0 : Int), (0 : Int))).1 > (65536 : Int))) then
        K0 false
      else
      bif (decide (((y.2.2.2.1).getD (y.2.2.2.2.2.1).toNat ((0 : Int), (0 : Int))).2 < (0 : Int))) then
        K0 false
      else
      bif (decide (((y.2.2.2.1).getD (y.2.2.2.2.2.1).toNat ((0 : Int), (0 : Int))).2 > (65536 : Int))) then
        K0 false
      else
        next (y.1, y.2.1, y.2.2.1, y.2.2.2.1, y.2.2.2.2.1, (IntKind.wrap .i64 (y.2.2.2.2.2.1 + (1 : Int))), y.2.2.2.2.2.2)
    else
      none
  else
    K1 (y.1, y.2.1, y.2.2.1, y.2.2.2.2.2.2)
noncomputable def L67_15 (k : Nat) {R : Type} (K0 : Bool → Option R) (K1 : (Int × Int × (List (Int × Int)) × Int × Int × Int × Int × Int × Int × Int) → Option R) (y : Int × Int × (List (Int × Int)) × Int × Int × Int × Int × Int × Int × Int × (List (Int × Int)) × Int × Int × Int × Int) (next : (Int × Int × (List (Int × Int)) × Int × Int × Int × Int × Int × Int × Int × (List (Int × Int)) × Int × Int × Int × Int) → Option R) : Option R :=
  bif (decide (y.2.2.2.2.2.2.2.2.2.2.2.2.1 < y.2.2.2.2.2.2.2.2.2.2.2.1)) then
    bif (decide (0 ≤ y.2.2.2.2.2.2.2.2.2.2.2.2.1) && decide (y.2.2.2.2.2.2.2.2.2.2.2.2.1 < ((y.2.2.2.2.2.2.2.2.2.2.1).length : Int))) then
      Option.bind (f115 k ((IntKind.wrap .u64 ((IntKind.wrap .u64 (y.2.2.2.2.2.2.1 + (IntKind.wrap .u64 ((y.2.2.2.2.2.2.2.2.2.2.1).getD (y.2.2.2.2.2.2.2.2.2.2.2.2.1).toNat ((0 : Int), (0 : Int))).1))) * (IntKind.wrap .u64 y.2.2.2.2.2.2.2.2.2.2.2.2.2.1))), y.2.2.2.2.2.1, (65536 : Int))) fun r5 =>
      Option.bind (f115 k ((IntKind.wrap .u64 ((IntKind.wrap .u64 (y.2.2.2.2.2.2.2.1 + (IntKind.wrap .u64 ((y.2.2.2.2.2.2.2.2.2.2.1).getD (y.2.2.2.2.2.2.2.2.2.2.2.2.1).toNat ((0 : Int), (0 : Int))).2))) * y.2.2.2.1)), y.2.2.2.2.2.1, (65536 : Int))) fun r6 =>
      Option.bind (f115 k ((IntKind.wrap .u64 ((IntKind.wrap .u64 (IntKind.wrap .i64 (y.2.2.2.2.2.2.2.2.2.2.2.2.1 + (1 : Int)))) * y.2.2.2.2.1)), y.2.2.2.1, (65536 : Int))) fun r7 =>
      Option.bind (f115 k ((IntKind.wrap .u64 ((IntKind.wrap .u64 (IntKind.wrap .i64 (y.2.2.2.2.2.2.2.2.2.2.2.2.1 + (1 : Int)))) * y.2.2.2.2.1)), y.2.2.2.1, (IntKind.wrap .u64 y.1))) fun r8 =>
      Option.bind (f115 k ((IntKind.wrap .u64 ((IntKind.wrap .u64 y.2.1) * y.2.2.2.1)), y.2.2.2.2.2.1, (65536 : Int))) fun r9 =>
      Option.bind (f116 k (r8, r9)) fun r10 =>
      Option.bind (f117 k (r5, r7, r10)) fun r11 =>
      bif (!r11) then
        K0 false
      else
        Option.bind (f117 k (r6, r7, r10)) fun r12 =>
        bif (!r12) then
          K0 false
        else
          Option.bind (f117 k (r5, r6, r10)) fun r13 =>
          bif (!r13) then
            K0 false
          else
            next (y.1, y.2.1, y.2.2.1, y.2.2.2.1, y.2.2.2.2.1, y.2.2.2.2.2.1, (IntKind.wrap .u64 (y.2.2.2.2.2.2.1 + (IntKind.wrap .u64 ((y.2.2.2.2.2.2.2.2.2.2.1).getD (y.2.2.2.2.2.2.2.2.2.2.2.2.1).toNat ((0 : Int), (0 : Int))).1))), (IntKind.wrap .u64 (y.2.2.2.2.2.2.2.1 + (IntKind.wrap .u64 ((y.2.2.2.2.2.2.2.2.2.2.1).getD (y.2.2.2.2.2.2.2.2.2.2.2.2.1).toNat ((0 : Int), (0 : Int))).2))), y.2.2.2.2.2.2.2.2.1, y.2.2.2.2.2.2.2.2.2.1, y.2.2.2.2.2.2.2.2.2.2.1, y.2.2.2.2.2.2.2.2.2.2.2.1, (IntKind.wrap .i64 (y.2.2.2.2.2.2.2.2.2.2.2.2.1 + (1 : Int))), y.2.2.2.2.2.2.2.2.2.2.2.2.2)
    else
      none
  else
    K1 (y.1, y.2.1, y.2.2.1, y.2.2.2.1, y.2.2.2.2.1, y.2.2.2.2.2.1, y.2.2.2.2.2.2.2.2.1, y.2.2.2.2.2.2.2.2.2.1, y.2.2.2.2.2.2.2.2.2.2.2.2.2)
noncomputable def L67_11 (k : Nat) {R : Type} (K0 : Bool → Option R) (K1 : Unit → Option R) (y : Int × Int × (List (Int × Int)) × Int × Int × Int × Int × Int × Int × Int) (next : (Int × Int × (List (Int × Int)) × Int × Int × Int × Int × Int × Int × Int) → Option R) : Option R :=
  bif (decide (y.2.2.2.2.2.2.2.1 < y.2.2.2.2.2.2.1)) then
    bif (decide (0 ≤ y.2.2.2.2.2.2.2.1) && decide (y.2.2.2.2.2.2.2.1 ≤ (((y.2.2.1).length : Int))) && decide ((((y.2.2.1).length : Int)) ≤ (((y.2.2.1).length : Int))) && decide ((((y.2.2.1).length : Int)) ≤ (((y.2.2.1).length : Int)))) then
      loopC k (L67_15 k
        (fun z14 =>
          K0 z14)
        (fun z15 =>
          next (z15.1, z15.2.1, z15.2.2.1, z15.2.2.2.1, z15.2.2.2.2.1, z15.2.2.2.2.2.1, z15.2.2.2.2.2.2.1, (IntKind.wrap .i64 (z15.2.2.2.2.2.2.2.1 + (1 : Int))), z15.2.2.2.2.2.2.2.2)))
        (y.1, y.2.1, y.2.2.1, y.2.2.2.1, y.2.2.2.2.1, y.2.2.2.2.2.1, (0 : Int), (0 : Int), y.2.2.2.2.2.2.1, y.2.2.2.2.2.2.2.1, (((y.2.2.1).take ((((y.2.2.1).length : Int))).toNat).drop (y.2.2.2.2.2.2.2.1).toNat), ((((((y.2.2.1).take ((((y.2.2.1).length : Int))).toNat).drop (y.2.2.2.2.2.2.2.1).toNat)).length : Int)), (0 : Int), y.2.2.2.2.2.2.2.2)
    else
      none
  else
    K1 ()
noncomputable def f67 (k : Nat) (x : (Int × Int) × (Int × Int) × Int × Int × List (Int × Int)) : Option (Bool) :=
  Option.bind (f113 k x.1) fun r1 =>
  bif (!r1) then
    some false
  else
  bif (decide (x.1.1 > (768000 : Int))) then
    some false
  else
  bif (decide (x.1.2 > (768000 : Int))) then
    some false
  else
    Option.bind (f114 k x.2.1) fun r2 =>
    bif (!r2) then
      some false
    else
    bif (decide (x.2.2.1 < (0 : Int))) then
      some false
    else
    bif (decide (x.2.2.1 > (4096 : Int))) then
      some false
    else
    bif (decide (x.2.2.2.1 < (0 : Int))) then
      some false
    else
    bif (decide (x.2.2.2.1 > (65536 : Int))) then
      some false
    else
    bif (decide ((((x.2.2.2.2).length : Int)) > (256 : Int))) then
      some false
    else
      loopC k (L67_4 k
        (fun z3 =>
          some z3)
        (fun z4 =>
          loopC k (L67_11 k
            (fun z16 =>
              some z16)
            (fun z17 =>
              some true))
            (z4.1, z4.2.1, z4.2.2.1, (IntKind.wrap .u64 z4.2.2.2.1.2), (IntKind.wrap .u64 z4.2.2.2.2.1), (IntKind.wrap .u64 z4.2.2.2.2.2), (((z4.2.2.1).length : Int)), (0 : Int), z4.2.2.2.1)))
        (x.2.2.1, x.2.2.2.1, x.2.2.2.2, x.2.2.2.2, (((x.2.2.2.2).length : Int)), (0 : Int), x.1, x.2.1)
/-- soundservice/soundservicelaw19.BridgeHolds -/
noncomputable def L14_14 (k : Nat) {R : Type} (K0 : Bool → Option R) (K1 : (Int × Int × Int × Int × Int × Int × Int × Int × Int × Int × Int × List (Int) × Int × Int) → Option R) (y : Int × (List (Int × Int)) × Int × Int × (Int × Int × Int × Int) × Int × Int × Int × Int × Int × Int × Int × Int × Int × Int × Int × List (Int) × Int × Int) (next : (Int × (List (Int × Int)) × Int × Int × (Int × Int × Int × Int) × Int × Int × Int × Int × Int × Int × Int × Int × Int × Int × Int × List (Int) × Int × Int) → Option R) : Option R :=
  bif (decide (y.2.2.2.1 < y.2.2.1)) then
    bif (decide (0 ≤ y.2.2.2.1) && decide (y.2.2.2.1 < ((y.2.1).length : Int))) then
      Option.bind (f59 k y.2.2.2.2.2) fun r9 =>
      bif (decide ((IntKind.wrap .i64 (r9 - y.2.2.2.2.1.1)) > y.1)) then
        K0 false
      else
      bif (decide ((IntKind.wrap .i64 (y.2.2.2.2.1.1 - r9)) > y.1)) then
        K0 false
      else
        Option.bind (f55 k (y.2.2.2.2.2, ((y.2.1).getD (y.2.2.2.1).toNat ((0 : Int), (0 : Int))).1)) fun r10 =>
        Option.bind (f24 k (y.2.2.2.1, (1 : Int), (0 : Int), ((y.2.1).getD (y.2.2.2.1).toNat ((0 : Int), (0 : Int))).2)) fun r11 =>
        Option.bind (f52 k (r10.2.2.1, r11)) fun r12 =>
        bif (r10.2.2.2 != (0 : Int)) then
          K0 false
        else
        bif (r12.2.2 != (0 : Int)) then
          K0 false
        else
        bif (r10.2.1 != (0 : Int)) then
          K0 false
        else
        bif (r12.2.1 != (0 : Int)) then
          K0 false
        else
          next (y.1, y.2.1, y.2.2.1, (IntKind.wrap .i64 (y.2.2.2.1 + (1 : Int))), y.2.2.2.2.1, r12.1)
    else
      none
  else
    K1 y.2.2.2.2.2
noncomputable def f14 (k : Nat) (x : List (Int) × Int × Int × Int) : Option (Bool) :=
  Option.bind (f49 k ()) fun r1 =>
  bif (!r1) then
    some false
  else
    Option.bind (f22 k x.1) fun r2 =>
    Option.bind (f65 k (r2, (40 : Int))) fun r3 =>
    Option.bind (f66 k ((r3.1.2.2.1, r3.1.2.2.2.1), r3.1.2.2.2.2.1, r3.1.2.2.2.2.2.1, (IntKind.wrap .i64 (Int.tmod x.2.1 (40 : Int))), (IntKind.wrap .i64 ((1 : Int) + (IntKind.wrap .i64 x.2.2.1))))) fun r4 =>
    bif (r4.2.2 != (0 : Int)) then
      some true
    else
      Option.bind (f67 k ((r3.1.1, r3.1.2.1), (r3.1.2.2.1, r3.1.2.2.2.1), r3.1.2.2.2.2)) fun r5 =>
      bif (!r5) then
        some true
      else
        Option.bind (f68 k ((r3.1.2.2.1, r3.1.2.2.2.1), r3.1.2.2.2.2.1, r3.1.2.2.2.2.2.1)) fun r6 =>
        bif ((IntKind.wrap .i64 (r6 + (1 : Int))) == 0) then
          none
        else
          Option.bind (f69 k (r4.1, (r3.1.2.2.1, r3.1.2.2.2.1), r3.1.2.2.2.2.1, r3.1.2.2.2.2.2.1, r6)) fun r7 =>
          Option.bind (f61 k ((1 : Int), (r3.1.1, r3.1.2.1), r4.1, r4.2.1, (IntKind.wrap .i64 (r4.1.1 + (Int.tmod (IntKind.wrap .i64 x.2.2.2) (IntKind.wrap .i64 (r6 + (1 : Int)))))))) fun r8 =>
          bif (r7.2 != (0 : Int)) then
            some false
          else
          bif (r8.2 != (0 : Int)) then
            some false
          else
            loopC k (L14_14 k
              (fun z13 =>
                some z13)
              (fun z14 =>
                bif (z14.2.2.2.2.2.2.2.2.2.2.2.2.1 == (0 : Int)) then
                  some (z14.2.2.2.2.2.2.2.2.2.2.2.2.2 == (0 : Int))
                else
                  some false))
              (r7.1, r3.1.2.2.2.2.2.2, (((r3.1.2.2.2.2.2.2).length : Int)), (0 : Int), r4.1, r8.1)
end Go.Proofs.Ytbfkfobfhjgphaa.Fn

/- What the reference's control does, in plain words, and what made traffic is. -/
set_option linter.unusedVariables false
set_option linter.unusedSimpArgs false
namespace Go.Proofs.Ytbfkfobfhjgphaa.Sp
open Go Go.Pev Go.Snd Go.Proofs.Ytbfkfobfhjgphaa.Fn

/-! ### whether transfers keep to what was declared: the function always answers -/
def U64 (x : Int) : Prop := 0 ≤ x ∧ x < 18446744073709551616
theorem u64_wrap (x : Int) : U64 (IntKind.wrap .u64 x) := by
  unfold U64 IntKind.wrap
  simp [IntKind.signed, IntKind.bits]
  omega
theorem s150 (k : Nat) (x : Int × Int) : ∃ r, f150 k x = some r ∧ U64 r.1 ∧ U64 r.2 := ⟨_, rfl, u64_wrap _, u64_wrap _⟩
theorem s115 (k : Nat) (x : Int × Int × Int) : ∃ r, f115 k x = some r ∧ U64 r.1 ∧ U64 r.2 := by
  unfold f115
  obtain ⟨r1, e1, a1, b1⟩ := s150 k (x.1, x.2.1)
  obtain ⟨r2, e2, a2, b2⟩ := s150 k (r1.2, x.2.2)
  rw [e1, Option.bind_some, e2, Option.bind_some]
  exact ⟨_, rfl, u64_wrap _, b2⟩
theorem s116 (k : Nat) (x : (Int × Int) × Int × Int) (h1 : U64 x.1.1) (h2 : U64 x.1.2) (h3 : U64 x.2.1) (h4 : U64 x.2.2) : ∃ r, f116 k x = some r ∧ U64 r.1 ∧ U64 r.2 := by
  obtain ⟨⟨a, b⟩, c, d⟩ := x
  unfold U64 at *
  simp only at h1 h2 h3 h4
  unfold f116 f151
  simp only
  have d1 : (decide (0 ≤ b) && decide (0 ≤ d) && decide ((0 : Int) ≤ 0) && decide ((0 : Int) ≤ 1)) = true := by simp; omega
  have d2 : (decide (0 ≤ a) && decide (0 ≤ c) && decide ((0 : Int) ≤ (b + d + 0) / 18446744073709551616) && decide ((b + d + 0) / 18446744073709551616 ≤ 1)) = true := by simp; omega
  simp only [d1, d2, cond_true, Option.bind_some]
  exact ⟨_, rfl, by simp only; omega, by simp only; omega⟩
theorem s152 (k : Nat) (x : (Int × Int) × Int × Int) : ∃ r, f152 k x = some r := by
  unfold f152
  cases decide (x.1.1 > x.2.1)
  · cases x.1.1 == x.2.1
    · exact ⟨_, rfl⟩
    · exact ⟨_, rfl⟩
  · exact ⟨_, rfl⟩
theorem s117 (k : Nat) (x : (Int × Int) × (Int × Int) × Int × Int) (h1 : U64 x.1.1) (h2 : U64 x.1.2) (h3 : U64 x.2.1.1) (h4 : U64 x.2.1.2) (h5 : U64 x.2.2.1) (h6 : U64 x.2.2.2) : ∃ r, f117 k x = some r := by
  unfold f117
  obtain ⟨r1, e1, _, _⟩ := s116 k x.2 h3 h4 h5 h6
  obtain ⟨r2, e2⟩ := s152 k (x.1, r1)
  obtain ⟨r3, e3, _, _⟩ := s116 k (x.1, x.2.2) h1 h2 h5 h6
  obtain ⟨r4, e4⟩ := s152 k (x.2.1, r3)
  simp only [e1, e2, e3, e4, Option.bind_some]
  cases r2
  · exact ⟨_, rfl⟩
  · exact ⟨_, rfl⟩
theorem s114 {k : Nat} (hk : Big k) (a b : Int) : ∃ r, f114 k (a, b) = some r ∧ (1 ≤ a → b = 1 → a ≤ 524288 → r = true) := by
  unfold f114
  rw [s113 hk, Option.bind_some]
  simp only
  cases h : ratOK a b with
  | false =>
    refine ⟨_, rfl, fun h1 h2 h3 => ?_⟩
    subst h2
    unfold ratOK at h
    simp at h
    omega
  | true =>
    simp only [cond_true]
    by_cases h1 : b ≤ 768000
    · simp only [h1, decide_true, cond_true]
      cases h2 : decide (IntKind.wrap .i64 (64 * a) ≥ b) with
      | false =>
        refine ⟨_, rfl, fun g1 g2 g3 => ?_⟩
        simp only [decide_eq_false_iff_not] at h2
        rw [w64 (by omega) (by omega)] at h2
        omega
      | true =>
        refine ⟨_, rfl, fun g1 g2 g3 => ?_⟩
        subst g2
        rw [w64 (by omega) (by omega)]
        simp only [decide_eq_true_eq]; omega
    · exact ⟨_, by simp [h1]; rfl, fun _ _ _ => by omega⟩
theorem s67 {k : Nat} (hk : Big k) (bn bd pn pd dr jit : Int) (l : List (Int × Int)) : ∃ r, f67 k ((bn, bd), (pn, pd), dr, jit, l) = some r := by
  unfold f67
  obtain ⟨g, e2, _⟩ := s114 hk pn pd
  simp only [s113 hk, e2, Option.bind_some, gt_iff_lt]
  cases ratOK bn bd
  · exact ⟨_, rfl⟩
  by_cases h1 : 768000 < bn
  · exact ⟨_, by simp [h1]; rfl⟩
  by_cases h2 : 768000 < bd
  · exact ⟨_, by simp [h1, h2]; rfl⟩
  cases g
  · exact ⟨_, by simp [h1, h2]; rfl⟩
  by_cases h3 : dr < 0
  · exact ⟨_, by simp [h1, h2, h3]; rfl⟩
  by_cases h4 : 4096 < dr
  · exact ⟨_, by simp [h1, h2, h3, h4]; rfl⟩
  by_cases h5 : jit < 0
  · exact ⟨_, by simp [h1, h2, h3, h4, h5]; rfl⟩
  by_cases h6 : 65536 < jit
  · exact ⟨_, by simp [h1, h2, h3, h4, h5, h6]; rfl⟩
  by_cases h7 : (256 : Int) < (l.length : Int)
  · exact ⟨_, by simp [h1, h2, h3, h4, h5, h6, h7]; rfl⟩
  simp only [h1, h2, h3, h4, h5, h6, h7, decide_false, cond_false, Bool.not_true]
  refine loop_ex (L67_4 k _ _) (fun y => ∃ i : Nat, y = (dr, jit, l, l, (l.length : Int), (i : Int), (bn, bd), pn, pd) ∧ i ≤ l.length) (fun o => ∃ r, o = some r) (fun y => (l.length - y.2.2.2.2.2.1).toNat) ?_ k _ ⟨0, rfl, by omega⟩ (hk.lt (by simp only; omega))
  rintro y next ⟨i, rfl, hi⟩ hnext
  simp only at hnext
  unfold L67_4
  simp only [gt_iff_lt]
  by_cases hlt : i < l.length
  · have d1 : decide ((i : Int) < (l.length : Int)) = true := by simp; omega
    have d2 : decide ((0 : Int) ≤ (i : Int)) = true := by simp
    have hw : IntKind.wrap .i64 ((i : Int) + 1) = ((i + 1 : Nat) : Int) := by rw [w64 (by omega) (by omega)]; omega
    obtain ⟨a, b, hab⟩ : ∃ a b : Int, l.getD i ((0 : Int), (0 : Int)) = (a, b) := ⟨_, _, rfl⟩
    simp only [d1, d2, Bool.and_self, cond_true, Int.toNat_natCast, hab, hw]
    have hn := hnext _ ⟨i + 1, rfl, by omega⟩ (by simp only; omega)
    cases decide (a < 0) <;> cases decide (65536 < a) <;> cases decide (b < 0) <;> cases decide (65536 < b) <;> first | exact ⟨_, rfl⟩ | exact hn
  · have : i = l.length := by omega
    subst this
    have d1 : decide ((l.length : Int) < (l.length : Int)) = false := by simp
    simp only [d1, cond_false]
    obtain ⟨B, hB⟩ : ∃ B, IntKind.wrap .u64 bd = B := ⟨_, rfl⟩
    obtain ⟨P, hP⟩ : ∃ B, IntKind.wrap .u64 pn = B := ⟨_, rfl⟩
    obtain ⟨Q, hQ⟩ : ∃ B, IntKind.wrap .u64 pd = B := ⟨_, rfl⟩
    simp only [hB, hP, hQ]
    refine loop_ex (L67_11 k _ _) (fun y => ∃ i : Nat, y = (dr, jit, l, B, P, Q, (l.length : Int), (i : Int), bn, bd) ∧ i ≤ l.length) (fun o => ∃ r, o = some r) (fun y => (l.length - y.2.2.2.2.2.2.2.1).toNat) ?_ k _ ⟨0, rfl, by omega⟩ (hk.lt (by simp only; omega))
    rintro y next ⟨i, rfl, hi⟩ hnext
    simp only at hnext
    unfold L67_11
    simp only
    by_cases hlt : i < l.length
    · have d1 : decide ((i : Int) < (l.length : Int)) = true := by simp; omega
      have d2 : decide ((0 : Int) ≤ (i : Int)) = true := by simp
      have d3 : decide ((i : Int) ≤ (l.length : Int)) = true := by simp; omega
      have hw : IntKind.wrap .i64 ((i : Int) + 1) = ((i + 1 : Nat) : Int) := by rw [w64 (by omega) (by omega)]; omega
      simp only [d1, d2, d3, Int.le_refl, decide_true, Bool.and_self, cond_true, Int.toNat_natCast]
      obtain ⟨m, hm⟩ : ∃ m, (l.take l.length).drop i = m := ⟨_, rfl⟩
      have hml : m.length ≤ 256 := by rw [← hm, List.length_drop, List.length_take]; omega
      simp only [hm]
      refine loop_ex (L67_15 k _ _) (fun y => ∃ (j : Nat) (a b : Int), y = (dr, jit, l, B, P, Q, a, b, (l.length : Int), (i : Int), m, (m.length : Int), (j : Int), bn, bd) ∧ j ≤ m.length) (fun o => ∃ r, o = some r) (fun y => (m.length - y.2.2.2.2.2.2.2.2.2.2.2.2.1).toNat) ?_ k _ ⟨0, 0, 0, rfl, by omega⟩ (hk.lt (by simp only; omega))
      rintro y next' ⟨j, a, b, rfl, hj⟩ hnext'
      simp only at hnext'
      unfold L67_15
      simp only
      by_cases hlt' : j < m.length
      · have d4 : decide ((j : Int) < (m.length : Int)) = true := by simp; omega
        have d5 : decide ((0 : Int) ≤ (j : Int)) = true := by simp
        have hw' : IntKind.wrap .i64 ((j : Int) + 1) = ((j + 1 : Nat) : Int) := by rw [w64 (by omega) (by omega)]; omega
        obtain ⟨c, d, hab⟩ : ∃ a b : Int, m.getD j ((0 : Int), (0 : Int)) = (a, b) := ⟨_, _, rfl⟩
        simp only [d4, d5, Bool.and_self, cond_true, Int.toNat_natCast, hab, hw']
        obtain ⟨r5, e5, a5, b5⟩ := s115 k (IntKind.wrap .u64 (IntKind.wrap .u64 (a + IntKind.wrap .u64 c) * IntKind.wrap .u64 bn), Q, 65536)
        obtain ⟨r6, e6, a6, b6⟩ := s115 k (IntKind.wrap .u64 (IntKind.wrap .u64 (b + IntKind.wrap .u64 d) * B), Q, 65536)
        obtain ⟨r7, e7, a7, b7⟩ := s115 k (IntKind.wrap .u64 (IntKind.wrap .u64 ((j + 1 : Nat) : Int) * P), B, 65536)
        obtain ⟨r8, e8, a8, b8⟩ := s115 k (IntKind.wrap .u64 (IntKind.wrap .u64 ((j + 1 : Nat) : Int) * P), B, IntKind.wrap .u64 dr)
        obtain ⟨r9, e9, a9, b9⟩ := s115 k (IntKind.wrap .u64 (IntKind.wrap .u64 jit * B), Q, 65536)
        obtain ⟨r10, e10, a10, b10⟩ := s116 k (r8, r9) a8 b8 a9 b9
        obtain ⟨r11, e11⟩ := s117 k (r5, r7, r10) a5 b5 a7 b7 a10 b10
        obtain ⟨r12, e12⟩ := s117 k (r6, r7, r10) a6 b6 a7 b7 a10 b10
        obtain ⟨r13, e13⟩ := s117 k (r5, r6, r10) a5 b5 a6 b6 a10 b10
        simp only [e5, e6, e7, e8, e9, e10, e11, e12, e13, Option.bind_some]
        have hn := hnext' (dr, jit, l, B, P, Q, IntKind.wrap .u64 (a + IntKind.wrap .u64 c), IntKind.wrap .u64 (b + IntKind.wrap .u64 d), (l.length : Int), (i : Int), m, (m.length : Int), ((j + 1 : Nat) : Int), bn, bd) ⟨j + 1, _, _, rfl, by omega⟩ (by simp only; omega)
        cases r11
        · exact ⟨_, rfl⟩
        cases r12
        · exact ⟨_, rfl⟩
        cases r13
        · exact ⟨_, rfl⟩
        exact hn
      · have : j = m.length := by omega
        subst this
        have d4 : decide ((m.length : Int) < (m.length : Int)) = false := by simp
        simp only [d4, cond_false, hw]
        exact hnext _ ⟨i + 1, rfl, by omega⟩ (by simp only; omega)
    · have : i = l.length := by omega
      subst this
      simp only [d1, cond_false]
      exact ⟨_, rfl⟩

/-! ### the plan -/
theorem s111 (k : Nat) {a b : Int} (ha : 0 ≤ a) (ha' : a ≤ 4611686018427387904) (hb : 1 ≤ b) (hb' : b ≤ 1099511627776) : f111 k (a, b) = some (cdiv a b) := by
  unfold f111 cdiv
  have h0 : (b == 0) = false := by simp; omega
  have e := Int.ediv_nonneg (show 0 ≤ a + b - 1 by omega) (show 0 ≤ b by omega)
  have e' := Int.ediv_le_self b (show 0 ≤ a + b - 1 by omega)
  simp only [h0, cond_false]
  rw [w64 (x := a + b) (by omega) (by omega), w64 (x := a + b - 1) (by omega) (by omega), tdiv_pos (by omega), w64 (by omega) (by omega)]
theorem cdiv_nonneg {a b : Int} (ha : 0 ≤ a) (hb : 1 ≤ b) : 0 ≤ cdiv a b := Int.ediv_nonneg (by omega) (by omega)
def sway (W n : Int) : Int := cdiv (2 * W * n) 65536
theorem sway_bd {W n : Int} (hW : 0 ≤ W) (hW' : W ≤ 40) (hn : 0 ≤ n) (hn' : n ≤ 8192) : 0 ≤ sway W n ∧ sway W n ≤ 11 ∧ 2 * W * n ≤ sway W n * 65536 ∧ 0 ≤ 2 * W * n ∧ 2 * W * n ≤ 80 * 8192 := by
  obtain ⟨a, b⟩ := mul_bd (show 0 ≤ 2 * W by omega) (show 2 * W ≤ 80 by omega) hn hn'
  unfold sway cdiv
  omega
theorem s118 (k : Nat) {W n : Int} (hW : 0 ≤ W) (hW' : W ≤ 40) (hn : 0 ≤ n) (hn' : n ≤ 8192) : f118 k ((W, 1), n) = some (sway W n) := by
  obtain ⟨_, _, _, a, b⟩ := sway_bd hW hW' hn hn'
  unfold f118 sway
  simp only
  rw [w64 (x := 2 * W) (by omega) (by omega), w64 (x := 2 * W * n) (by omega) (by omega), show IntKind.wrap .i64 (1 * 65536) = 65536 by decide, s111 k a (by omega) (by omega) (by omega)]
  rfl
theorem s68 (k : Nat) {W dr jit : Int} (hW : 0 ≤ W) (hW' : W ≤ 40) (hn : 0 ≤ dr) (hn' : dr ≤ 4096) (hj : 0 ≤ jit) (hj' : jit ≤ 100) : f68 k ((W, 1), dr, jit) = some (sway W dr + jit + 1) := by
  obtain ⟨a, b, _⟩ := sway_bd hW hW' hn (show dr ≤ 8192 by omega)
  unfold f68
  rw [s118 k hW hW' hn (by omega), Option.bind_some]
  simp only
  rw [w64 (x := sway W dr + jit) (by omega) (by omega), w64 (by omega) (by omega)]
theorem s110 {k : Nat} (hk : Big k) {W dr jit : Int} (hW : 1 ≤ W) (hW' : W ≤ 40) (hn : 0 ≤ dr) (hn' : dr ≤ 4096) (hj : 0 ≤ jit) (hj' : jit ≤ 100) : f110 k ((W, 1), dr, jit) = some true := by
  unfold f110
  obtain ⟨r, e, h⟩ := s114 hk W 1
  have := h hW rfl (by omega)
  subst this
  have d1 : decide (dr ≥ 0) = true := by simp; omega
  have d2 : decide (dr ≤ 4096) = true := by simp; omega
  have d3 : decide (jit ≥ 0) = true := by simp; omega
  have d4 : decide (jit ≤ 65536) = true := by simp; omega
  simp only [e, Option.bind_some, cond_true, d1, d2, d3, d4]
/-- the bound -/
def bndS (dead gain most W dr jit start : Int) : Int := max start (dead + cdiv most gain) + sway W (dr + most) + 2 * jit + 2
theorem s69 {k : Nat} (hk : Big k) {tgt dead gain most W dr jit start : Int} (hc : CtOK tgt dead gain most) (hW : 1 ≤ W) (hW' : W ≤ 40) (hn : 0 ≤ dr) (hn' : dr ≤ 1536) (hm : most ≤ 1700) (hj : 0 ≤ jit) (hj' : jit ≤ 100) (hs : 0 ≤ start) (hs' : start ≤ 65536)
    (hg : 65536 * dr ≤ most * (65536 - dr)) : f69 k ((tgt, dead, gain, most), (W, 1), dr, jit, start) = some (bndS dead gain most W dr jit start, 0) := by
  have m0 := hc.m0
  have g0 := hc.g0
  have g1 := hc.g1
  have d0 := hc.d0
  have d1 := hc.d1
  obtain ⟨a, b, _⟩ := sway_bd (show 0 ≤ W by omega) hW' (show 0 ≤ dr + most by omega) (show dr + most ≤ 8192 by omega)
  obtain ⟨p1, p2⟩ := mul_bd m0 hm (show 0 ≤ 65536 - dr by omega) (show 65536 - dr ≤ 65536 by omega)
  have u1 := cdiv_nonneg m0 g0
  have u2 : cdiv most gain ≤ most := by rw [cdiv_le (by omega)]; have := Int.mul_le_mul_of_nonneg_left g0 m0; rw [Int.mul_one] at this; exact this
  unfold f69 bndS
  have c1 : ¬ start < 0 := by omega
  have c2 : ¬ start > 65536 := by omega
  simp only [s107, (ctOK_iff _ _ _ _).2 hc, s110 hk hW hW' hn (show dr ≤ 4096 by omega) hj hj', Option.bind_some, Bool.not_true, cond_false, c1, c2, decide_false]
  rw [w64 (x := 65536 - dr) (by omega) (by omega), w64 (x := most * (65536 - dr)) (by omega) (by omega), w64 (x := 65536 * dr) (by omega) (by omega)]
  have c3 : ¬ most * (65536 - dr) < 65536 * dr := by omega
  simp only [c3, decide_false, cond_false]
  rw [s111 k m0 (by omega) g0 (by omega), Option.bind_some, w64 (x := dr + most) (by omega) (by omega), s118 k (by omega) hW' (by omega) (by omega), Option.bind_some, w64 (x := dead + cdiv most gain) (by omega) (by omega)]
  have hmax : (if dead + cdiv most gain > start then dead + cdiv most gain else start) = max start (dead + cdiv most gain) := by split <;> omega
  rw [hmax, w64 (x := 2 * jit) (by omega) (by omega), w64 (x := max start (dead + cdiv most gain) + sway W (dr + most)) (by omega) (by omega), w64 (x := max start (dead + cdiv most gain) + sway W (dr + most) + 2 * jit) (by omega) (by omega), w64 (by omega) (by omega)]
def demS (most W dr jit : Int) : Int := W + sway W (dr + most) + 2 * jit + 3
theorem s112 {k : Nat} (hk : Big k) {tgt dead gain most W dr jit : Int} (hc : CtOK tgt dead gain most) (hW : 1 ≤ W) (hW' : W ≤ 40) (hn : 0 ≤ dr) (hn' : dr ≤ 1536) (hm : most ≤ 1700) (hj : 0 ≤ jit) (hj' : jit ≤ 100)
    (hg : 65536 * dr ≤ most * (65536 - dr)) : f112 k ((tgt, dead, gain, most), (W, 1), dr, jit) = some (demS most W dr jit, 0) := by
  have m0 := hc.m0
  obtain ⟨a, b, _⟩ := sway_bd (show 0 ≤ W by omega) hW' (show 0 ≤ dr + most by omega) (show dr + most ≤ 8192 by omega)
  unfold f112 demS
  simp only [s69 hk hc hW hW' hn hn' hm hj hj' (Int.le_refl 0) (by omega) hg, Option.bind_some, bne_self_eq_false, cond_false]
  have hup : cdiv W 1 = W := by unfold cdiv; omega
  rw [s111 k (by omega) (by omega) (by omega) (by omega), hup, Option.bind_some, w64 (x := dr + most) (by omega) (by omega), s118 k (by omega) hW' (by omega) (by omega), Option.bind_some]
  rw [w64 (x := 2 * jit) (by omega) (by omega), w64 (x := W + sway W (dr + most)) (by omega) (by omega), w64 (x := W + sway W (dr + most) + 2 * jit) (by omega) (by omega), w64 (by omega) (by omega)]
theorem most_bd {dr : Int} (h0 : 0 ≤ dr) (h1 : dr ≤ 1500) : 0 ≤ cdiv (65536 * dr) (65536 - dr) ∧ cdiv (65536 * dr) (65536 - dr) ≤ 1700 ∧ 65536 * dr ≤ cdiv (65536 * dr) (65536 - dr) * (65536 - dr) := by
  refine ⟨cdiv_nonneg (by omega) (by omega), (cdiv_le (by omega)).2 (by omega), ?_⟩
  exact (cdiv_le (by omega)).1 (Int.le_refl _)
theorem s66 {k : Nat} (hk : Big k) {W dr jit dead gain : Int} (hW : 1 ≤ W) (hW' : W ≤ 40) (hn : 0 ≤ dr) (hn' : dr ≤ 1500) (hj : 0 ≤ jit) (hj' : jit ≤ 100) (d0 : 0 ≤ dead) (d1 : dead ≤ 100) (g0 : 1 ≤ gain) (g1 : gain ≤ 300)
    {most start bnd dem : Int} (hm : most = cdiv (65536 * dr) (65536 - dr)) (hs : start = sway W dr + jit + 1) (hb : bnd = bndS dead gain most W dr jit start) (hd : dem = demS most W dr jit) :
    f66 k ((W, 1), dr, jit, dead, gain) = some ((dem + bnd, dead, gain, most), dem + bnd + bnd, 0) ∧ 0 ≤ bnd ∧ bnd ≤ 3000 ∧ 0 ≤ dem ∧ dem ≤ 3000 ∧ 0 ≤ most ∧ most ≤ 1700 ∧ 65536 * dr ≤ most * (65536 - dr) ∧ 0 ≤ start ∧ start ≤ 300 := by
  obtain ⟨m0, m1, m2⟩ := most_bd hn hn'
  rw [← hm] at m0 m1 m2
  obtain ⟨a, b, _⟩ := sway_bd (show 0 ≤ W by omega) hW' (show 0 ≤ dr + most by omega) (show dr + most ≤ 8192 by omega)
  obtain ⟨a', b', _⟩ := sway_bd (show 0 ≤ W by omega) hW' hn (show dr ≤ 8192 by omega)
  have u1 := cdiv_nonneg m0 g0
  have u2 : cdiv most gain ≤ most := by rw [cdiv_le (by omega)]; have := Int.mul_le_mul_of_nonneg_left g0 m0; rw [Int.mul_one] at this; exact this
  have hb0 : 0 ≤ bnd ∧ bnd ≤ 3000 := by rw [hb]; unfold bndS; omega
  have hd0 : 0 ≤ dem ∧ dem ≤ 3000 := by rw [hd]; unfold demS; omega
  refine ⟨?_, hb0.1, hb0.2, hd0.1, hd0.2, m0, m1, m2, by omega, by omega⟩
  unfold f66
  have c1 : ¬ dead < 0 := by omega
  have c2 : ¬ dead > 65536 := by omega
  have c3 : ¬ gain < 1 := by omega
  have c4 : ¬ gain > 4096 := by omega
  have hct : CtOK 0 dead gain most := ⟨by omega, by omega, d0, by omega, g0, by omega, m0, by omega⟩
  simp only [s110 hk hW hW' hn (show dr ≤ 4096 by omega) hj hj', Option.bind_some, Bool.not_true, cond_false, c1, c2, c3, c4, decide_false]
  rw [w64 (x := 65536 * dr) (by omega) (by omega), w64 (x := 65536 - dr) (by omega) (by omega), s111 k (by omega) (by omega) (by omega) (by omega), ← hm, Option.bind_some]
  have c5 : ¬ most > 4096 := by omega
  simp only [c5, decide_false, cond_false, s68 k (show 0 ≤ W by omega) hW' hn (show dr ≤ 4096 by omega) hj hj', Option.bind_some, ← hs]
  have c6 : ¬ start > 65536 := by omega
  simp only [c6, decide_false, cond_false, s69 hk hct hW hW' hn (show dr ≤ 1536 by omega) m1 hj hj' (show 0 ≤ start by omega) (show start ≤ 65536 by omega) m2, s112 hk hct hW hW' hn (show dr ≤ 1536 by omega) m1 hj hj' m2, Option.bind_some, ← hb, ← hd]
  rw [w64 (x := 2 * bnd) (by omega) (by omega), w64 (x := dem + 2 * bnd) (by omega) (by omega)]
  have c7 : ¬ dem + 2 * bnd > 65536 := by omega
  simp only [c7, decide_false, cond_false]
  rw [w64 (x := dem + bnd) (by omega) (by omega), w64 (x := dem + bnd + bnd) (by omega) (by omega)]
end Go.Proofs.Ytbfkfobfhjgphaa.Sp

/- The traffic that is made for the theorem of the control loop, and that it keeps to what was declared. -/
set_option linter.unusedVariables false
set_option linter.unusedSimpArgs false
namespace Go.Proofs.Ytbfkfobfhjgphaa.Sp
open Go Go.Pev Go.Snd Go.Proofs.Ytbfkfobfhjgphaa.Fn

/-- so many frames before quantum k -/
def cum (c Q : Int) (k : Nat) : Int := (k : Int) * c / Q
theorem cum_zero (c Q : Int) : cum c Q 0 = 0 := by simp [cum]
theorem cum_bd {c Q : Int} (hQ : 0 < Q) (k : Nat) : Q * cum c Q k ≤ (k : Int) * c ∧ (k : Int) * c < Q * cum c Q k + Q := by
  unfold cum
  have h1 := Int.mul_ediv_add_emod ((k : Int) * c) Q
  have h2 := Int.emod_nonneg ((k : Int) * c) (Int.ne_of_gt hQ)
  have h3 := Int.emod_lt_of_pos ((k : Int) * c) hQ
  omega
/-- the frames of one quantum: between the share and one more -/
theorem cum_step {c Q : Int} (hQ : 0 < Q) (hc : Q ≤ c) (k : Nat) : 1 ≤ cum c Q (k + 1) - cum c Q k ∧ cum c Q (k + 1) - cum c Q k ≤ c / Q + 1 := by
  obtain ⟨a1, a2⟩ := cum_bd (c := c) hQ k
  obtain ⟨b1, b2⟩ := cum_bd (c := c) hQ (k + 1)
  have e : ((k + 1 : Nat) : Int) * c = (k : Int) * c + c := by rw [Int.natCast_add, Int.add_mul]; omega
  rw [e] at b1 b2
  have d1 := Int.mul_ediv_add_emod c Q
  have d3 := Int.emod_lt_of_pos c hQ
  generalize cum c Q (k + 1) = X at *
  generalize cum c Q k = Y at *
  generalize c / Q = Z at *
  have e1 : Q * (X - Y) = Q * X - Q * Y := Int.mul_sub _ _ _
  constructor
  · have : Q * 0 < Q * (X - Y) := by rw [Int.mul_zero]; omega
    have := Int.lt_of_mul_lt_mul_left this (by omega)
    omega
  · have : Q * (X - Y) < Q * (Z + 2) := by rw [Int.mul_add]; omega
    have := Int.lt_of_mul_lt_mul_left this (by omega)
    omega
def mv (bn bd W In Out : Int) (s u : Nat → Int) (i : Nat) : Int × Int :=
  (cum (W * bd * Out) (65536 * bn) (i + 1) - cum (W * bd * Out) (65536 * bn) i + u (i + 1) - u i, cum (W * In) 65536 (i + 1) - cum (W * In) 65536 i + s (i + 1) - s i)
structure Traf (bn bd W dr jit α β : Int) (s u : Nat → Int) : Prop where
  base : BaseOK bn bd
  b1 : bn ≤ 160
  b2 : bd ≤ 160
  b3 : bn ≤ 2 * bd
  w1 : 16 ≤ W
  w2 : W ≤ 40
  d0 : 0 ≤ dr
  d1 : dr ≤ 1500
  j0 : 3 ≤ jit
  j1 : jit ≤ 7
  j2 : 2 * bn + 2 * bd ≤ jit * bd
  a1 : -dr ≤ 2 * α
  a2 : 2 * α ≤ dr
  c1 : -dr ≤ 2 * β
  c2 : 2 * β ≤ dr
  s0 : s 0 = 0
  s1 : ∀ i, 0 ≤ s i ∧ s i ≤ 1
  u0 : u 0 = 0
  u1 : ∀ i, 0 ≤ u i ∧ u i ≤ 1
theorem Traf.cs {bn bd W dr jit α β : Int} {s u : Nat → Int} (h : Traf bn bd W dr jit α β s u) :
    65536 ≤ W * (65536 + α) ∧ W * (65536 + α) ≤ 2700000 ∧ 65536 * bn ≤ W * bd * (65536 + β) ∧ W * bd * (65536 + β) ≤ 425000000 ∧ 16 ≤ W * bd ∧ W * bd ≤ 6400 := by
  have := h.base.n1; have := h.base.d1; have := h.b1; have := h.b2; have := h.b3; have := h.w1; have := h.w2; have := h.d0; have := h.d1; have := h.a1; have := h.a2; have := h.c1; have := h.c2
  have e1 := Int.mul_le_mul (show 16 ≤ W by omega) (show 64786 ≤ 65536 + α by omega) (by omega) (by omega)
  have e2 := Int.mul_le_mul (show W ≤ 40 by omega) (show 65536 + α ≤ 66286 by omega) (by omega) (by omega)
  have e3 := Int.mul_le_mul (show 16 ≤ W by omega) (Int.le_refl bd) (by omega) (by omega)
  have e4 := Int.mul_le_mul (show W ≤ 40 by omega) (show bd ≤ 160 by omega) (by omega) (by omega)
  have e5 := Int.mul_le_mul e3 (show 64786 ≤ 65536 + β by omega) (by omega) (by omega)
  have e6 := Int.mul_le_mul e4 (show 65536 + β ≤ 66286 by omega) (by omega) (by omega)
  omega
theorem mv_bd {bn bd W dr jit α β : Int} {s u : Nat → Int} (h : Traf bn bd W dr jit α β s u) (i : Nat) :
    0 ≤ (mv bn bd W (65536 + α) (65536 + β) s u i).1 ∧ (mv bn bd W (65536 + α) (65536 + β) s u i).1 ≤ 7000 ∧ 0 ≤ (mv bn bd W (65536 + α) (65536 + β) s u i).2 ∧ (mv bn bd W (65536 + α) (65536 + β) s u i).2 ≤ 7000 := by
  obtain ⟨p1, p2, p3, p4, _, _⟩ := h.cs
  have hb := h.base.n1
  obtain ⟨q1, q2⟩ := cum_step (show 0 < 65536 * bn by omega) p3 i
  obtain ⟨q3, q4⟩ := cum_step (show (0 : Int) < 65536 by omega) p1 i
  have e1 : W * (65536 + α) / 65536 ≤ 100 := by omega
  have e2 : W * bd * (65536 + β) / (65536 * bn) ≤ 6500 := by
    refine Int.le_trans (b := W * bd * (65536 + β) / 65536) ?_ (by omega)
    rw [← Int.ediv_ediv_of_nonneg (by omega)]
    exact Int.ediv_le_self _ (by omega)
  have := h.s1 i; have := h.s1 (i + 1); have := h.u1 i; have := h.u1 (i + 1)
  unfold mv
  simp only
  omega

theorem bases5 {i : Int} (h0 : 0 ≤ i) (h1 : i < 5) : ∃ bn bd : Int, ([((1 : Int), (1 : Int)), ((147 : Int), (160 : Int)), ((160 : Int), (147 : Int)), ((2 : Int), (1 : Int)), ((1 : Int), (6 : Int))]).getD i.toNat ((0 : Int), (0 : Int)) = (bn, bd) ∧ BaseOK bn bd ∧ bn ≤ 160 ∧ bd ≤ 160 ∧ bn ≤ 2 * bd := by
  have : i = 0 ∨ i = 1 ∨ i = 2 ∨ i = 3 ∨ i = 4 := by omega
  rcases this with h | h | h | h | h <;> subst h
  · exact ⟨1, 1, rfl, ⟨by omega, by omega, by omega, by omega, by decide, by omega, by omega⟩, by omega, by omega, by omega⟩
  · exact ⟨147, 160, rfl, ⟨by omega, by omega, by omega, by omega, by decide, by omega, by omega⟩, by omega, by omega, by omega⟩
  · exact ⟨160, 147, rfl, ⟨by omega, by omega, by omega, by omega, by decide, by omega, by omega⟩, by omega, by omega, by omega⟩
  · exact ⟨2, 1, rfl, ⟨by omega, by omega, by omega, by omega, by decide, by omega, by omega⟩, by omega, by omega, by omega⟩
  · exact ⟨1, 6, rfl, ⟨by omega, by omega, by omega, by omega, by decide, by omega, by omega⟩, by omega, by omega, by omega⟩
theorem drifts4 {i : Int} (h0 : 0 ≤ i) (h1 : i < 4) : ∃ d : Int, ([(0 : Int), (66 : Int), (400 : Int), (1500 : Int)]).getD i.toNat (0 : Int) = d ∧ 0 ≤ d ∧ d ≤ 1500 := by
  have : i = 0 ∨ i = 1 ∨ i = 2 ∨ i = 3 := by omega
  rcases this with h | h | h | h <;> subst h <;> exact ⟨_, rfl, by decide, by decide⟩
theorem shifts3 {i d : Int} (h0 : 0 ≤ i) (h1 : i < 3) (d0 : 0 ≤ d) (d1 : d ≤ 1500) : ∃ α : Int, ([(0 : Int), (IntKind.wrap .i64 (Int.tdiv d (2 : Int))), (IntKind.wrap .i64 (Int.tdiv (IntKind.wrap .i64 (0 - d)) (2 : Int)))]).getD i.toNat (0 : Int) = α ∧ -d ≤ 2 * α ∧ 2 * α ≤ d := by
  have e1 : Int.tdiv d 2 = d / 2 := tdiv_pos d0
  have e2 : Int.tdiv (0 - d) 2 = -(d / 2) := by rw [show (0 : Int) - d = -d by omega, Int.neg_tdiv, e1]
  rw [w64 (x := 0 - d) (by omega) (by omega), e1, e2, w64 (by omega) (by omega), w64 (by omega) (by omega)]
  have : i = 0 ∨ i = 1 ∨ i = 2 := by omega
  rcases this with h | h | h <;> subst h
  · exact ⟨0, rfl, by omega, by omega⟩
  · exact ⟨d / 2, rfl, by omega, by omega⟩
  · exact ⟨-(d / 2), rfl, by omega, by omega⟩
theorem s109 (k : Nat) {n a b : Int} (h0 : 0 ≤ n) (h1 : n ≤ 1000) (a0 : 0 ≤ a) (a1 : a ≤ 1000000000) (hb : 1 ≤ b) : f109 k (n, a, b) = some (n * a / b) := by
  obtain ⟨m1, m2⟩ := mul_bd h0 h1 a0 a1
  have e := Int.ediv_nonneg m1 (show 0 ≤ b by omega)
  have e' := Int.ediv_le_self b m1
  unfold f109
  have hz : (b == 0) = false := by simp; omega
  simp only [hz, cond_false]
  rw [w64 (x := n * a) (by omega) (by omega), tdiv_pos m1, w64 (by omega) (by omega)]
theorem set01 {f : Nat → Int} (hf : ∀ i, 0 ≤ f i ∧ f i ≤ 1) (n0 : Nat) {x : Int} (h0 : 0 ≤ x) (h1 : x < 2) (n : Nat) : 0 ≤ (if n = n0 then x else f n) ∧ (if n = n0 then x else f n) ≤ 1 := by
  by_cases h : n = n0
  · rw [if_pos h]; omega
  · rw [if_neg h]; exact hf n
theorem s65 {k : Nat} (hk : Big k) {l : List Int} (h : D8 l) :
    ∃ bn bd W dr jit α β s u l', f65 k (l, 40) = some ((bn, bd, W, 1, dr, jit, (List.range 40).map (mv bn bd W (65536 + α) (65536 + β) s u)), l') ∧ Traf bn bd W dr jit α β s u := by
  obtain ⟨r1, l1, e1, h1, a1, b1, _⟩ := s51 k h 5
  obtain ⟨r2, l2, e2, h2, a2, b2, _⟩ := s51 k h1 4
  obtain ⟨r3, l3, e3, h3, a3, b3, _⟩ := s51 k h2 4
  obtain ⟨r4, l4, e4, h4, a4, b4, _⟩ := s51 k h3 3
  obtain ⟨r5, l5, e5, h5, a5, b5, _⟩ := s51 k h4 3
  have b1 := b1 (by omega)
  have b2 := b2 (by omega)
  have b3 := b3 (by omega)
  have b4 := b4 (by omega)
  have b5 := b5 (by omega)
  obtain ⟨bn, bd, hb, hbase, hb1, hb2, hb3⟩ := bases5 a1 b1
  obtain ⟨dr, hdr, d0, d1⟩ := drifts4 a3 b3
  obtain ⟨α, hα, α1, α2⟩ := shifts3 a4 b4 d0 d1
  obtain ⟨β, hβ, β1, β2⟩ := shifts3 a5 b5 d0 d1
  have n1 := hbase.n1
  have dd1 := hbase.d1
  unfold f65
  have c1 : (decide (0 ≤ r1) && decide (r1 < (([((1 : Int), (1 : Int)), ((147 : Int), (160 : Int)), ((160 : Int), (147 : Int)), ((2 : Int), (1 : Int)), ((1 : Int), (6 : Int))]).length : Int))) = true := by simp; omega
  have c3 : (decide (0 ≤ r3) && decide (r3 < (([(0 : Int), (66 : Int), (400 : Int), (1500 : Int)]).length : Int))) = true := by simp; omega
  have c4 : (decide (0 ≤ r4) && decide (r4 < (([(0 : Int), (IntKind.wrap .i64 (Int.tdiv dr (2 : Int))), (IntKind.wrap .i64 (Int.tdiv (IntKind.wrap .i64 (0 - dr)) (2 : Int)))]).length : Int))) = true := by simp; omega
  have c5 : (decide (0 ≤ r5) && decide (r5 < (([(0 : Int), (IntKind.wrap .i64 (Int.tdiv dr (2 : Int))), (IntKind.wrap .i64 (Int.tdiv (IntKind.wrap .i64 (0 - dr)) (2 : Int)))]).length : Int))) = true := by simp; omega
  have cz : (bd == 0) = false := by simp; omega
  simp only [e1, e2, e3, e4, e5, Option.bind_some, c1, c3, hb, hdr, c4, c5, cz, cond_true, cond_false, hα, hβ]
  rw [w64 (x := 8 * r2) (by omega) (by omega), w64 (x := 16 + 8 * r2) (by omega) (by omega), w64 (x := 65536 + α) (by omega) (by omega), w64 (x := 65536 + β) (by omega) (by omega), w64 (x := 2 * bn) (by omega) (by omega), tdiv_pos (show 0 ≤ 2 * bn by omega)]
  have q0 := Int.ediv_nonneg (show 0 ≤ 2 * bn by omega) (show 0 ≤ bd by omega)
  have q1 : 2 * bn / bd ≤ 4 := by
    have : 2 * bn / bd < 5 := Int.ediv_lt_of_lt_mul (by omega) (by omega)
    omega
  have q2 := Int.mul_ediv_add_emod (2 * bn) bd
  have q3 := Int.emod_lt_of_pos (2 * bn) (show 0 < bd by omega)
  rw [w64 (x := 2 * bn / bd) (by omega) (by omega), w64 (x := 3 + 2 * bn / bd) (by omega) (by omega)]
  obtain ⟨W, hW⟩ : ∃ W, 16 + 8 * r2 = W := ⟨_, rfl⟩
  obtain ⟨jit, hjit⟩ : ∃ j, 3 + 2 * bn / bd = j := ⟨_, rfl⟩
  simp only [hW, hjit]
  have hj2 : 2 * bn + 2 * bd ≤ jit * bd := by
    rw [← hjit, Int.add_mul, Int.mul_comm (2 * bn / bd)]; omega
  have htr : ∀ s u : Nat → Int, s 0 = 0 → (∀ i, 0 ≤ s i ∧ s i ≤ 1) → u 0 = 0 → (∀ i, 0 ≤ u i ∧ u i ≤ 1) → Traf bn bd W dr jit α β s u := fun s u g1 g2 g3 g4 => ⟨hbase, hb1, hb2, hb3, by omega, by omega, d0, d1, by omega, by omega, hj2, α1, α2, β1, β2, g1, g2, g3, g4⟩
  refine loop_ex (L65_8 k _) (fun y => ∃ (i : Nat) (z : Int × Int × Int × Int × Int × Int) (s u : Nat → Int) (l : List Int), y = (40, W, 65536 + α, 65536 + β, s i, u i, (i : Int), z, (bn, bd, W, 1, dr, jit), l, (List.range i).map (mv bn bd W (65536 + α) (65536 + β) s u)) ∧ i ≤ 40 ∧ D8 l ∧ s 0 = 0 ∧ (∀ i, 0 ≤ s i ∧ s i ≤ 1) ∧ u 0 = 0 ∧ (∀ i, 0 ≤ u i ∧ u i ≤ 1))
    (fun o => ∃ bn bd W dr jit α β s u l', o = some ((bn, bd, W, 1, dr, jit, (List.range 40).map (mv bn bd W (65536 + α) (65536 + β) s u)), l') ∧ Traf bn bd W dr jit α β s u) (fun y => (40 - y.2.2.2.2.2.2.1).toNat) ?_ k _ ⟨0, _, fun _ => 0, fun _ => 0, l5, rfl, by omega, h5, rfl, fun _ => ⟨Int.le_refl 0, (by decide : (0 : Int) ≤ 1)⟩, rfl, fun _ => ⟨Int.le_refl 0, (by decide : (0 : Int) ≤ 1)⟩⟩ (hk.lt (by simp))
  rintro y next ⟨i, z, s, u, l, rfl, hi, hl, hs0, hs1, hu0, hu1⟩ hnext
  simp only at hnext
  have ht := htr s u hs0 hs1 hu0 hu1
  obtain ⟨p1, p2, p3, p4, p5, p6⟩ := ht.cs
  unfold L65_8
  simp only
  by_cases hlt : (i : Int) < 40
  · obtain ⟨x1, m1, g1, hm1, y1, z1, _⟩ := s51 k hl 2
    obtain ⟨x2, m2, g2, hm2, y2, z2, _⟩ := s51 k hm1 2
    have z1 := z1 (by omega)
    have z2 := z2 (by omega)
    have hw : IntKind.wrap .i64 ((i : Int) + 1) = ((i + 1 : Nat) : Int) := by rw [w64 (by omega) (by omega)]; omega
    have d1 : decide ((i : Int) < 40) = true := by simp only [decide_eq_true_eq]; exact hlt
    rw [d1, cond_true, g1, Option.bind_some]
    simp only
    rw [g2, Option.bind_some]
    simp only
    rw [hw]
    rw [w64 (x := W * (65536 + α)) (by omega) (by omega), w64 (x := W * bd) (by omega) (by omega), w64 (x := W * bd * (65536 + β)) (by omega) (by omega), w64 (x := 65536 * bn) (by omega) (by omega)]
    rw [s109 k (show 0 ≤ ((i + 1 : Nat) : Int) by omega) (by omega) (show 0 ≤ W * (65536 + α) by omega) (by omega) (by omega), Option.bind_some]
    rw [s109 k (show 0 ≤ (i : Int) by omega) (by omega) (show 0 ≤ W * (65536 + α) by omega) (by omega) (by omega), Option.bind_some]
    rw [s109 k (show 0 ≤ ((i + 1 : Nat) : Int) by omega) (by omega) (show 0 ≤ W * bd * (65536 + β) by omega) (by omega) (show 1 ≤ 65536 * bn by omega), Option.bind_some]
    rw [s109 k (show 0 ≤ (i : Int) by omega) (by omega) (show 0 ≤ W * bd * (65536 + β) by omega) (by omega) (show 1 ≤ 65536 * bn by omega), Option.bind_some]
    have f1 : ((i + 1 : Nat) : Int) * (W * (65536 + α)) / 65536 = cum (W * (65536 + α)) 65536 (i + 1) := rfl
    have f2 : (i : Int) * (W * (65536 + α)) / 65536 = cum (W * (65536 + α)) 65536 i := rfl
    have f3 : ((i + 1 : Nat) : Int) * (W * bd * (65536 + β)) / (65536 * bn) = cum (W * bd * (65536 + β)) (65536 * bn) (i + 1) := rfl
    have f4 : (i : Int) * (W * bd * (65536 + β)) / (65536 * bn) = cum (W * bd * (65536 + β)) (65536 * bn) i := rfl
    rw [f1, f2, f3, f4]
    -- the next shifts
    have ht' := htr (fun n => if n = i + 1 then x1 else s n) (fun n => if n = i + 1 then x2 else u n) (by simp [hs0]) (set01 hs1 (i + 1) y1 z1) (by simp [hu0]) (set01 hu1 (i + 1) y2 z2)
    have hmv := mv_bd ht' i
    have hq1 := cum_step (show 0 < 65536 * bn by omega) p3 i
    have hq2 := cum_step (show (0 : Int) < 65536 by omega) p1 i
    unfold mv at hmv
    simp only [if_true, show i ≠ i + 1 by omega, if_false] at hmv
    have hsi := hs1 i
    have hui := hu1 i
    have hcq : W * bd * (65536 + β) / (65536 * bn) ≤ 425000000 := Int.le_trans (Int.ediv_le_self _ (by omega)) p4
    have hcq' : W * (65536 + α) / 65536 ≤ 2700000 := Int.le_trans (Int.ediv_le_self _ (by omega)) p2
    have hmap : (List.range (i + 1)).map (mv bn bd W (65536 + α) (65536 + β) (fun n => if n = i + 1 then x1 else s n) (fun n => if n = i + 1 then x2 else u n)) = (List.range i).map (mv bn bd W (65536 + α) (65536 + β) s u) ++ [(cum (W * bd * (65536 + β)) (65536 * bn) (i + 1) - cum (W * bd * (65536 + β)) (65536 * bn) i + x2 - u i, cum (W * (65536 + α)) 65536 (i + 1) - cum (W * (65536 + α)) 65536 i + x1 - s i)] := by
      rw [List.range_succ, List.map_append]
      congr 1
      · refine List.map_congr_left fun n hn => ?_
        have hn : n < i := List.mem_range.1 hn
        unfold mv
        simp only [show n + 1 ≠ i + 1 by omega, show n ≠ i + 1 by omega, if_false]
      · simp only [List.map_cons, List.map_nil, mv, if_true, show i ≠ i + 1 by omega, if_false]
    generalize cum (W * bd * (65536 + β)) (65536 * bn) (i + 1) = U1 at *
    generalize cum (W * bd * (65536 + β)) (65536 * bn) i = U0 at *
    generalize cum (W * (65536 + α)) 65536 (i + 1) = P1 at *
    generalize cum (W * (65536 + α)) 65536 i = P0 at *
    rw [w64 (x := U1 - U0) (by omega) (by omega), w64 (x := P1 - P0) (by omega) (by omega), w64 (x := U1 - U0 + x2) (by omega) (by omega), w64 (x := P1 - P0 + x1) (by omega) (by omega), w64 (x := U1 - U0 + x2 - u i) (by omega) (by omega), w64 (x := P1 - P0 + x1 - s i) (by omega) (by omega)]
    have i1 : (if U1 - U0 + x2 - u i > 0 then U1 - U0 + x2 - u i else 0) = U1 - U0 + x2 - u i := by split <;> omega
    have i2 : (if P1 - P0 + x1 - s i > 0 then P1 - P0 + x1 - s i else 0) = P1 - P0 + x1 - s i := by split <;> omega
    rw [i1, i2]
    have hlen : ((List.range i).map (mv bn bd W (65536 + α) (65536 + β) s u)).length = i := by simp
    have hcond : (decide ((((List.range i).map (mv bn bd W (65536 + α) (65536 + β) s u)).length + ([(U1 - U0 + x2 - u i, P1 - P0 + x1 - s i)]).length) * 16 ≤ maxBytes) && decide (((List.range i).map (mv bn bd W (65536 + α) (65536 + β) s u)).length + ([(U1 - U0 + x2 - u i, P1 - P0 + x1 - s i)]).length ≤ 9223372036854775807)) = true := by
      rw [hlen]; simp [maxBytes]; omega
    rw [hcond, cond_true, ← hmap]
    exact hnext _ ⟨i + 1, z, (fun n => if n = i + 1 then x1 else s n), (fun n => if n = i + 1 then x2 else u n), m2, by simp only [if_true], by omega, hm2, ht'.s0, ht'.s1, ht'.u0, ht'.u1⟩ (by simp only; omega)
  · have : i = 40 := by omega
    subst this
    simp only [hlt, decide_false, cond_false]
    exact ⟨bn, bd, W, dr, jit, α, β, s, u, l, rfl, ht⟩
end Go.Proofs.Ytbfkfobfhjgphaa.Sp

/- The contract of bits.Add64, which the model carries out itself. -/
set_option linter.unusedVariables false
set_option linter.unusedSimpArgs false
namespace Go.Proofs.Ytbfkfobfhjgphaa.Fn
open Go Go.Pev Go.Proofs

noncomputable def sig151 : Sig := ⟨[.val false (.int .u64), .val false (.int .u64), .val false (.int .u64)], [(false, [.ty (.int .u64)]), (false, [.ty (.int .u64)])], []⟩
noncomputable def spec151 (k : Nat) : FSpec := ⟨sig151, fun x => f151 k x⟩

theorem ok151 (k : Nat) : FnOK Try.prog 151 (spec151 k) := by
  intro x r xs hx hd w I vs Bs hin hr hn
  obtain ⟨a, b, c⟩ := x
  change Int at a
  change Int at b
  change Int at c
  change f151 k (a, b, c) = some r at hx
  simp only [f151, cond_eq_ite, Bool.and_eq_true, decide_eq_true_eq] at hx
  split at hx
  · rename_i hc
    injection hx with hx
    subst hx
    obtain ⟨⟨⟨ha, hb⟩, hc0⟩, hc1⟩ := hc
    obtain ⟨xa, ys, v1, vs', B1, B2, rfl, rfl, h1, h2, h3, h4⟩ := args_cons (a := .val false (.int .u64)) (b := .val false (.int .u64)) (l := [.val false (.int .u64)]) hd hr
    obtain ⟨xb, zs, v2, vs'', B3, B4, rfl, rfl, k1, k2, k3, k4⟩ := args_cons (a := .val false (.int .u64)) (b := .val false (.int .u64)) (l := []) h3 h4
    obtain ⟨xc, v3, rfl, h5, h6⟩ := args_one (a := .val false (.int .u64)) k3 k4
    obtain ⟨rfl, p1⟩ := argv_false hin h1 h2
    obtain ⟨rfl, p2⟩ := argv_false hin k1 k2
    obtain ⟨rfl, p3⟩ := argv_false hin h5 h6
    have p1 : [v1] = [.int .u64 a] := p1
    have p2 : [v2] = [.int .u64 b] := p2
    have p3 : [v3] = [.int .u64 c] := p3
    simp only [List.cons.injEq, and_true] at p1 p2 p3
    subst p1 p2 p3
    refine .inr ⟨.tuple #[.int .u64 ((a + b + c) % 18446744073709551616), .int .u64 ((a + b + c) / 18446744073709551616)], ?_, _, I, [], rfl, ?_⟩
    · show (callFunc 151 #[.int .u64 a, .int .u64 b, .int .u64 c]).run Try.prog w = _
      rw [run_callFunc_extern Try.func151 (by kernel_rfl) (by kernel_rfl) (by kernel_rfl) (e := add64Entry) (by kernel_rfl), run_add64 a b c ha hb hc0 hc1]
      rfl
    · exact {
        imm := fun b o h => h
        immNew := fun b o h => .inl h
        immIn := hin
        size := Nat.le_refl _
        old := fun i _ _ => rfl
        os := rfl
        tape := rfl
        output := rfl
        boxes := trivial
        boxRefs := by intro cs h; cases h
        rets := ⟨_, rfl, [], [], rfl, ⟨rfl, rfl, rfl⟩, [], [], rfl, ⟨rfl, rfl, rfl⟩, rfl⟩
        nodup := List.nodup_nil }
  · cases hx
end Go.Proofs.Ytbfkfobfhjgphaa.Fn

/- The functions' contracts: each does what its Lean form says. Printed by a program of this session. -/
set_option linter.unusedVariables false
set_option maxRecDepth 100000
namespace Go.Proofs.Ytbfkfobfhjgphaa.Fn
open Go Go.Pev Go.Proofs
noncomputable def sig150 : Sig := ⟨[.val false (.int .u64), .val false (.int .u64)], [(false, [.ty (.int .u64)]), (false, [.ty (.int .u64)])], []⟩
noncomputable def spec150 (k : Nat) : FSpec := ⟨sig150, fun x => f150 k x⟩
noncomputable def code150 : Code := (Try.f150.body).getD .skip
noncomputable def env150 (k : Nat) : Env := envOf []
theorem run150 (k : Nat) (x : argsI (sig150).args) : pevK tab eqs (env150 k) (fun _ _ _ => none) (fun _ => ⟨[], [], []⟩) code150 (startAS (sig150).args x) (finish tab Try.f150 sig150) = f150 k x := by kernel_rfl
theorem ok150 (k : Nat) : FnOK Try.prog 150 (spec150 k) := fn_ok hmix tab_ok eq_ok (env_ok _ all_nil) Try.func150 (by kernel_rfl) (c := code150) (by kernel_rfl) (s := spec150 k) (by kernel_rfl) (by kernel_rfl) (fun _ _ _ => none) (fun _ => ⟨[], [], []⟩) (fun _ _ => ⟨[], [], []⟩) k (loops_of (show ∀ b ∈ loopBodies code150, _ from (show loopBodies code150 = [] by kernel_rfl) ▸ loops_nil)) (run150 k)
noncomputable def sig115 : Sig := ⟨[.val false (.int .u64), .val false (.int .u64), .val false (.int .u64)], [(true, [.ty (.pair (.int .u64) (.int .u64))])], []⟩
noncomputable def spec115 (k : Nat) : FSpec := ⟨sig115, fun x => f115 k x⟩
noncomputable def code115 : Code := (Try.f115.body).getD .skip
noncomputable def env115 (k : Nat) : Env := envOf [(150, spec150 k)]
theorem run115 (k : Nat) (x : argsI (sig115).args) : pevK tab eqs (env115 k) (fun _ _ _ => none) (fun _ => ⟨[], [], []⟩) code115 (startAS (sig115).args x) (finish tab Try.f115 sig115) = f115 k x := by kernel_rfl
theorem ok115 (k : Nat) : FnOK Try.prog 115 (spec115 k) := fn_ok hmix tab_ok eq_ok (env_ok _ (all_cons (ok150 k) all_nil)) Try.func115 (by kernel_rfl) (c := code115) (by kernel_rfl) (s := spec115 k) (by kernel_rfl) (by kernel_rfl) (fun _ _ _ => none) (fun _ => ⟨[], [], []⟩) (fun _ _ => ⟨[], [], []⟩) k (loops_of (show ∀ b ∈ loopBodies code115, _ from (show loopBodies code115 = [] by kernel_rfl) ▸ loops_nil)) (run115 k)
noncomputable def sig116 : Sig := ⟨[.val true (.pair (.int .u64) (.int .u64)), .val true (.pair (.int .u64) (.int .u64))], [(true, [.ty (.pair (.int .u64) (.int .u64))])], []⟩
noncomputable def spec116 (k : Nat) : FSpec := ⟨sig116, fun x => f116 k x⟩
noncomputable def code116 : Code := (Try.f116.body).getD .skip
noncomputable def env116 (k : Nat) : Env := envOf [(151, spec151 k)]
theorem run116 (k : Nat) (x : argsI (sig116).args) : pevK tab eqs (env116 k) (fun _ _ _ => none) (fun _ => ⟨[], [], []⟩) code116 (startAS (sig116).args x) (finish tab Try.f116 sig116) = f116 k x := by kernel_rfl
theorem ok116 (k : Nat) : FnOK Try.prog 116 (spec116 k) := fn_ok hmix tab_ok eq_ok (env_ok _ (all_cons (ok151 k) all_nil)) Try.func116 (by kernel_rfl) (c := code116) (by kernel_rfl) (s := spec116 k) (by kernel_rfl) (by kernel_rfl) (fun _ _ _ => none) (fun _ => ⟨[], [], []⟩) (fun _ _ => ⟨[], [], []⟩) k (loops_of (show ∀ b ∈ loopBodies code116, _ from (show loopBodies code116 = [] by kernel_rfl) ▸ loops_nil)) (run116 k)
noncomputable def sig152 : Sig := ⟨[.val true (.pair (.int .u64) (.int .u64)), .val true (.pair (.int .u64) (.int .u64))], [(false, [.ty (.bool)])], []⟩
noncomputable def spec152 (k : Nat) : FSpec := ⟨sig152, fun x => f152 k x⟩
noncomputable def code152 : Code := (Try.f152.body).getD .skip
noncomputable def env152 (k : Nat) : Env := envOf []
theorem run152 (k : Nat) (x : argsI (sig152).args) : pevK tab eqs (env152 k) (fun _ _ _ => none) (fun _ => ⟨[], [], []⟩) code152 (startAS (sig152).args x) (finish tab Try.f152 sig152) = f152 k x := by kernel_rfl
theorem ok152 (k : Nat) : FnOK Try.prog 152 (spec152 k) := fn_ok hmix tab_ok eq_ok (env_ok _ all_nil) Try.func152 (by kernel_rfl) (c := code152) (by kernel_rfl) (s := spec152 k) (by kernel_rfl) (by kernel_rfl) (fun _ _ _ => none) (fun _ => ⟨[], [], []⟩) (fun _ _ => ⟨[], [], []⟩) k (loops_of (show ∀ b ∈ loopBodies code152, _ from (show loopBodies code152 = [] by kernel_rfl) ▸ loops_nil)) (run152 k)
noncomputable def sig117 : Sig := ⟨[.val true (.pair (.int .u64) (.int .u64)), .val true (.pair (.int .u64) (.int .u64)), .val true (.pair (.int .u64) (.int .u64))], [(false, [.ty (.bool)])], []⟩
noncomputable def spec117 (k : Nat) : FSpec := ⟨sig117, fun x => f117 k x⟩
noncomputable def code117 : Code := (Try.f117.body).getD .skip
noncomputable def env117 (k : Nat) : Env := envOf [(116, spec116 k), (152, spec152 k)]
theorem run117 (k : Nat) (x : argsI (sig117).args) : pevK tab eqs (env117 k) (fun _ _ _ => none) (fun _ => ⟨[], [], []⟩) code117 (startAS (sig117).args x) (finish tab Try.f117 sig117) = f117 k x := by kernel_rfl
theorem ok117 (k : Nat) : FnOK Try.prog 117 (spec117 k) := fn_ok hmix tab_ok eq_ok (env_ok _ (all_cons (ok116 k) (all_cons (ok152 k) all_nil))) Try.func117 (by kernel_rfl) (c := code117) (by kernel_rfl) (s := spec117 k) (by kernel_rfl) (by kernel_rfl) (fun _ _ _ => none) (fun _ => ⟨[], [], []⟩) (fun _ _ => ⟨[], [], []⟩) k (loops_of (show ∀ b ∈ loopBodies code117, _ from (show loopBodies code117 = [] by kernel_rfl) ▸ loops_nil)) (run117 k)
noncomputable def sig67 : Sig := ⟨[.val true (.pair (.int .i64) (.int .i64)), .val true (.pair (.int .i64) (.int .i64)), .val false (.int .i64), .val false (.int .i64), .val false (.sl (.pair (.int .i64) (.int .i64)))], [(false, [.ty (.bool)])], []⟩
noncomputable def spec67 (k : Nat) : FSpec := ⟨sig67, fun x => f67 k x⟩
noncomputable def code67 : Code := (Try.f67.body).getD .skip
noncomputable def env67 (k : Nat) : Env := envOf [(113, spec113 k), (114, spec114 k), (115, spec115 k), (116, spec116 k), (117, spec117 k)]
noncomputable def mh67 (n : Nat) : Mask := bif Nat.beq n 4 then ⟨[(2, []), (3, []), (4, []), (5, []), (6, []), (65, []), (66, []), (67, [])], [(5, []), (6, [])], []⟩ else bif Nat.beq n 11 then ⟨[(2, []), (3, []), (4, []), (5, []), (13, []), (14, []), (15, []), (100, []), (101, [])], [(5, [])], []⟩ else bif Nat.beq n 15 then ⟨[(2, []), (3, []), (4, []), (5, []), (13, []), (14, []), (15, []), (17, []), (18, []), (100, []), (101, []), (106, []), (107, []), (108, [])], [(5, [])], []⟩ else ⟨[], [], []⟩
noncomputable def mx67 (n : Nat) (e : AExit) : Mask := bif Nat.beq n 4 then (bif retIs e then ⟨[(10, [])], [], []⟩ else bif exitIs e 0 then ⟨[(2, []), (3, []), (4, []), (5, []), (6, [])], [(5, []), (6, [])], []⟩ else  ⟨[], [], []⟩) else bif Nat.beq n 11 then (bif retIs e then ⟨[(10, [])], [], []⟩ else bif exitIs e 2 then ⟨[], [], []⟩ else  ⟨[], [], []⟩) else bif Nat.beq n 15 then (bif retIs e then ⟨[(10, [])], [], []⟩ else bif exitIs e 4 then ⟨[(2, []), (3, []), (4, []), (5, []), (13, []), (14, []), (15, []), (100, []), (101, [])], [(5, [])], []⟩ else  ⟨[], [], []⟩) else ⟨[], [], []⟩
noncomputable def D67_4 : LD := ⟨[(false, [.leaf (.int .i64)]), (false, [.leaf (.int .i64)]), (false, [.leaf (.sl (.pair (.int .i64) (.int .i64)))]), (false, [.fix (.ptr 5 0)]), (false, [.fix (.ptr 6 0)]), (false, [.leaf (.sl (.pair (.int .i64) (.int .i64)))]), (false, [.leaf (.int .i64)]), (false, [.leaf (.int .i64)])], [.box [.leaf (.int .i64), .leaf (.int .i64)], .box [.leaf (.int .i64), .leaf (.int .i64)]]⟩
noncomputable def iso67_4 (d : (D67_4).I) : Int × Int × (List (Int × Int)) × (List (Int × Int)) × Int × Int × (Int × Int) × Int × Int := (d.1.1.1, d.1.2.1.1, d.1.2.2.1.1, d.1.2.2.2.2.2.1.1, d.1.2.2.2.2.2.2.1.1, d.1.2.2.2.2.2.2.2.1.1, (d.2.1.1, d.2.1.2.1), d.2.2.1.1, d.2.2.1.2.1)
noncomputable def inv67_4 (z : Int × Int × (List (Int × Int)) × (List (Int × Int)) × Int × Int × (Int × Int) × Int × Int) : (D67_4).I := (((z.1, ()), (z.2.1, ()), (z.2.2.1, ()), ((), ()), ((), ()), (z.2.2.2.1, ()), (z.2.2.2.2.1, ()), (z.2.2.2.2.2.1, ()), ()), (z.2.2.2.2.2.2.1.1, z.2.2.2.2.2.2.1.2, ()), (z.2.2.2.2.2.2.2.1, z.2.2.2.2.2.2.2.2, ()), ())
noncomputable def g67_4 (k : Nat) (K : AExit → AS → Option (sig67).R) : (Int × Int × (List (Int × Int)) × (List (Int × Int)) × Int × Int × (Int × Int) × Int × Int) → ((Int × Int × (List (Int × Int)) × (List (Int × Int)) × Int × Int × (Int × Int) × Int × Int) → Option (sig67).R) → Option (sig67).R := L67_4 k (fun z => K .ret ((mx67 4 .ret).state ([.sc (.bool z)], []))) (fun z => K (.exit 0) ((mx67 4 (.exit 0)).state ([.sc (.int .i64 z.1), .sc (.int .i64 z.2.1), .sc (.view (.pair (.int .i64) (.int .i64)) z.2.2.1), .sc (.ptr 5 0), .sc (.ptr 6 0)], [.box [.int .i64 z.2.2.2.1.1, .int .i64 z.2.2.2.1.2], .box [.int .i64 z.2.2.2.2.1, .int .i64 z.2.2.2.2.2]])))
noncomputable def D67_15 : LD := ⟨[(false, [.leaf (.int .i64)]), (false, [.leaf (.int .i64)]), (false, [.leaf (.sl (.pair (.int .i64) (.int .i64)))]), (false, [.fix (.ptr 5 0)]), (false, [.leaf (.int .u64)]), (false, [.leaf (.int .u64)]), (false, [.leaf (.int .u64)]), (false, [.leaf (.int .u64)]), (false, [.leaf (.int .u64)]), (false, [.leaf (.int .i64)]), (false, [.leaf (.int .i64)]), (false, [.leaf (.sl (.pair (.int .i64) (.int .i64)))]), (false, [.leaf (.int .i64)]), (false, [.leaf (.int .i64)])], [.box [.leaf (.int .i64), .leaf (.int .i64)]]⟩
noncomputable def iso67_15 (d : (D67_15).I) : Int × Int × (List (Int × Int)) × Int × Int × Int × Int × Int × Int × Int × (List (Int × Int)) × Int × Int × Int × Int := (d.1.1.1, d.1.2.1.1, d.1.2.2.1.1, d.1.2.2.2.2.1.1, d.1.2.2.2.2.2.1.1, d.1.2.2.2.2.2.2.1.1, d.1.2.2.2.2.2.2.2.1.1, d.1.2.2.2.2.2.2.2.2.1.1, d.1.2.2.2.2.2.2.2.2.2.1.1, d.1.2.2.2.2.2.2.2.2.2.2.1.1, d.1.2.2.2.2.2.2.2.2.2.2.2.1.1, d.1.2.2.2.2.2.2.2.2.2.2.2.2.1.1, d.1.2.2.2.2.2.2.2.2.2.2.2.2.2.1.1, d.2.1.1, d.2.1.2.1)
noncomputable def inv67_15 (z : Int × Int × (List (Int × Int)) × Int × Int × Int × Int × Int × Int × Int × (List (Int × Int)) × Int × Int × Int × Int) : (D67_15).I := (((z.1, ()), (z.2.1, ()), (z.2.2.1, ()), ((), ()), (z.2.2.2.1, ()), (z.2.2.2.2.1, ()), (z.2.2.2.2.2.1, ()), (z.2.2.2.2.2.2.1, ()), (z.2.2.2.2.2.2.2.1, ()), (z.2.2.2.2.2.2.2.2.1, ()), (z.2.2.2.2.2.2.2.2.2.1, ()), (z.2.2.2.2.2.2.2.2.2.2.1, ()), (z.2.2.2.2.2.2.2.2.2.2.2.1, ()), (z.2.2.2.2.2.2.2.2.2.2.2.2.1, ()), ()), (z.2.2.2.2.2.2.2.2.2.2.2.2.2.1, z.2.2.2.2.2.2.2.2.2.2.2.2.2.2, ()), ())
noncomputable def g67_15 (k : Nat) (K : AExit → AS → Option (sig67).R) : (Int × Int × (List (Int × Int)) × Int × Int × Int × Int × Int × Int × Int × (List (Int × Int)) × Int × Int × Int × Int) → ((Int × Int × (List (Int × Int)) × Int × Int × Int × Int × Int × Int × Int × (List (Int × Int)) × Int × Int × Int × Int) → Option (sig67).R) → Option (sig67).R := L67_15 k (fun z => K .ret ((mx67 15 .ret).state ([.sc (.bool z)], []))) (fun z => K (.exit 4) ((mx67 15 (.exit 4)).state ([.sc (.int .i64 z.1), .sc (.int .i64 z.2.1), .sc (.view (.pair (.int .i64) (.int .i64)) z.2.2.1), .sc (.ptr 5 0), .sc (.int .u64 z.2.2.2.1), .sc (.int .u64 z.2.2.2.2.1), .sc (.int .u64 z.2.2.2.2.2.1), .sc (.int .i64 z.2.2.2.2.2.2.1), .sc (.int .i64 z.2.2.2.2.2.2.2.1)], [.box [.int .i64 z.2.2.2.2.2.2.2.2.1, .int .i64 z.2.2.2.2.2.2.2.2.2]])))
noncomputable def D67_11 : LD := ⟨[(false, [.leaf (.int .i64)]), (false, [.leaf (.int .i64)]), (false, [.leaf (.sl (.pair (.int .i64) (.int .i64)))]), (false, [.fix (.ptr 5 0)]), (false, [.leaf (.int .u64)]), (false, [.leaf (.int .u64)]), (false, [.leaf (.int .u64)]), (false, [.leaf (.int .i64)]), (false, [.leaf (.int .i64)])], [.box [.leaf (.int .i64), .leaf (.int .i64)]]⟩
noncomputable def iso67_11 (d : (D67_11).I) : Int × Int × (List (Int × Int)) × Int × Int × Int × Int × Int × Int × Int := (d.1.1.1, d.1.2.1.1, d.1.2.2.1.1, d.1.2.2.2.2.1.1, d.1.2.2.2.2.2.1.1, d.1.2.2.2.2.2.2.1.1, d.1.2.2.2.2.2.2.2.1.1, d.1.2.2.2.2.2.2.2.2.1.1, d.2.1.1, d.2.1.2.1)
noncomputable def inv67_11 (z : Int × Int × (List (Int × Int)) × Int × Int × Int × Int × Int × Int × Int) : (D67_11).I := (((z.1, ()), (z.2.1, ()), (z.2.2.1, ()), ((), ()), (z.2.2.2.1, ()), (z.2.2.2.2.1, ()), (z.2.2.2.2.2.1, ()), (z.2.2.2.2.2.2.1, ()), (z.2.2.2.2.2.2.2.1, ()), ()), (z.2.2.2.2.2.2.2.2.1, z.2.2.2.2.2.2.2.2.2, ()), ())
noncomputable def g67_11 (k : Nat) (K : AExit → AS → Option (sig67).R) : (Int × Int × (List (Int × Int)) × Int × Int × Int × Int × Int × Int × Int) → ((Int × Int × (List (Int × Int)) × Int × Int × Int × Int × Int × Int × Int) → Option (sig67).R) → Option (sig67).R := L67_11 k (fun z => K .ret ((mx67 11 .ret).state ([.sc (.bool z)], []))) (fun z => K (.exit 2) ((mx67 11 (.exit 2)).state ([], [])))
noncomputable def lp67 (k : Nat) : Nat → LS → (AExit → AS → Option (sig67).R) → Option (sig67).R := lpOf [(4, ⟨D67_4, fun K d => loopC k (g67_4 k K) (iso67_4 d)⟩), (15, ⟨D67_15, fun K d => loopC k (g67_15 k K) (iso67_15 d)⟩), (11, ⟨D67_11, fun K d => loopC k (g67_11 k K) (iso67_11 d)⟩)]
noncomputable def body67_4 : Code := (loopBodies code67).getD 0 .skip
theorem step67_4 (k : Nat) (K : AExit → AS → Option (sig67).R) (x : _) (next : LS → Option (sig67).R) : roundK tab eqs (env67 k) (lp67 k) mh67 mx67 body67_4 K ((D67_4).enc (inv67_4 x)) next = g67_4 k K x fun y => next ((D67_4).enc (inv67_4 y)) := by kernel_rfl
noncomputable def body67_11 : Code := (loopBodies code67).getD 1 .skip
theorem step67_11 (k : Nat) (K : AExit → AS → Option (sig67).R) (x : _) (next : LS → Option (sig67).R) : roundK tab eqs (env67 k) (lp67 k) mh67 mx67 body67_11 K ((D67_11).enc (inv67_11 x)) next = g67_11 k K x fun y => next ((D67_11).enc (inv67_11 y)) := by kernel_rfl
noncomputable def body67_15 : Code := (loopBodies code67).getD 2 .skip
theorem step67_15 (k : Nat) (K : AExit → AS → Option (sig67).R) (x : _) (next : LS → Option (sig67).R) : roundK tab eqs (env67 k) (lp67 k) mh67 mx67 body67_15 K ((D67_15).enc (inv67_15 x)) next = g67_15 k K x fun y => next ((D67_15).enc (inv67_15 y)) := by kernel_rfl
theorem bodies67 : loopBodies code67 = [body67_4, body67_11, body67_15] := by kernel_rfl
theorem run67 (k : Nat) (x : argsI (sig67).args) : pevK tab eqs (env67 k) (lp67 k) mh67 code67 (startAS (sig67).args x) (finish tab Try.f67 sig67) = f67 k x := by kernel_rfl
theorem ok67 (k : Nat) : FnOK Try.prog 67 (spec67 k) := fn_ok hmix tab_ok eq_ok (env_ok _ (all_cons (ok113 k) (all_cons (ok114 k) (all_cons (ok115 k) (all_cons (ok116 k) (all_cons (ok117 k) all_nil)))))) Try.func67 (by kernel_rfl) (c := code67) (by kernel_rfl) (s := spec67 k) (by kernel_rfl) (by kernel_rfl) (lp67 k) mh67 mx67 k (loops_of (bodies67 ▸ (loops_cons (b := body67_4) (loop_ok2 D67_4 iso67_4 inv67_4 (fun _ => rfl) (g67_4 k) (fun _ _ => by kernel_rfl) (step67_4 k)) (loops_cons (b := body67_11) (loop_ok2 D67_11 iso67_11 inv67_11 (fun _ => rfl) (g67_11 k) (fun _ _ => by kernel_rfl) (step67_11 k)) (loops_cons (b := body67_15) (loop_ok2 D67_15 iso67_15 inv67_15 (fun _ => rfl) (g67_15 k) (fun _ _ => by kernel_rfl) (step67_15 k)) loops_nil))))) (run67 k)
noncomputable def sig14 : Sig := ⟨[.val false (.sl (.int .u8)), .val false (.int .u8), .val false (.int .u8), .val false (.int .i8)], [(false, [.ty (.bool)])], []⟩
noncomputable def spec14 (k : Nat) : FSpec := ⟨sig14, fun x => f14 k x⟩
noncomputable def code14 : Code := (Try.f14.body).getD .skip
noncomputable def env14 (k : Nat) : Env := envOf [(22, spec22 k), (24, spec24 k), (49, spec49 k), (52, spec52 k), (55, spec55 k), (59, spec59 k), (61, spec61 k), (65, spec65 k), (66, spec66 k), (67, spec67 k), (68, spec68 k), (69, spec69 k)]
noncomputable def mh14 (n : Nat) : Mask := bif Nat.beq n 14 then ⟨[(10, []), (15, []), (17, []), (110, []), (111, []), (112, [])], [(10, []), (17, [])], []⟩ else ⟨[], [], []⟩
noncomputable def mx14 (n : Nat) (e : AExit) : Mask := bif Nat.beq n 14 then (bif retIs e then ⟨[(8, [])], [], []⟩ else bif exitIs e 0 then ⟨[(17, [])], [(17, [])], []⟩ else  ⟨[], [], []⟩) else ⟨[], [], []⟩
noncomputable def D14_14 : LD := ⟨[(false, [.fix (.ptr 10 0)]), (false, [.leaf (.int .i64)]), (false, [.fix (.ptr 17 0)]), (false, [.leaf (.sl (.pair (.int .i64) (.int .i64)))]), (false, [.leaf (.int .i64)]), (false, [.leaf (.int .i64)])], [.box [.leaf (.int .i64), .leaf (.int .i64), .leaf (.int .i64), .leaf (.int .i64)], .box [.leaf (.int .i64), .leaf (.int .i64), .leaf (.int .i64), .leaf (.int .i64), .leaf (.int .i64), .leaf (.int .i64), .leaf (.int .i64), .leaf (.int .i64), .leaf (.int .i64), .leaf (.int .i64), .leaf (.int .i64), .leaf (.sl (.int .i32)), .leaf (.int .i64), .leaf (.int .i64)]]⟩
noncomputable def iso14_14 (d : (D14_14).I) : Int × (List (Int × Int)) × Int × Int × (Int × Int × Int × Int) × Int × Int × Int × Int × Int × Int × Int × Int × Int × Int × Int × List (Int) × Int × Int := (d.1.2.1.1, d.1.2.2.2.1.1, d.1.2.2.2.2.1.1, d.1.2.2.2.2.2.1.1, (d.2.1.1, d.2.1.2.1, d.2.1.2.2.1, d.2.1.2.2.2.1), d.2.2.1.1, d.2.2.1.2.1, d.2.2.1.2.2.1, d.2.2.1.2.2.2.1, d.2.2.1.2.2.2.2.1, d.2.2.1.2.2.2.2.2.1, d.2.2.1.2.2.2.2.2.2.1, d.2.2.1.2.2.2.2.2.2.2.1, d.2.2.1.2.2.2.2.2.2.2.2.1, d.2.2.1.2.2.2.2.2.2.2.2.2.1, d.2.2.1.2.2.2.2.2.2.2.2.2.2.1, d.2.2.1.2.2.2.2.2.2.2.2.2.2.2.1, d.2.2.1.2.2.2.2.2.2.2.2.2.2.2.2.1, d.2.2.1.2.2.2.2.2.2.2.2.2.2.2.2.2.1)
noncomputable def inv14_14 (z : Int × (List (Int × Int)) × Int × Int × (Int × Int × Int × Int) × Int × Int × Int × Int × Int × Int × Int × Int × Int × Int × Int × List (Int) × Int × Int) : (D14_14).I := ((((), ()), (z.1, ()), ((), ()), (z.2.1, ()), (z.2.2.1, ()), (z.2.2.2.1, ()), ()), (z.2.2.2.2.1.1, z.2.2.2.2.1.2.1, z.2.2.2.2.1.2.2.1, z.2.2.2.2.1.2.2.2, ()), (z.2.2.2.2.2.1, z.2.2.2.2.2.2.1, z.2.2.2.2.2.2.2.1, z.2.2.2.2.2.2.2.2.1, z.2.2.2.2.2.2.2.2.2.1, z.2.2.2.2.2.2.2.2.2.2.1, z.2.2.2.2.2.2.2.2.2.2.2.1, z.2.2.2.2.2.2.2.2.2.2.2.2.1, z.2.2.2.2.2.2.2.2.2.2.2.2.2.1, z.2.2.2.2.2.2.2.2.2.2.2.2.2.2.1, z.2.2.2.2.2.2.2.2.2.2.2.2.2.2.2.1, z.2.2.2.2.2.2.2.2.2.2.2.2.2.2.2.2.1, z.2.2.2.2.2.2.2.2.2.2.2.2.2.2.2.2.2.1, z.2.2.2.2.2.2.2.2.2.2.2.2.2.2.2.2.2.2, ()), ())
noncomputable def g14_14 (k : Nat) (K : AExit → AS → Option (sig14).R) : (Int × (List (Int × Int)) × Int × Int × (Int × Int × Int × Int) × Int × Int × Int × Int × Int × Int × Int × Int × Int × Int × Int × List (Int) × Int × Int) → ((Int × (List (Int × Int)) × Int × Int × (Int × Int × Int × Int) × Int × Int × Int × Int × Int × Int × Int × Int × Int × Int × Int × List (Int) × Int × Int) → Option (sig14).R) → Option (sig14).R := L14_14 k (fun z => K .ret ((mx14 14 .ret).state ([.sc (.bool z)], []))) (fun z => K (.exit 0) ((mx14 14 (.exit 0)).state ([.sc (.ptr 17 0)], [.box [.int .i64 z.1, .int .i64 z.2.1, .int .i64 z.2.2.1, .int .i64 z.2.2.2.1, .int .i64 z.2.2.2.2.1, .int .i64 z.2.2.2.2.2.1, .int .i64 z.2.2.2.2.2.2.1, .int .i64 z.2.2.2.2.2.2.2.1, .int .i64 z.2.2.2.2.2.2.2.2.1, .int .i64 z.2.2.2.2.2.2.2.2.2.1, .int .i64 z.2.2.2.2.2.2.2.2.2.2.1, .view (.int .i32) z.2.2.2.2.2.2.2.2.2.2.2.1, .int .i64 z.2.2.2.2.2.2.2.2.2.2.2.2.1, .int .i64 z.2.2.2.2.2.2.2.2.2.2.2.2.2]])))
noncomputable def lp14 (k : Nat) : Nat → LS → (AExit → AS → Option (sig14).R) → Option (sig14).R := lpOf [(14, ⟨D14_14, fun K d => loopC k (g14_14 k K) (iso14_14 d)⟩)]
noncomputable def body14_14 : Code := (loopBodies code14).getD 0 .skip
theorem step14_14 (k : Nat) (K : AExit → AS → Option (sig14).R) (x : _) (next : LS → Option (sig14).R) : roundK tab eqs (env14 k) (lp14 k) mh14 mx14 body14_14 K ((D14_14).enc (inv14_14 x)) next = g14_14 k K x fun y => next ((D14_14).enc (inv14_14 y)) := by kernel_rfl
theorem bodies14 : loopBodies code14 = [body14_14] := by kernel_rfl
theorem run14 (k : Nat) (x : argsI (sig14).args) : pevK tab eqs (env14 k) (lp14 k) mh14 code14 (startAS (sig14).args x) (finish tab Try.f14 sig14) = f14 k x := by kernel_rfl
theorem ok14 (k : Nat) : FnOK Try.prog 14 (spec14 k) := fn_ok hmix tab_ok eq_ok (env_ok _ (all_cons (ok22 k) (all_cons (ok24 k) (all_cons (ok49 k) (all_cons (ok52 k) (all_cons (ok55 k) (all_cons (ok59 k) (all_cons (ok61 k) (all_cons (ok65 k) (all_cons (ok66 k) (all_cons (ok67 k) (all_cons (ok68 k) (all_cons (ok69 k) all_nil))))))))))))) Try.func14 (by kernel_rfl) (c := code14) (by kernel_rfl) (s := spec14 k) (by kernel_rfl) (by kernel_rfl) (lp14 k) mh14 mx14 k (loops_of (bodies14 ▸ (loops_cons (b := body14_14) (loop_ok2 D14_14 iso14_14 inv14_14 (fun _ => rfl) (g14_14 k) (fun _ _ => by kernel_rfl) (step14_14 k)) loops_nil))) (run14 k)
end Go.Proofs.Ytbfkfobfhjgphaa.Fn

/- The law BridgeHolds, in plain words: the theorem of the control loop. -/
set_option linter.unusedVariables false
set_option linter.unusedSimpArgs false
namespace Go.Proofs.Ytbfkfobfhjgphaa.Sp
open Go Go.Pev Go.Snd Go.Proofs.Ytbfkfobfhjgphaa.Fn

/-- the deviation and the phase's fraction before each quantum -/
def dev (bn bd tgt dead gain most D0 : Int) (pull push : Nat → Int) : Nat → Int × Int
  | 0 => (D0, 0)
  | k + 1 => ((dev bn bd tgt dead gain most D0 pull push k).1 - ((dev bn bd tgt dead gain most D0 pull push k).2 + pull k * bn * (65536 + adjS tgt dead gain most (tgt + (dev bn bd tgt dead gain most D0 pull push k).1))) / (bd * 65536) + push k,
      ((dev bn bd tgt dead gain most D0 pull push k).2 + pull k * bn * (65536 + adjS tgt dead gain most (tgt + (dev bn bd tgt dead gain most D0 pull push k).1))) % (bd * 65536))
theorem adjS_hi {tgt dead gain most D R : Int} (h : CtOK tgt dead gain most) (hR : dead + cdiv most gain ≤ R) (hD : R < D) : adjS tgt dead gain most (tgt + D) = most := by
  have d0 := h.d0
  have g0 := h.g0
  have m0 := h.m0
  have u1 := cdiv_nonneg m0 g0
  have e1 : most ≤ cdiv most gain * gain := (cdiv_le (by omega)).1 (Int.le_refl _)
  have e2 := Int.mul_le_mul_of_nonneg_right (show cdiv most gain ≤ D - dead by omega) (show 0 ≤ gain by omega)
  unfold adjS
  rw [if_neg (by omega), show max 0 (tgt + D - tgt - dead) = D - dead by omega]
  omega
theorem adjS_lo {tgt dead gain most D R : Int} (h : CtOK tgt dead gain most) (hR : dead + cdiv most gain ≤ R) (hD : D < -R) : adjS tgt dead gain most (tgt + D) = -most := by
  have d0 := h.d0
  have g0 := h.g0
  have m0 := h.m0
  have u1 := cdiv_nonneg m0 g0
  have e1 : most ≤ cdiv most gain * gain := (cdiv_le (by omega)).1 (Int.le_refl _)
  have e2 := Int.mul_le_mul_of_nonneg_right (show cdiv most gain ≤ -D - dead by omega) (show 0 ≤ gain by omega)
  unfold adjS
  rw [if_pos (by omega), show max 0 (tgt - (tgt + D) - dead) = -D - dead by omega]
  omega

section
variable {bn bd W dr jit α β : Int} {s u : Nat → Int} {tgt dead gain most R D0 : Int}

theorem su_bd (h : Traf bn bd W dr jit α β s u) (i j : Nat) (hij : i < j) :
    65536 * (bn * (cum (W * bd * (65536 + β)) (65536 * bn) j + u j) - bn * (cum (W * bd * (65536 + β)) (65536 * bn) i + u i)) ≤ ((j : Int) - i) * (W * bd * 65536) + ((j : Int) - i) * (W * bd) * β + 131072 * bn ∧
    ((j : Int) - i) * (W * bd * 65536) + ((j : Int) - i) * (W * bd) * β - 131072 * bn ≤ 65536 * (bn * (cum (W * bd * (65536 + β)) (65536 * bn) j + u j) - bn * (cum (W * bd * (65536 + β)) (65536 * bn) i + u i)) := by
  have hb := h.base.n1
  obtain ⟨a1, a2⟩ := cum_bd (c := W * bd * (65536 + β)) (show 0 < 65536 * bn by omega) i
  obtain ⟨b1, b2⟩ := cum_bd (c := W * bd * (65536 + β)) (show 0 < 65536 * bn by omega) j
  have e : (j : Int) * (W * bd * (65536 + β)) - (i : Int) * (W * bd * (65536 + β)) = ((j : Int) - i) * (W * bd * 65536) + ((j : Int) - i) * (W * bd) * β := by
    rw [← Int.sub_mul, Int.mul_add, Int.mul_add, Int.mul_assoc ((j : Int) - i) (W * bd) β]
  generalize cum (W * bd * (65536 + β)) (65536 * bn) i = X at *
  generalize cum (W * bd * (65536 + β)) (65536 * bn) j = Y at *
  have hu := h.u1 i
  have hv := h.u1 j
  have e1 : 65536 * (bn * (Y + u j) - bn * (X + u i)) = 65536 * bn * Y - 65536 * bn * X + 65536 * (bn * (u j - u i)) := by
    rw [Int.mul_sub, Int.mul_add, Int.mul_add, Int.mul_add, Int.mul_add, Int.mul_sub, Int.mul_sub, Int.mul_assoc, Int.mul_assoc]; omega
  have e2 := Int.mul_le_mul_of_nonneg_left (show u j - u i ≤ 1 by omega) (show 0 ≤ bn by omega)
  have e3 := Int.mul_le_mul_of_nonneg_left (show -1 ≤ u j - u i by omega) (show 0 ≤ bn by omega)
  rw [e1]
  omega
theorem sv_bd (h : Traf bn bd W dr jit α β s u) (i j : Nat) (hij : i < j) :
    65536 * (bd * (cum (W * (65536 + α)) 65536 j + s j) - bd * (cum (W * (65536 + α)) 65536 i + s i)) ≤ ((j : Int) - i) * (W * bd * 65536) + ((j : Int) - i) * (W * bd) * α + 131072 * bd ∧
    ((j : Int) - i) * (W * bd * 65536) + ((j : Int) - i) * (W * bd) * α - 131072 * bd ≤ 65536 * (bd * (cum (W * (65536 + α)) 65536 j + s j) - bd * (cum (W * (65536 + α)) 65536 i + s i)) := by
  have hb := h.base.d1
  obtain ⟨a1, a2⟩ := cum_bd (c := W * (65536 + α)) (show (0 : Int) < 65536 by omega) i
  obtain ⟨b1, b2⟩ := cum_bd (c := W * (65536 + α)) (show (0 : Int) < 65536 by omega) j
  have e : bd * ((j : Int) * (W * (65536 + α)) - (i : Int) * (W * (65536 + α))) = ((j : Int) - i) * (W * bd * 65536) + ((j : Int) - i) * (W * bd) * α := by
    rw [← Int.sub_mul, Int.mul_add, Int.mul_add, Int.mul_add]
    congr 1 <;> ac_rfl
  generalize cum (W * (65536 + α)) 65536 i = X at *
  generalize cum (W * (65536 + α)) 65536 j = Y at *
  generalize (j : Int) * (W * (65536 + α)) = p at *
  generalize (i : Int) * (W * (65536 + α)) = q at *
  have hu := h.s1 i
  have hv := h.s1 j
  have e1 : 65536 * (bd * (Y + s j) - bd * (X + s i)) = bd * (65536 * Y - 65536 * X) + 65536 * (bd * (s j - s i)) := by
    rw [Int.mul_sub, Int.mul_add, Int.mul_add, Int.mul_add, Int.mul_add, Int.mul_sub, Int.mul_sub, Int.mul_sub]
    have r1 : 65536 * (bd * Y) = bd * (65536 * Y) := by ac_rfl
    have r2 : 65536 * (bd * X) = bd * (65536 * X) := by ac_rfl
    omega
  have e2 := Int.mul_le_mul_of_nonneg_left (show s j - s i ≤ 1 by omega) (show 0 ≤ bd by omega)
  have e3 := Int.mul_le_mul_of_nonneg_left (show -1 ≤ s j - s i by omega) (show 0 ≤ bd by omega)
  have e4 := Int.mul_le_mul_of_nonneg_left (show 65536 * Y - 65536 * X ≤ p - q + 65536 by omega) (show 0 ≤ bd by omega)
  have e5 := Int.mul_le_mul_of_nonneg_left (show p - q - 65536 ≤ 65536 * Y - 65536 * X by omega) (show 0 ≤ bd by omega)
  rw [Int.mul_add] at e4
  rw [Int.mul_sub] at e5
  rw [e1]
  omega
/-- half of the drift -/
theorem half_bd {m wd x dr : Int} (hm : 0 ≤ m) (hw : 0 ≤ wd) (h1 : -dr ≤ 2 * x) (h2 : 2 * x ≤ dr) : -(m * (wd * dr)) ≤ 2 * (m * wd * x) ∧ 2 * (m * wd * x) ≤ m * (wd * dr) := by
  have h0 := Int.mul_nonneg hm hw
  have e1 := Int.mul_le_mul_of_nonneg_left h1 h0
  have e2 := Int.mul_le_mul_of_nonneg_left h2 h0
  have r1 : m * wd * (2 * x) = 2 * (m * wd * x) := by ac_rfl
  have r2 : m * wd * dr = m * (wd * dr) := Int.mul_assoc _ _ _
  rw [Int.mul_neg] at e1
  omega

theorem holds_run (h : Traf bn bd W dr jit α β s u) (hc : CtOK tgt dead gain most) (hg : 65536 * dr ≤ most * (65536 - dr)) (hR0 : 0 ≤ R) (hD : -R ≤ D0 ∧ D0 ≤ R) :
    Run bd (W * bd) dr (jit * bd) most R 40
      (fun k => (dev bn bd tgt dead gain most D0 (fun i => (mv bn bd W (65536 + α) (65536 + β) s u i).1) (fun i => (mv bn bd W (65536 + α) (65536 + β) s u i).2) k).1)
      (fun k => (dev bn bd tgt dead gain most D0 (fun i => (mv bn bd W (65536 + α) (65536 + β) s u i).1) (fun i => (mv bn bd W (65536 + α) (65536 + β) s u i).2) k).2)
      (fun k => adjS tgt dead gain most (tgt + (dev bn bd tgt dead gain most D0 (fun i => (mv bn bd W (65536 + α) (65536 + β) s u i).1) (fun i => (mv bn bd W (65536 + α) (65536 + β) s u i).2) k).1))
      (fun k => (mv bn bd W (65536 + α) (65536 + β) s u k).1 * bn) (fun k => (mv bn bd W (65536 + α) (65536 + β) s u k).2)
      (fun k => ((dev bn bd tgt dead gain most D0 (fun i => (mv bn bd W (65536 + α) (65536 + β) s u i).1) (fun i => (mv bn bd W (65536 + α) (65536 + β) s u i).2) k).2 + (mv bn bd W (65536 + α) (65536 + β) s u k).1 * bn * (65536 + adjS tgt dead gain most (tgt + (dev bn bd tgt dead gain most D0 (fun i => (mv bn bd W (65536 + α) (65536 + β) s u i).1) (fun i => (mv bn bd W (65536 + α) (65536 + β) s u i).2) k).1))) / (bd * 65536))
      (fun k => bn * (cum (W * bd * (65536 + β)) (65536 * bn) k + u k)) (fun k => bd * (cum (W * (65536 + α)) 65536 k + s k)) := by
  have hb := h.base.n1
  have hd := h.base.d1
  have hj2 := h.j2
  have hj0 := h.j0
  have hdr := h.d0
  obtain ⟨_, _, _, _, hw1, hw2⟩ := h.cs
  exact {
    hden := by omega
    hwd := by omega
    hdr := hdr
    hJ := Int.mul_nonneg (by omega) (by omega)
    hM := hc.m0
    hM' := hc.m1
    hR := hR0
    hq := fun k => Int.mul_nonneg (mv_bd h k).1 (by omega)
    su := fun k => by
      unfold mv
      simp only
      rw [Int.mul_comm (cum _ _ (k + 1) - cum _ _ k + u (k + 1) - u k) bn, ← Int.mul_add]
      congr 1; omega
    sv := fun k => by
      unfold mv
      simp only
      rw [Int.mul_comm (cum _ _ (k + 1) - cum _ _ k + s (k + 1) - s k) bd, ← Int.mul_add]
      congr 1; omega
    start := ⟨hD.2, hD.1⟩
    up := fun i j hij _ => by
      obtain ⟨q1, q2⟩ := su_bd h i j hij
      obtain ⟨p1, p2⟩ := half_bd (show 0 ≤ (j : Int) - i by omega) (show 0 ≤ W * bd by omega) h.c1 h.c2
      have p3 := Int.mul_nonneg (show 0 ≤ (j : Int) - i by omega) (Int.mul_nonneg (show 0 ≤ W * bd by omega) hdr)
      omega
    low := fun i j hij _ => by
      obtain ⟨q1, q2⟩ := su_bd h i j hij
      obtain ⟨p1, p2⟩ := half_bd (show 0 ≤ (j : Int) - i by omega) (show 0 ≤ W * bd by omega) h.c1 h.c2
      have p3 := Int.mul_nonneg (show 0 ≤ (j : Int) - i by omega) (Int.mul_nonneg (show 0 ≤ W * bd by omega) hdr)
      omega
    vu := fun i j hij _ => by
      obtain ⟨q1, q2⟩ := su_bd h i j hij
      obtain ⟨q3, q4⟩ := sv_bd h i j hij
      obtain ⟨p1, p2⟩ := half_bd (show 0 ≤ (j : Int) - i by omega) (show 0 ≤ W * bd by omega) h.c1 h.c2
      obtain ⟨p3, p4⟩ := half_bd (show 0 ≤ (j : Int) - i by omega) (show 0 ≤ W * bd by omega) h.a1 h.a2
      omega
    uv := fun i j hij _ => by
      obtain ⟨q1, q2⟩ := su_bd h i j hij
      obtain ⟨q3, q4⟩ := sv_bd h i j hij
      obtain ⟨p1, p2⟩ := half_bd (show 0 ≤ (j : Int) - i by omega) (show 0 ≤ W * bd by omega) h.c1 h.c2
      obtain ⟨p3, p4⟩ := half_bd (show 0 ≤ (j : Int) - i by omega) (show 0 ≤ W * bd by omega) h.a1 h.a2
      omega
    gain := hg }

theorem dev_succ (pull push : Nat → Int) (k : Nat) : dev bn bd tgt dead gain most D0 pull push (k + 1) =
    ((dev bn bd tgt dead gain most D0 pull push k).1 - ((dev bn bd tgt dead gain most D0 pull push k).2 + pull k * bn * (65536 + adjS tgt dead gain most (tgt + (dev bn bd tgt dead gain most D0 pull push k).1))) / (bd * 65536) + push k,
      ((dev bn bd tgt dead gain most D0 pull push k).2 + pull k * bn * (65536 + adjS tgt dead gain most (tgt + (dev bn bd tgt dead gain most D0 pull push k).1))) % (bd * 65536)) := rfl
theorem dev_frac (hd : 0 < bd) (pull push : Nat → Int) : ∀ k, 0 ≤ (dev bn bd tgt dead gain most D0 pull push k).2 ∧ (dev bn bd tgt dead gain most D0 pull push k).2 < bd * 65536
  | 0 => by simp only [dev]; omega
  | k + 1 => by
    simp only [dev]
    exact ⟨Int.emod_nonneg _ (by omega), Int.emod_lt_of_pos _ (by omega)⟩
theorem dev_quantum (hd : 0 < bd) (hc : CtOK tgt dead gain most) (hR : dead + cdiv most gain ≤ R) (pull push : Nat → Int) (k : Nat) :
    Quantum bd most R (dev bn bd tgt dead gain most D0 pull push k).1 (dev bn bd tgt dead gain most D0 pull push (k + 1)).1 (dev bn bd tgt dead gain most D0 pull push k).2 (dev bn bd tgt dead gain most D0 pull push (k + 1)).2
      (adjS tgt dead gain most (tgt + (dev bn bd tgt dead gain most D0 pull push k).1)) (pull k * bn) (push k)
      (((dev bn bd tgt dead gain most D0 pull push k).2 + pull k * bn * (65536 + adjS tgt dead gain most (tgt + (dev bn bd tgt dead gain most D0 pull push k).1))) / (bd * 65536)) where
  f0 := (dev_frac hd pull push k).1
  f1 := (dev_frac hd pull push k).2
  f0' := (dev_frac hd pull push (k + 1)).1
  f1' := (dev_frac hd pull push (k + 1)).2
  fg := by
    simp only [dev]
    exact Int.emod_add_mul_ediv _ _
  dd := by simp only [dev]
  a0 := (adjS_bd hc _).1
  a1 := (adjS_bd hc _).2
  hi := adjS_hi hc hR
  lo := adjS_lo hc hR

/-- what is passed over in one quantum -/
theorem gone_quantum (h : Traf bn bd W dr jit α β s u) (hc : CtOK tgt dead gain most) (hm : most ≤ 1700) (k : Nat) {F a : Int} (hF : F < bd * 65536) (ha : a ≤ most) (ha0 : -most ≤ a) :
    (F + (mv bn bd W (65536 + α) (65536 + β) s u k).1 * bn * (65536 + a)) / (bd * 65536) ≤ W + sway W (dr + most) + 2 * jit := by
  have hb := h.base.n1
  have hd := h.base.d1
  have hj2 := h.j2
  have hj0 := h.j0
  have hdr := h.d0
  have hdr1 := h.d1
  have m0 := hc.m0
  have w1 := h.w1
  have w2 := h.w2
  obtain ⟨_, _, _, _, hw1, hw2⟩ := h.cs
  obtain ⟨s1, s2, s3, s4, s5⟩ := sway_bd (show 0 ≤ W by omega) w2 (show 0 ≤ dr + most by omega) (show dr + most ≤ 8192 by omega)
  obtain ⟨q1, q2⟩ := su_bd h k (k + 1) (by omega)
  obtain ⟨p1, p2⟩ := half_bd (show 0 ≤ ((k + 1 : Nat) : Int) - k by omega) (show 0 ≤ W * bd by omega) h.c1 h.c2
  have em : ((k + 1 : Nat) : Int) - k = 1 := by omega
  rw [em, Int.one_mul, Int.one_mul] at q1 p1 p2
  have hq0 := Int.mul_nonneg (mv_bd h k).1 (show 0 ≤ bn by omega)
  have hq : (mv bn bd W (65536 + α) (65536 + β) s u k).1 * bn = bn * (cum (W * bd * (65536 + β)) (65536 * bn) (k + 1) + u (k + 1)) - bn * (cum (W * bd * (65536 + β)) (65536 * bn) k + u k) := by
    unfold mv
    simp only
    rw [Int.mul_comm _ bn, ← Int.mul_sub]
    congr 1; omega
  rw [← hq] at q1
  generalize (mv bn bd W (65536 + α) (65536 + β) s u k).1 * bn = q at *
  have hP : 0 < bd * 65536 := by omega
  have hX : F + q * (65536 + a) < bd * 65536 * (W + sway W (dr + most) + 2 * jit + 1) := by
    have e1 := Int.mul_le_mul_of_nonneg_left ha hq0
    have hJ := Int.mul_nonneg (show 0 ≤ jit by omega) (show 0 ≤ bd by omega)
    -- 65536 q <= wd 65536 + wd dr + 65536 J
    have k1 : 65536 * q ≤ W * bd * 65536 + W * bd * dr + 65536 * (jit * bd) := by omega
    have k2 := Int.mul_le_mul_of_nonneg_right k1 m0
    have p0 := Int.mul_nonneg (show 0 ≤ W * bd by omega) hdr
    have pm := Int.mul_nonneg (show 0 ≤ W * bd by omega) m0
    have k3 := Int.mul_le_mul_of_nonneg_left hm p0
    have k4 := Int.mul_le_mul_of_nonneg_left hm hJ
    have r1 : 65536 * q * most = 65536 * (q * most) := Int.mul_assoc _ _ _
    have r2 : (W * bd * 65536 + W * bd * dr + 65536 * (jit * bd)) * most = 65536 * (W * bd * most) + W * bd * dr * most + 65536 * (jit * bd * most) := by
      rw [Int.add_mul, Int.add_mul]
      congr 1
      · congr 1
        ac_rfl
      · ac_rfl
    have r3 : bd * 65536 * (W + sway W (dr + most) + 2 * jit + 1) = 65536 * (W * bd) + bd * (sway W (dr + most) * 65536) + 131072 * (jit * bd) + bd * 65536 := by
      rw [Int.mul_add, Int.mul_add, Int.mul_add, Int.mul_one]
      congr 1
      congr 1
      · congr 1
        · ac_rfl
        · ac_rfl
      · calc bd * 65536 * (2 * jit) = (65536 * 2) * (jit * bd) := by ac_rfl
          _ = 131072 * (jit * bd) := rfl
    have k5 := Int.mul_le_mul_of_nonneg_left s3 (show 0 ≤ bd by omega)
    have r4 : bd * (2 * W * (dr + most)) = 2 * (W * bd * dr) + 2 * (W * bd * most) := by
      rw [Int.mul_add, Int.mul_add]
      congr 1 <;> ac_rfl
    have r5 : W * bd * 65536 = 65536 * (W * bd) := Int.mul_comm _ _
    have r6 : q * (65536 + a) = 65536 * q + q * a := by rw [Int.mul_add, Int.mul_comm q 65536]
    rw [r6, r3]
    rw [r4] at k5
    rw [r1, r2] at k2
    rw [r5] at k1
    generalize W * bd * dr = x1 at *
    generalize W * bd * most = x2 at *
    generalize x1 * most = x3 at *
    generalize jit * bd * most = x4 at *
    generalize jit * bd = J at *
    generalize W * bd = wd at *
    generalize q * most = x5 at *
    generalize q * a = x6 at *
    generalize bd * (sway W (dr + most) * 65536) = x7 at *
    omega
  have := Int.ediv_lt_of_lt_mul hP (by rw [Int.mul_comm (W + sway W (dr + most) + 2 * jit + 1) (bd * 65536)]; exact hX : F + q * (65536 + a) < (W + sway W (dr + most) + 2 * jit + 1) * (bd * 65536))
  omega
end

theorem map_getD {α : Type} (f : Nat → α) (n i : Nat) (h : i < n) (d : α) : ((List.range n).map f).getD i d = f i := by
  simp [List.getD, h]

/-- BridgeHolds -/
theorem law14 {k : Nat} (hk : Big k) (hs : f49 k () = some true) (seeds : List Int) (hseeds : ∀ x ∈ seeds, 0 ≤ x ∧ x ≤ 255) (dead gain start : Int) (hde : 0 ≤ dead ∧ dead ≤ 255) (hga : 0 ≤ gain ∧ gain ≤ 255) (hst : -128 ≤ start ∧ start ≤ 127) : f14 k (seeds, dead, gain, start) = some true := by
  obtain ⟨l, e1, hl⟩ := s22 k hseeds
  obtain ⟨bn, bd, W, dr, jit, α, β, s, u, l', e2, ht⟩ := s65 hk hl
  have w1 := ht.w1
  have w2 := ht.w2
  have d0 := ht.d0
  have d1 := ht.d1
  have j0 := ht.j0
  have j1 := ht.j1
  have hbd := ht.base.d1
  have m2 : IntKind.wrap .i64 (Int.tmod dead 40) = dead % 40 := by rw [tmod_pos hde.1, w64 (by omega) (by omega)]
  have g2 : IntKind.wrap .i64 (1 + IntKind.wrap .i64 gain) = 1 + gain := by rw [w64 (x := gain) (by omega) (by omega), w64 (by omega) (by omega)]
  obtain ⟨most, hmost⟩ : ∃ m, m = cdiv (65536 * dr) (65536 - dr) := ⟨_, rfl⟩
  obtain ⟨st, hst'⟩ : ∃ m, m = sway W dr + jit + 1 := ⟨_, rfl⟩
  obtain ⟨bnd, hbnd⟩ : ∃ m, m = bndS (dead % 40) (1 + gain) most W dr jit st := ⟨_, rfl⟩
  obtain ⟨dem, hdem⟩ : ∃ m, m = demS most W dr jit := ⟨_, rfl⟩
  obtain ⟨p1, p2, p3, p4, p5, p6, p7, p8, p9, p10⟩ := s66 hk (show 1 ≤ W by omega) w2 d0 d1 (show 0 ≤ jit by omega) (show jit ≤ 100 by omega) (show 0 ≤ dead % 40 by omega) (by omega) (show 1 ≤ 1 + gain by omega) (by omega) hmost hst' hbnd hdem
  obtain ⟨r, e3⟩ := s67 hk bn bd W 1 dr jit ((List.range 40).map (mv bn bd W (65536 + α) (65536 + β) s u))
  have e4 := s68 k (show 0 ≤ W by omega) w2 d0 (show dr ≤ 4096 by omega) (show 0 ≤ jit by omega) (show jit ≤ 100 by omega)
  rw [← hst'] at e4
  have hct : CtOK (dem + bnd) (dead % 40) (1 + gain) most := ⟨by omega, by omega, by omega, by omega, by omega, by omega, p6, by omega⟩
  have e5 := s69 hk (start := st) hct (show 1 ≤ W by omega) w2 d0 (show dr ≤ 1536 by omega) p7 (show 0 ≤ jit by omega) (show jit ≤ 100 by omega) p9 (by omega) p8
  rw [← hbnd] at e5
  -- the start
  have hoff : ∃ off, Int.tmod (IntKind.wrap .i64 start) (IntKind.wrap .i64 (st + 1)) = off ∧ -st ≤ off ∧ off ≤ st := by
    refine ⟨_, rfl, ?_⟩
    rw [w64 (x := start) (by omega) (by omega), w64 (x := st + 1) (by omega) (by omega)]
    have a1 := Int.tmod_lt_of_pos start (show 0 < st + 1 by omega)
    have a2 := Int.lt_tmod_of_pos start (show 0 < st + 1 by omega)
    omega
  obtain ⟨off, ho, o1, o2⟩ := hoff
  have u1 := cdiv_nonneg p6 (show 1 ≤ 1 + gain by omega)
  obtain ⟨y1, y2, y3, _, _⟩ := sway_bd (show 0 ≤ W by omega) w2 (show 0 ≤ dr + most by omega) (show dr + most ≤ 8192 by omega)
  obtain ⟨R, hR⟩ : ∃ R, R = max st (dead % 40 + cdiv most (1 + gain)) := ⟨_, rfl⟩
  have hbe : bnd = R + sway W (dr + most) + 2 * jit + 2 := by rw [hbnd, hR]; rfl
  have hde' : dem = W + sway W (dr + most) + 2 * jit + 3 := hdem
  obtain ⟨n1, n2, n3⟩ := newBr_ok (ch := 1) (cap := dem + bnd + bnd) (fill := dem + bnd + off) (by omega) (by omega) ht.base hct (by omega) (by omega) (by omega) (by omega)
  have hz : (IntKind.wrap .i64 (st + 1) == 0) = false := by rw [w64 (by omega) (by omega)]; simp; omega
  have hw0 : IntKind.wrap .i64 (dem + bnd + off) = dem + bnd + off := w64 (by omega) (by omega)
  unfold f14
  simp only [hs, e1, e2, m2, g2, p1, e3, e4, e5, hz, ho, hw0, s61 hk, n1, Option.bind_some, Bool.not_true, cond_false, bne_self_eq_false]
  cases r with
  | false => rfl
  | true =>
    simp only [Bool.not_true, cond_false]
    obtain ⟨tgt, htgt⟩ : ∃ t, dem + bnd = t := ⟨_, rfl⟩
    simp only [htgt]
    rw [htgt] at n2 n3 hct
    -- the run
    have hrun := holds_run (R := R) (D0 := off) ht hct p8 (by omega) (by omega)
    have hquant := fun kk : Nat => dev_quantum (bn := bn) (D0 := off) (R := R) (show 0 < bd by omega) hct (by omega) (fun i => (mv bn bd W (65536 + α) (65536 + β) s u i).1) (fun i => (mv bn bd W (65536 + α) (65536 + β) s u i).2) kk
    have hfrac := dev_frac (bn := bn) (tgt := tgt) (dead := dead % 40) (gain := 1 + gain) (most := most) (D0 := off) (show 0 < bd by omega) (fun i => (mv bn bd W (65536 + α) (65536 + β) s u i).1) (fun i => (mv bn bd W (65536 + α) (65536 + β) s u i).2)
    have hbound := fun (j : Nat) (hj : j ≤ 40) => hrun.bound (B := sway W (dr + most)) (jit := jit) (by
        have e := Int.mul_le_mul_of_nonneg_left y3 (show 0 ≤ bd by omega)
        have r1 : bd * (2 * W * (dr + most)) = 2 * (W * bd * (dr + most)) := by ac_rfl
        have r2 : bd * (sway W (dr + most) * 65536) = bd * (65536 * sway W (dr + most)) := by ac_rfl
        omega) y1 (by omega) rfl j hj (hfrac j) (fun kk _ => hquant kk)
    have hdev := fun j => dev_succ (bn := bn) (bd := bd) (tgt := tgt) (dead := dead % 40) (gain := 1 + gain) (most := most) (D0 := off) (fun i => (mv bn bd W (65536 + α) (65536 + β) s u i).1) (fun i => (mv bn bd W (65536 + α) (65536 + β) s u i).2) j
    have hdev0 : dev bn bd tgt (dead % 40) (1 + gain) most off (fun i => (mv bn bd W (65536 + α) (65536 + β) s u i).1) (fun i => (mv bn bd W (65536 + α) (65536 + β) s u i).2) 0 = (off, 0) := rfl
    have hgone := fun (kk : Nat) (F a : Int) => gone_quantum (F := F) (a := a) ht hct p7 kk
    clear hrun hquant
    generalize dev bn bd tgt (dead % 40) (1 + gain) most off (fun i => (mv bn bd W (65536 + α) (65536 + β) s u i).1) (fun i => (mv bn bd W (65536 + α) (65536 + β) s u i).2) = dv at *
    have hml : ((List.range 40).map (mv bn bd W (65536 + α) (65536 + β) s u)).length = 40 := by simp
    have hmv := fun i => mv_bd ht i
    have hget := fun (i : Nat) (h : i < 40) => map_getD (mv bn bd W (65536 + α) (65536 + β) s u) 40 i h ((0 : Int), (0 : Int))
    generalize hM : (List.range 40).map (mv bn bd W (65536 + α) (65536 + β) s u) = M at *
    generalize mv bn bd W (65536 + α) (65536 + β) s u = mvf at *
    rw [hml]
    refine loopC_spec (L14_14 k _ _) (fun y => ∃ (i : Nat) (adj pos : Int) (rest : List Int), y = (bnd, M, ((40 : Nat) : Int), (i : Int), (tgt, dead % 40, 1 + gain, most), (tgt + bnd, tgt, dead % 40, 1 + gain, most, 1, bn, bd, adj, pos, (dv i).2, rest, 0, 0)) ∧ i ≤ 40 ∧ BrOK (tgt + bnd) tgt (dead % 40) (1 + gain) most 1 bn bd adj pos (dv i).2 rest 0 0 ∧ frames 1 rest = tgt + (dv i).1 ∧ pos ≤ 1000 * i) (fun _ => some true) (fun y => (40 - y.2.2.2.1).toNat) ?_ k _ ⟨0, 0, 0, _, by rw [hdev0]; rfl, by omega, by rw [hdev0]; exact n2, by rw [hdev0, n3], by omega⟩ (hk.lt (by simp only; omega))
    rintro y next ⟨i, adj, pos, rest, rfl, hi, hb, hf, hpos⟩ hnext
    simp only at hnext
    unfold L14_14
    simp only
    by_cases hlt : i < 40
    · have hfill : fillS (tgt + bnd) tgt (dead % 40) (1 + gain) most 1 bn bd adj pos (dv i).2 rest 0 0 = frames 1 rest := by unfold fillS; rw [if_pos ((brOK_iff _ _ _ _ _ _ _ _ _ _ _ _ _ _).2 hb)]
      have hlen := hb.r.b.len_le
      obtain ⟨b1, b2⟩ := hbound i (by omega)
      obtain ⟨b3, b4⟩ := hbound (i + 1) (by omega)
      obtain ⟨v1, v2, v3, v4⟩ := hmv i
      have t1 : decide ((i : Int) < ((40 : Nat) : Int)) = true := by simp only [decide_eq_true_eq]; omega
      have t2 : (decide (0 ≤ (i : Int)) && decide ((i : Int) < (M.length : Int))) = true := by simp only [Bool.and_eq_true, decide_eq_true_eq]; omega
      have hw : IntKind.wrap .i64 ((i : Int) + 1) = ((i + 1 : Nat) : Int) := by rw [w64 (by omega) (by omega)]; omega
      simp only [t1, t2, cond_true, s59 hk _ _ _ _ _ _ _ _ _ _ _ _ _ _ (show rest.length ≤ 1000000000000 by omega), hfill, hf, Option.bind_some, Int.toNat_natCast, hget i hlt, hw]
      rw [w64 (x := tgt + (dv i).1 - tgt) (by omega) (by omega), w64 (x := tgt - (tgt + (dv i).1)) (by omega) (by omega)]
      have t3 : decide (tgt + (dv i).1 - tgt > bnd) = false := by simp only [decide_eq_false_iff_not]; omega
      have t4 : decide (tgt - (tgt + (dv i).1) > bnd) = false := by simp only [decide_eq_false_iff_not]; omega
      simp only [t3, t4, cond_false]
      -- the pull
      have hq := hgone i (dv i).2 (adjS tgt (dead % 40) (1 + gain) most (tgt + (dv i).1)) (hfrac i).2 (adjS_bd hct _).2 (adjS_bd hct _).1
      have hadv := hdev i
      obtain ⟨n, hn⟩ : ∃ n, (mvf i).1 = n := ⟨_, rfl⟩
      obtain ⟨w, hw'⟩ : ∃ n, (mvf i).2 = n := ⟨_, rfl⟩
      rw [hn] at hq v1 v2 hadv
      rw [hw'] at v3 v4 hadv
      simp only [hn, hw']
      obtain ⟨a, ha⟩ : ∃ a, adjS tgt (dead % 40) (1 + gain) most (tgt + (dv i).1) = a := ⟨_, rfl⟩
      rw [ha] at hq hadv
      have hA : (ph bn bd a (dv i).2).A n = (dv i).2 + n * bn * (65536 + a) := ph_A _ _ _ _ _
      have hP : (ph bn bd a (dv i).2).P = bd * 65536 := rfl
      have hgo : (ph bn bd a (dv i).2).gone n = ((dv i).2 + n * bn * (65536 + a)) / (bd * 65536) := by
        show (ph bn bd a (dv i).2).A n / (ph bn bd a (dv i).2).P = _
        rw [hA, hP]
      have hpa := rs_adj hb.r (a := a) (by rw [← ha]; have := (adjS_bd hct (tgt + (dv i).1)).1; omega) (by rw [← ha]; have := (adjS_bd hct (tgt + (dv i).1)).2; omega)
      have hneed : (ph bn bd a (dv i).2).need n ≤ tgt + (dv i).1 := by
        by_cases hn0 : n = 0
        · subst hn0; simp only [Ph.need, if_true]; omega
        · have hmono := (ph bn bd a (dv i).2).gone_mono hpa.p.ok (show n - 1 ≤ n by omega)
          rw [Ph.need_eq _ hn0]
          omega
      have hmk := (ph bn bd a (dv i).2).le_make hpa.p.ok (show n ≤ 65536 by omega) hneed
      have hK : pullK tgt (dead % 40) (1 + gain) most 1 bn bd pos (dv i).2 rest n = n := by
        unfold pullK; rw [hf, ha]; omega
      obtain ⟨z1, z2, z3, z4, z5, z6, z7, z8, z9⟩ := pullS_ok (n := n) (K := n) (a := a) hb (by omega) (by omega) v1 (by omega) hK.symm (by rw [hf, ha])
      rw [Int.sub_self, Int.zero_mul, Int.add_zero] at z1
      rw [Int.sub_self, Int.add_zero] at z2
      rw [hf] at z3 z5
      rw [hgo] at z1 z2 z3 z4 z5
      rw [hA] at z1 z2
      rw [← show (dv (i + 1)).2 = ((dv i).2 + n * bn * (65536 + a)) % (bd * 65536) by rw [hadv]] at z1 z2
      have hDn : (dv (i + 1)).1 = (dv i).1 - ((dv i).2 + n * bn * (65536 + a)) / (bd * 65536) + w := by rw [hadv]
      generalize ((dv i).2 + n * bn * (65536 + a)) / (bd * 65536) = g at *
      have hrd : (rest.drop (goneS bn bd a (dv i).2 n * Int.toNat 1)).length ≤ 1000000000000 := by rw [List.length_drop]; omega
      rw [s55 hk _ _ _ _ _ _ _ _ _ _ _ _ _ _ _ (by omega), z1, Option.bind_some]
      obtain ⟨x1, x2⟩ := wave_ok (i : Int) (ch := 1) (by omega) (by omega) v3 (show w ≤ 65536 by omega)
      have xl := x1.len_le
      obtain ⟨m, c1, c2, c3, c4⟩ := pushS_ok z2 x1 (by omega)
      rw [x2] at c1 c2 c3
      have hmw : (m : Int) = w := by rw [z3] at c1; omega
      rw [hmw, Int.sub_self] at c2 c3
      rw [Int.add_zero] at c2 c3
      rw [s24 hk (i : Int) 1 w (by omega) v3 (by omega), Option.bind_some]
      simp only
      rw [s52 hk _ _ _ _ _ _ _ _ _ _ _ _ _ _ _ _ hrd (by omega), c2, Option.bind_some]
      simp only [bne_self_eq_false, cond_false]
      exact hnext _ ⟨i + 1, _, _, _, rfl, by omega, c3, by rw [c4, z3]; omega, by omega⟩ (by simp only; omega)
    · have : i = 40 := by omega
      subst this
      have t1 : decide (((40 : Nat) : Int) < ((40 : Nat) : Int)) = false := by simp
      simp only [t1, cond_false, beq_self_eq_true, cond_true]
theorem i8_of {x : Int} (h : (Lit.int .i8 x).wf = true) : -128 ≤ x ∧ x ≤ 127 := by
  simp only [Lit.wf, Bool.and_eq_true, decide_eq_true_eq] at h
  have e1 : IntKind.min .i8 = -128 := by decide
  have e2 : IntKind.max .i8 = 127 := by decide
  rw [e1, e2] at h
  exact h
theorem u8_of' {x : Int} (h : (Lit.int .u8 x).wf = true) : 0 ≤ x ∧ x ≤ 255 := by
  have := D8_of (l := [x]) (by simpa using h)
  simpa using this
theorem plain14 (x : argsI [.val false (.sl (.int .u8)), .val false (.int .u8), .val false (.int .u8), .val false (.int .i8)]) (h : WFAs _ x) : f14 fuel x = some true := by
  obtain ⟨seeds, d, g, s⟩ := x
  exact law14 big_fuel sane19 seeds (D8_of h.1) d g s (u8_of' h.2.1) (u8_of' h.2.2.1) (i8_of h.2.2.2)
end Go.Proofs.Ytbfkfobfhjgphaa.Sp
