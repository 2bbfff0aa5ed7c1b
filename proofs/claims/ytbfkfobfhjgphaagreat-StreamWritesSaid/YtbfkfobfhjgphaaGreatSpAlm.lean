import Derived.Test.YtbfkfobfhjgphaaGreatSpAll
import Derived.Test.YtbfkfobfhjgphaaGreatFnDS
/- What the program's rings and streams do, in plain words: writing to a ring, giving to a stream. -/
set_option linter.unusedVariables false
set_option linter.unusedSimpArgs false
namespace Go.Proofs.YtbfkfobfhjgphaaGreat.Sp
open Go Go.Pev Go.Snd Go.Proofs.YtbfkfobfhjgphaaGreat.Fn

/-- how many frames of a block a ring takes -/
def roomG (g : RgT) (b : BkT) : Int := min (frames b.1 b.2) (g.2.1 - (g.2.2.1 - g.2.2.2.1))
def writeG (g : RgT) (b : BkT) : RgT × Int × Int :=
  if rgOK g = true ∧ bkOK b.1 b.2 = true then
    if b.1 = g.1 then
      if 1125899906842624 < g.2.2.1 + roomG g b then (zeroG, 0, 2)
      else ((g.1, g.2.1, g.2.2.1 + roomG g b, g.2.2.2.1, g.2.2.2.2 ++ b.2.take (roomG g b * b.1).toNat), frames b.1 b.2 - roomG g b, 0)
    else (zeroG, 0, 11)
  else (zeroG, 0, 1)
theorem roomG_bd {g : RgT} (h : RgOK g) {b : BkT} (hb : BkOK b.1 b.2) : 0 ≤ roomG g b ∧ roomG g b ≤ 65536 ∧ roomG g b ≤ frames b.1 b.2 ∧ g.2.2.1 + roomG g b ≤ 1125899906908160 ∧ 0 ≤ roomG g b * b.1 ∧ roomG g b * b.1 ≤ 524288 ∧ roomG g b * b.1 ≤ (b.2.length : Int) := by
  have q0 := frames_nonneg (d := b.2) hb.c1
  have q1 : frames b.1 b.2 ≤ 65536 := hb.l
  have h1 := h.l
  have h2 := h.w1
  have h3 := h.c1
  have e : roomG g b = min (frames b.1 b.2) (g.2.1 - (g.2.2.1 - g.2.2.2.1)) := rfl
  obtain ⟨m1, m2⟩ := mul_bd (show 0 ≤ roomG g b by omega) (show roomG g b ≤ 65536 by omega) (show 0 ≤ b.1 by have := hb.c1; omega) hb.c2
  obtain ⟨m3, m4⟩ := mul_bd (show 0 ≤ roomG g b by omega) (show roomG g b ≤ frames b.1 b.2 by omega) (show 0 ≤ b.1 by have := hb.c1; omega) (Int.le_refl b.1)
  have := hb.len
  exact ⟨by omega, by omega, by omega, by omega, by omega, by omega, by omega⟩
theorem s82' {k : Nat} (hk : Big k) (a b : List Int) (ha : a.length ≤ 100000000000) (hb : b.length ≤ 100000000000) : f165 k [a, b] = some (a ++ b) := s82 hk a b ha hb
theorem s130 {k : Nat} (hk : Big k) (g : RgT) (b : BkT) (hg : g.2.2.2.2.length ≤ 10000000000) (hb : b.2.length ≤ 10000000000) : f138 k (g, b) = some (writeG g b) := by
  obtain ⟨ch, cap, wr, rd, d⟩ := g
  obtain ⟨bc, bd⟩ := b
  simp only at hg hb
  unfold f138 writeG
  simp only [s154 hk (ch, cap, wr, rd, d) (show d.length ≤ 1000000000000 by omega), Option.bind_some]
  cases hgo : rgOK (ch, cap, wr, rd, d) with
  | false => simp [zeroG]
  | true =>
    have h := (rgOK_iff _).1 hgo
    simp only [s81 hk bc bd (by omega), Option.bind_some, Bool.not_true, cond_false]
    cases hbk : bkOK bc bd with
    | false => simp [zeroG]
    | true =>
      have hB := (bkOK_iff _ _).1 hbk
      simp only [Bool.not_true, cond_false, and_self, if_true]
      by_cases hc : bc = ch
      · subst hc
        simp only [bne_self_eq_false, cond_false, ch_ne hB.c1, if_true]
        obtain ⟨r1, r2, r3, r4, r5, r6, r7⟩ := roomG_bd h (b := (bc, bd)) hB
        have q0 := frames_nonneg (d := bd) hB.c1
        have q1 : frames bc bd ≤ 65536 := hB.l
        have hr0 := h.r0
        have hr1 := h.r1
        have hw1 := h.w1
        have hcc := h.c1
        have hl := h.l
        simp only at r3 r4 r5 r6 r7 hr0 hr1 hw1 hcc hl
        rw [s129 hk (bc, cap, wr, rd, d) (show d.length ≤ 1000000000000 by omega), Option.bind_some]
        have hfill : fillG (bc, cap, wr, rd, d) = wr - rd := by unfold fillG; rw [if_pos hgo]
        rw [hfill, w_frames hB, w64 (x := cap - (wr - rd)) (by omega) (by omega)]
        have hmin : (if cap - (wr - rd) < frames bc bd then cap - (wr - rd) else frames bc bd) = roomG (bc, cap, wr, rd, d) (bc, bd) := by
          unfold roomG; simp only; split <;> omega
        rw [hmin]
        obtain ⟨n, hn⟩ : ∃ n, n = roomG (bc, cap, wr, rd, d) (bc, bd) := ⟨_, rfl⟩
        rw [← hn] at r1 r2 r3 r4 r5 r6 r7 ⊢
        rw [w64 (x := wr + n) (by omega) (by omega), w64 (x := n * bc) (by omega) (by omega), w64 (x := frames bc bd - n) (by omega) (by omega)]
        by_cases hfar : 1125899906842624 < wr + n
        · rw [show decide (wr + n > 1125899906842624) = true from decide_eq_true hfar, cond_true, if_pos hfar]; rfl
        · rw [show decide (wr + n > 1125899906842624) = false from decide_eq_false hfar, cond_false, if_neg hfar]
          have z1 : decide ((0 : Int) ≤ 0) = true := rfl
          have z2 : decide (0 ≤ n * bc) = true := decide_eq_true r5
          have z3 : decide (n * bc ≤ n * bc) = true := decide_eq_true (Int.le_refl _)
          have z4 : decide (n * bc ≤ (bd.length : Int)) = true := decide_eq_true r7
          simp only [z1, z2, z3, z4, Bool.and_self, cond_true]
          rw [show Int.toNat 0 = 0 from rfl, List.drop_zero, s82 hk _ _ (by omega) (by rw [List.length_take]; omega), Option.bind_some]
      · have e1 : (bc != ch) = true := by simpa using hc
        simp only [e1, cond_true, if_neg hc]
        rfl

/-! ### giving -/
noncomputable def giveS (s : St) (b : BkT) : Int × St × Int :=
  if (stOK s && (s.dir == 2)) = true ∧ bkOK b.1 b.2 = true then
    if b.1 = s.r.1 then
      if s.state = 3 then
        if (rConv s.r b).2.2 = 0 then
          if (writeG s.g (rConv s.r b).1).2.2 = 0 then
            ((writeG s.g (rConv s.r b).1).2.1, ⟨s.dir, s.state, s.cap, s.start, (rConv s.r b).2.1, (writeG s.g (rConv s.r b).1).1, s.wr, IntKind.wrap .i64 (s.pl + frames b.1 b.2), IntKind.wrap .i64 (s.ms + (writeG s.g (rConv s.r b).1).2.1)⟩, 0)
          else (0, zeroSt, (writeG s.g (rConv s.r b).1).2.2)
        else (0, zeroSt, (rConv s.r b).2.2)
      else (0, s, 0)
    else (0, zeroSt, 11)
  else (0, zeroSt, 1)
def rt3 (p : Int × St × Int) : Int × StT × Int := (p.1, p.2.1.t, p.2.2)
theorem rConv_len (r : RsT) (b : BkT) : (rConv r b).1.2.length ≤ 1000000 := (convS_len r.1 r.2.1 r.2.2.1 r.2.2.2.1 r.2.2.2.2.1 r.2.2.2.2.2.1 r.2.2.2.2.2.2 b.1 b.2).1
theorem s78 {k : Nat} (hk : Big k) (s : St) (hd : Short s) (b : BkT) (hb : b.2.length ≤ 10000000000) : f63 k (s.t, b) = some (rt3 (giveS s b)) := by
  have hd1 := hd.1
  have hd2 := hd.2
  unfold f63 giveS
  simp only [s122 hk s hd, Option.bind_some]
  cases hs : stOK s && (s.dir == 2) with
  | false => simp only [Bool.not_false, cond_true, Bool.false_eq_true, false_and, if_false]; rfl
  | true =>
    obtain ⟨bc, bd⟩ := b
    simp only at hb
    simp only [s81 hk bc bd (by omega), Option.bind_some, Bool.not_true, cond_false]
    cases hbk : bkOK bc bd with
    | false => simp only [Bool.not_false, cond_true, Bool.false_eq_true, and_false, if_false]; rfl
    | true =>
      have h := (bkOK_iff _ _).1 hbk
      simp only [Bool.not_true, cond_false, and_self, if_true]
      by_cases hc : bc = s.r.1
      · have e1 : (bc != s.t.2.2.2.2.1) = false := by simp [St.t, hc]
        rw [e1, cond_false, if_pos hc]
        by_cases h3 : s.state = 3
        · have e2 : (s.t.2.1 != 3) = false := by simp [St.t, h3]
          rw [e2, cond_false, if_pos h3]
          have e3 : f137 k ((s.t.2.2.2.2.1, s.t.2.2.2.2.2.1, s.t.2.2.2.2.2.2.1, s.t.2.2.2.2.2.2.2.1, s.t.2.2.2.2.2.2.2.2.1, s.t.2.2.2.2.2.2.2.2.2.1, s.t.2.2.2.2.2.2.2.2.2.2.1), bc, bd) = some (rConv s.r (bc, bd)) := s39 hk _ _ _ _ _ _ _ _ _ (show s.r.2.2.2.2.2.2.length ≤ 100000000000 by omega) (by omega)
          rw [e3, Option.bind_some]
          by_cases h4 : (rConv s.r (bc, bd)).2.2 = 0
          · have e4 : ((rConv s.r (bc, bd)).2.2 != 0) = false := by simp [h4]
            have hrl := rConv_len s.r (bc, bd)
            have e5 : f138 k ((s.t.2.2.2.2.2.2.2.2.2.2.2.1, s.t.2.2.2.2.2.2.2.2.2.2.2.2.1, s.t.2.2.2.2.2.2.2.2.2.2.2.2.2.1, s.t.2.2.2.2.2.2.2.2.2.2.2.2.2.2.1, s.t.2.2.2.2.2.2.2.2.2.2.2.2.2.2.2.1), (rConv s.r (bc, bd)).1) = some (writeG s.g (rConv s.r (bc, bd)).1) := s130 hk s.g _ hd2 (by omega)
            rw [e4, cond_false, if_pos h4, e5, Option.bind_some]
            by_cases h5 : (writeG s.g (rConv s.r (bc, bd)).1).2.2 = 0
            · have e6 : ((writeG s.g (rConv s.r (bc, bd)).1).2.2 != 0) = false := by simp [h5]
              rw [e6, cond_false, if_pos h5, ch_ne h.c1, cond_false, w_frames h]; rfl
            · have e6 : ((writeG s.g (rConv s.r (bc, bd)).1).2.2 != 0) = true := by simpa using h5
              rw [e6, cond_true, if_neg h5]; rfl
          · have e4 : ((rConv s.r (bc, bd)).2.2 != 0) = true := by simpa using h4
            rw [e4, cond_true, if_neg h4]; rfl
        · have e2 : (s.t.2.1 != 3) = true := by simpa [St.t] using h3
          rw [e2, cond_true, if_neg h3, s125 k s hd]; rfl
      · have e1 : (bc != s.t.2.2.2.2.1) = true := by simpa [St.t] using hc
        rw [e1, cond_true, if_neg hc]; rfl

/-! ### reading -/
/-- reading a ring -/
def readG (g : RgT) (n : Int) : BkT × Int × RgT × Int :=
  if rgOK g = true then
    if n < 0 ∨ 65536 < n then (zeroB, 0, zeroG, 2)
    else
      let k := min n (g.2.2.1 - g.2.2.2.1)
      ((g.1, g.2.2.2.2.take (k * g.1).toNat ++ List.replicate ((n - k) * g.1).toNat 0), n - k, (g.1, g.2.1, g.2.2.1, g.2.2.2.1 + k, g.2.2.2.2.drop (k * g.1).toNat), 0)
  else (zeroB, 0, zeroG, 1)
theorem rd_row {d : List Int} {m t : Int} (m0 : 0 ≤ m) (hm : m ≤ (d.length : Int)) (hmt : m ≤ t) : List.take t.toNat (d.take m.toNat) ++ List.replicate (t.toNat - (d.take m.toNat).length) (0 : Int) = d.take m.toNat ++ List.replicate (t - m).toNat 0 := by
  have hl : (d.take m.toNat).length = m.toNat := by rw [List.length_take]; omega
  rw [List.take_of_length_le (by omega), hl, show t.toNat - m.toNat = (t - m).toNat by omega]
theorem s131 {k : Nat} (hk : Big k) (g : RgT) (n : Int) (hg : g.2.2.2.2.length ≤ 10000000000) : f132 k (g, n) = some (readG g n) := by
  obtain ⟨ch, cap, wr, rd, d⟩ := g
  simp only at hg
  unfold f132 readG
  simp only [s154 hk (ch, cap, wr, rd, d) (show d.length ≤ 1000000000000 by omega), Option.bind_some]
  cases hgo : rgOK (ch, cap, wr, rd, d) with
  | false => simp [zeroG, zeroB]
  | true =>
    have h := (rgOK_iff _).1 hgo
    simp only [Bool.not_true, cond_false, if_true]
    by_cases h1 : n < 0
    · simp [h1, zeroB, zeroG]
    by_cases h2 : 65536 < n
    · simp [h1, h2, zeroB, zeroG]
    have hr0 := h.r0
    have hr1 := h.r1
    have hw1 := h.w1
    have hcc := h.c1
    have hl := h.l
    have hfr := h.fr
    have hb := h.b
    simp only at hr0 hr1 hw1 hcc hl hfr hb
    have hlen := hb.len
    rw [← hfr] at hlen
    have c1 := hb.c1
    have c2 := hb.c2
    simp only [h1, h2, show ¬ n > 65536 by omega, decide_false, cond_false, or_self, if_false]
    rw [s129 hk (ch, cap, wr, rd, d) (show d.length ≤ 1000000000000 by omega), Option.bind_some]
    have hfill : fillG (ch, cap, wr, rd, d) = wr - rd := by unfold fillG; rw [if_pos hgo]
    rw [hfill]
    have hmin : (if wr - rd < n then wr - rd else n) = min n (wr - rd) := by split <;> omega
    rw [hmin]
    obtain ⟨m, hm⟩ : ∃ m, m = min n (wr - rd) := ⟨_, rfl⟩
    rw [← hm]
    obtain ⟨m1, m2⟩ := mul_bd (show 0 ≤ m by omega) (show m ≤ 65536 by omega) (show 0 ≤ ch by omega) c2
    obtain ⟨m3, m4⟩ := mul_bd (show 0 ≤ m by omega) (show m ≤ wr - rd by omega) (show 0 ≤ ch by omega) (Int.le_refl ch)
    obtain ⟨m5, m6⟩ := mul_bd (show 0 ≤ n - m by omega) (show n - m ≤ 65536 by omega) (show 0 ≤ ch by omega) c2
    obtain ⟨m7, m8⟩ := mul_bd (show 0 ≤ n by omega) (show n ≤ 65536 by omega) (show 0 ≤ ch by omega) c2
    have hsub : (n - m) * ch = n * ch - m * ch := Int.sub_mul _ _ _
    rw [w64 (x := n - m) (by omega) (by omega), w64 (x := m * ch) (by omega) (by omega), w64 (x := n * ch) (by omega) (by omega), w64 (x := rd + m) (by omega) (by omega)]
    have z1 : decide ((0 : Int) ≤ 0) = true := rfl
    have z2 : decide (0 ≤ m * ch) = true := decide_eq_true m1
    have z3 : decide (m * ch ≤ m * ch) = true := decide_eq_true (Int.le_refl _)
    have z4 : decide (m * ch ≤ (d.length : Int)) = true := decide_eq_true (by omega)
    have z5 : decide (0 ≤ n * ch) = true := decide_eq_true m7
    have z6 : decide (n * ch ≤ n * ch) = true := decide_eq_true (Int.le_refl _)
    have z7 : decide ((d.length : Int) ≤ (d.length : Int)) = true := decide_eq_true (Int.le_refl _)
    have z8 : decide (n * ch * ((4 : Nat) : Int) ≤ (maxBytes : Int)) = true := decide_eq_true (by unfold maxBytes; omega)
    simp only [z1, z2, z3, z4, z5, z6, z7, z8, Bool.and_self, cond_true, show Int.toNat 0 = 0 from rfl, List.drop_zero, Int.toNat_natCast, List.take_length]
    rw [s143 k _ (by rw [List.length_drop]; omega), Option.bind_some, rd_row m1 (by omega) (by omega), hsub]
def readS (s : St) (n : Int) : BkT × St × Int :=
  if (stOK s && (s.dir == 2)) = true then
    if n < 0 ∨ 65536 < n then (zeroB, zeroSt, 2)
    else if s.state = 7 then (zeroB, zeroSt, 9)
    else
      ((readG s.g (min n (waitS s))).1, ⟨s.dir, s.state, s.cap, s.start, s.r, (readG s.g (min n (waitS s))).2.2.1, IntKind.wrap .i64 (s.wr + min n (waitS s)), s.pl, s.ms⟩, 0)
  else (zeroB, zeroSt, 1)
def rt5 (p : BkT × St × Int) : BkT × StT × Int := (p.1, p.2.1.t, p.2.2)
theorem s79 {k : Nat} (hk : Big k) (s : St) (hd : Short s) (n : Int) : f58 k (s.t, n) = some (rt5 (readS s n)) := by
  have hd2 := hd.2
  unfold f58 readS
  simp only [s122 hk s hd, Option.bind_some]
  cases hs : stOK s && (s.dir == 2) with
  | false => simp only [Bool.not_false, cond_true, Bool.false_eq_true, if_false]; rfl
  | true =>
    simp only [Bool.not_true, cond_false, if_true, s127, Option.bind_some]
    by_cases h1 : n < 0
    · simp only [h1, decide_true, Bool.true_or, cond_true, true_or, if_true]; rfl
    by_cases h2 : 65536 < n
    · simp only [h1, h2, decide_true, decide_false, Bool.false_or, cond_true, or_true, if_true]; rfl
    simp only [h1, h2, decide_false, Bool.or_self, cond_false, or_self, if_false]
    by_cases h7 : s.state = 7
    · have e : (s.t.2.1 == 7) = true := by simpa [St.t] using h7
      rw [e, cond_true, if_pos h7]; rfl
    · have e : (s.t.2.1 == 7) = false := by simpa [St.t] using h7
      rw [e, cond_false, if_neg h7, s77 hk s hd, Option.bind_some]
      have hmin : (if waitS s < n then waitS s else n) = min n (waitS s) := by split <;> omega
      rw [hmin]
      have e5 : f132 k ((s.t.2.2.2.2.2.2.2.2.2.2.2.1, s.t.2.2.2.2.2.2.2.2.2.2.2.2.1, s.t.2.2.2.2.2.2.2.2.2.2.2.2.2.1, s.t.2.2.2.2.2.2.2.2.2.2.2.2.2.2.1, s.t.2.2.2.2.2.2.2.2.2.2.2.2.2.2.2.1), min n (waitS s)) = some (readG s.g (min n (waitS s))) := s131 hk s.g _ hd2
      rw [e5, Option.bind_some, s125 k s hd, Option.bind_some]; rfl
end Go.Proofs.YtbfkfobfhjgphaaGreat.Sp

/- What the reference's rings and streams do, in plain words: the same as the program's. -/
set_option linter.unusedVariables false
set_option linter.unusedSimpArgs false
namespace Go.Proofs.YtbfkfobfhjgphaaGreat.Sp
open Go Go.Pev Go.Snd Go.Proofs.YtbfkfobfhjgphaaGreat.Fn

/-! ### rings -/
theorem z199 (k : Nat) (g : RgT) : f199 k g = some (g.1, g.2.2.2.2) := rfl
theorem z127 {k : Nat} (hk : Big k) (g : RgT) (hd : g.2.2.2.2.length ≤ 1000000000000) : f127 k g = some (rgOK g) := by
  obtain ⟨ch, cap, wr, rd, d⟩ := g
  simp only at hd
  unfold f127 rgOK
  simp only [z199, s83 hk ch d hd, Option.bind_some]
  by_cases h1 : cap < 1
  · simp [h1, show ¬ cap ≥ 1 by omega]
  by_cases h2 : cap > 65536
  · simp [h1, h2, show cap ≥ 1 by omega, show ¬ cap ≤ 65536 by omega]
  by_cases h3 : rd < 0
  · simp [h1, h2, h3, show ¬ rd ≥ 0 by omega]
  by_cases h4 : rd > wr
  · simp [h1, h2, h3, h4, show ¬ rd ≤ wr by omega]
  by_cases h5 : wr > 1125899906842624
  · simp only [h1, h2, h3, h4, h5, show cap ≥ 1 by omega, show cap ≤ 65536 by omega, show rd ≥ 0 by omega, show rd ≤ wr by omega, show ¬ wr ≤ 1125899906842624 by omega, decide_true, decide_false, cond_true, cond_false, Bool.not_true, Bool.not_false, Bool.true_and, Bool.false_and]
  simp only [h1, h2, h3, h4, h5, show cap ≥ 1 by omega, show cap ≤ 65536 by omega, show rd ≥ 0 by omega, show rd ≤ wr by omega, show wr ≤ 1125899906842624 by omega, decide_true, decide_false, cond_true, Bool.not_false, Bool.true_and]
  cases hb : bkOK ch d with
  | false => simp only [cond_false, Bool.false_and]
  | true =>
    have h := (bkOK_iff _ _).1 hb
    simp only [cond_true, Bool.true_and, ch_ne h.c1, cond_false, w_frames h, w64 (show -9223372036854775808 ≤ wr - rd by omega) (by omega)]
    rw [show (frames ch d == wr - rd) = (wr - rd == frames ch d) from Bool.eq_iff_iff.2 (by rw [beq_iff_eq, beq_iff_eq]; exact eq_comm)]
    cases wr - rd == frames ch d <;> simp
theorem z129 {k : Nat} (hk : Big k) (g : RgT) (hd : g.2.2.2.2.length ≤ 1000000000000) : f129 k g = some (fillG g) := by
  unfold f129 fillG
  rw [z127 hk g hd, Option.bind_some]
  cases h : rgOK g with
  | false => simp
  | true =>
    have h := (rgOK_iff g).1 h
    have := h.r0
    have := h.r1
    have := h.w1
    simp only [Bool.not_true, cond_false, if_true, w64 (show -9223372036854775808 ≤ g.2.2.1 - g.2.2.2.1 by omega) (by omega)]
theorem z130 {k : Nat} (hk : Big k) (ch cap : Int) : f130 k (ch, cap) = some (newG ch cap) := by
  unfold f130 newG
  simp only [z127 hk (ch, cap, 0, 0, []) (by simp), Option.bind_some]
  cases rgOK (ch, cap, 0, 0, []) <;> simp [zeroG]
theorem z200 {k : Nat} (hk : Big k) (g : RgT) (hd : g.2.2.2.2.length ≤ 1000000000000) : f200 k g = some (clearG g) := by
  unfold f200 clearG
  rw [z127 hk g hd, Option.bind_some]
  cases rgOK g <;> simp [zeroG]
theorem z139 {k : Nat} (hk : Big k) (g : RgT) (b : BkT) (hg : g.2.2.2.2.length ≤ 10000000000) (hb : b.2.length ≤ 10000000000) : f139 k (g, b) = some (writeG g b) := by
  obtain ⟨ch, cap, wr, rd, d⟩ := g
  obtain ⟨bc, bd⟩ := b
  simp only at hg hb
  unfold f139 writeG
  simp only [z127 hk (ch, cap, wr, rd, d) (show d.length ≤ 1000000000000 by omega), Option.bind_some]
  cases hgo : rgOK (ch, cap, wr, rd, d) with
  | false => simp [zeroG]
  | true =>
    have h := (rgOK_iff _).1 hgo
    simp only [s83 hk bc bd (by omega), Option.bind_some, Bool.not_true, cond_false]
    cases hbk : bkOK bc bd with
    | false => simp [zeroG]
    | true =>
      have hB := (bkOK_iff _ _).1 hbk
      simp only [Bool.not_true, cond_false, and_self, if_true]
      by_cases hc : bc = ch
      · subst hc
        simp only [bne_self_eq_false, cond_false, if_true]
        obtain ⟨r1, r2, r3, r4, r5, r6, r7⟩ := roomG_bd h (b := (bc, bd)) hB
        have q0 := frames_nonneg (d := bd) hB.c1
        have q1 : frames bc bd ≤ 65536 := hB.l
        have hr0 := h.r0
        have hr1 := h.r1
        have hw1 := h.w1
        have hcc := h.c1
        have hl := h.l
        simp only at r3 r4 r5 r6 r7 hr0 hr1 hw1 hcc hl
        rw [s47 hk hB, z129 hk (bc, cap, wr, rd, d) (show d.length ≤ 1000000000000 by omega), Option.bind_some, Option.bind_some]
        have hfill : fillG (bc, cap, wr, rd, d) = wr - rd := by unfold fillG; rw [if_pos hgo]
        rw [hfill, w64 (x := cap - (wr - rd)) (by omega) (by omega)]
        have hmin : (if cap - (wr - rd) < frames bc bd then cap - (wr - rd) else frames bc bd) = roomG (bc, cap, wr, rd, d) (bc, bd) := by
          unfold roomG; simp only; split <;> omega
        rw [hmin]
        obtain ⟨n, hn⟩ : ∃ n, n = roomG (bc, cap, wr, rd, d) (bc, bd) := ⟨_, rfl⟩
        rw [← hn] at r1 r2 r3 r4 r5 r6 r7 ⊢
        rw [w64 (x := wr + n) (by omega) (by omega), w64 (x := n * bc) (by omega) (by omega), w64 (x := frames bc bd - n) (by omega) (by omega)]
        by_cases hfar : 1125899906842624 < wr + n
        · rw [show decide (wr + n > 1125899906842624) = true from decide_eq_true hfar, cond_true, if_pos hfar]; rfl
        · rw [show decide (wr + n > 1125899906842624) = false from decide_eq_false hfar, cond_false, if_neg hfar]
          have z1 : decide ((0 : Int) ≤ 0) = true := rfl
          have z2 : decide (0 ≤ n * bc) = true := decide_eq_true r5
          have z3 : decide (n * bc ≤ n * bc) = true := decide_eq_true (Int.le_refl _)
          have z4 : decide (n * bc ≤ (bd.length : Int)) = true := decide_eq_true r7
          have hbl := hB.len_le
          rw [maxB (show d.length ≤ 1000000000000 by omega), cond_true]
          simp only [z1, z2, z3, z4, Bool.and_self, cond_true]
          rw [show Int.toNat 0 = 0 from rfl, List.drop_zero, maxB (by rw [List.length_take]; omega), cond_true]
      · have e1 : (bc != ch) = true := by simpa using hc
        simp only [e1, cond_true, if_neg hc]
        rfl
theorem z134 {k : Nat} (hk : Big k) (g : RgT) (n : Int) (hg : g.2.2.2.2.length ≤ 10000000000) : f134 k (g, n) = some (readG g n) := by
  obtain ⟨ch, cap, wr, rd, d⟩ := g
  simp only at hg
  unfold f134 readG
  simp only [z127 hk (ch, cap, wr, rd, d) (show d.length ≤ 1000000000000 by omega), Option.bind_some]
  cases hgo : rgOK (ch, cap, wr, rd, d) with
  | false => simp [zeroG, zeroB]
  | true =>
    have h := (rgOK_iff _).1 hgo
    simp only [Bool.not_true, cond_false, if_true]
    by_cases h1 : n < 0
    · simp [h1, zeroB, zeroG]
    by_cases h2 : 65536 < n
    · simp [h1, h2, zeroB, zeroG]
    have hr0 := h.r0
    have hr1 := h.r1
    have hw1 := h.w1
    have hcc := h.c1
    have hl := h.l
    have hfr := h.fr
    have hb := h.b
    simp only at hr0 hr1 hw1 hcc hl hfr hb
    have hlen := hb.len
    rw [← hfr] at hlen
    have c1 := hb.c1
    have c2 := hb.c2
    simp only [h1, h2, show ¬ n > 65536 by omega, decide_false, cond_false, or_self, if_false]
    rw [z129 hk (ch, cap, wr, rd, d) (show d.length ≤ 1000000000000 by omega), Option.bind_some]
    have hfill : fillG (ch, cap, wr, rd, d) = wr - rd := by unfold fillG; rw [if_pos hgo]
    rw [hfill]
    have hmin : (if wr - rd < n then wr - rd else n) = min n (wr - rd) := by split <;> omega
    rw [hmin]
    obtain ⟨m, hm⟩ : ∃ m, m = min n (wr - rd) := ⟨_, rfl⟩
    rw [← hm]
    obtain ⟨m1, m2⟩ := mul_bd (show 0 ≤ m by omega) (show m ≤ 65536 by omega) (show 0 ≤ ch by omega) c2
    obtain ⟨m3, m4⟩ := mul_bd (show 0 ≤ m by omega) (show m ≤ wr - rd by omega) (show 0 ≤ ch by omega) (Int.le_refl ch)
    obtain ⟨m5, m6⟩ := mul_bd (show 0 ≤ n - m by omega) (show n - m ≤ 65536 by omega) (show 0 ≤ ch by omega) c2
    rw [w64 (x := n - m) (by omega) (by omega), w64 (x := m * ch) (by omega) (by omega), w64 (x := (n - m) * ch) (by omega) (by omega)]
    have z1 : decide ((0 : Int) ≤ 0) = true := rfl
    have z2 : decide (0 ≤ m * ch) = true := decide_eq_true m1
    have z3 : decide (m * ch ≤ m * ch) = true := decide_eq_true (Int.le_refl _)
    have z4 : decide (m * ch ≤ (d.length : Int)) = true := decide_eq_true (by omega)
    have z5 : decide (0 ≤ (n - m) * ch) = true := decide_eq_true m5
    have z6 : decide ((n - m) * ch ≤ 9223372036854775807) = true := decide_eq_true (by omega)
    have z7 : decide ((d.length : Int) ≤ (d.length : Int)) = true := decide_eq_true (Int.le_refl _)
    simp only [z1, z2, z3, z4, z5, z6, z7, Bool.and_self, cond_true, show Int.toNat 0 = 0 from rfl, List.drop_zero, Int.toNat_natCast, List.take_length]
    rw [maxB (show (d.take (m * ch).toNat).length ≤ 1000000000000 by rw [List.length_take]; omega), cond_true]
    have z8 : (decide (((d.take (m * ch).toNat).length + (List.replicate ((n - m) * ch).toNat (0 : Int)).length) * 4 ≤ maxBytes) && decide ((d.take (m * ch).toNat).length + (List.replicate ((n - m) * ch).toNat (0 : Int)).length ≤ 9223372036854775807)) = true :=
      maxB (by rw [List.length_take, List.length_replicate]; omega)
    rw [z8, cond_true, maxB (show (d.drop (m * ch).toNat).length ≤ 1000000000000 by rw [List.length_drop]; omega), cond_true, w64 (x := rd + m) (by omega) (by omega)]

/-! ### streams -/
theorem f126_zero {k : Nat} (hk : Big k) (g : RgT) : f126 k (g, 0, 0, 0, 0, []) = some (unusedS g) := by
  obtain ⟨a, b, c, d, e⟩ := g
  unfold f126 unusedS
  simp only
  cases a == 0 <;> simp only [cond_true, cond_false, Bool.true_and, Bool.false_and]
  cases b == 0 <;> simp only [cond_true, cond_false, Bool.true_and, Bool.false_and]
  cases c == 0 <;> simp only [cond_true, cond_false, Bool.true_and, Bool.false_and]
  cases d == 0 <;> simp only [cond_true, cond_false, Bool.true_and, Bool.false_and]
  unfold f71
  by_cases h : e = []
  · subst h
    have := same84 hk [] (by simp)
    unfold f71 at this
    rw [this]; rfl
  · have hl : 0 < e.length := List.length_pos_iff.2 h
    have e1 : ((e.length : Int) != (([] : List Int).length : Int)) = true := by simp; omega
    rw [e1, cond_true, Option.bind_some]
    have e2 : ((e.length : Int) == 0) = false := c_ne (by omega)
    rw [e2]
set_option maxHeartbeats 1000000 in
theorem z48 {k : Nat} (hk : Big k) (s : St) (hd : Short s) : f48 k s.t = some (stOK s) := by
  obtain ⟨dir, state, cap, start, ⟨ch, num, den, adj, pos, frac, rest⟩, ⟨a, b, c, d, e⟩, wr, pl, ms⟩ := s
  obtain ⟨h1, h2⟩ := hd
  simp only at h1 h2
  show f48 k (dir, state, cap, start, ch, num, den, adj, pos, frac, rest, a, b, c, d, e, wr, pl, ms) = _
  unfold f48 stOK
  simp only [s29 hk _ _ _ _ _ _ _ (show rest.length ≤ 1000000000000 by omega), s31 hk _ _ _ _ _ _ _ (show rest.length ≤ 1000000000000 by omega), f126_zero hk, z127 hk (a, b, c, d, e) (show e.length ≤ 1000000000000 by omega), Option.bind_some, rOK, rW]
  by_cases h1 : state < 1 <;> simp only [h1, decide_true, decide_false, cond_true, cond_false, Bool.not_true, Bool.not_false, Bool.true_and, Bool.false_and]
  by_cases h2 : state > 7 <;> simp only [h2, decide_true, decide_false, cond_true, cond_false, Bool.not_true, Bool.not_false, Bool.true_and, Bool.false_and]
  by_cases h3 : cap < 1 <;> simp only [h3, decide_true, decide_false, cond_true, cond_false, Bool.not_true, Bool.not_false, Bool.true_and, Bool.false_and]
  by_cases h4 : cap > 65536 <;> simp only [h4, decide_true, decide_false, cond_true, cond_false, Bool.not_true, Bool.not_false, Bool.true_and, Bool.false_and]
  by_cases h5 : start < 0 <;> simp only [h5, decide_true, decide_false, cond_true, cond_false, Bool.not_true, Bool.not_false, Bool.true_and, Bool.false_and]
  by_cases h6 : start > cap <;> simp only [h6, decide_true, decide_false, cond_true, cond_false, Bool.not_true, Bool.not_false, Bool.true_and, Bool.false_and]
  cases rsOK ch num den adj pos frac rest <;> simp only [cond_true, cond_false, Bool.not_true, Bool.not_false, Bool.true_and, Bool.false_and]
  cases adj != 0 <;> simp only [cond_true, cond_false, Bool.not_true, Bool.not_false, Bool.true_and, Bool.false_and]
  by_cases h7 : wr < 0 <;> simp only [h7, decide_true, decide_false, cond_true, cond_false, Bool.not_true, Bool.not_false, Bool.true_and, Bool.false_and]
  by_cases h8 : pl < 0 <;> simp only [h8, decide_true, decide_false, cond_true, cond_false, Bool.not_true, Bool.not_false, Bool.true_and, Bool.false_and]
  by_cases h9 : ms < 0 <;> simp only [h9, decide_true, decide_false, cond_true, cond_false, Bool.not_true, Bool.not_false, Bool.true_and, Bool.false_and]
  cases dir == 1 <;> simp only [cond_true, cond_false]
  · cases dir == 2 <;> simp only [cond_true, cond_false]
    cases rgOK (a, b, c, d, e) <;> simp only [cond_true, cond_false, Bool.true_and, Bool.false_and]
    cases b == cap <;> simp only [cond_true, cond_false, Bool.true_and, Bool.false_and]
  · by_cases h10 : waiting ch num den adj pos frac rest ≤ cap <;> simp only [h10, decide_true, decide_false, cond_true, cond_false, Bool.true_and, Bool.false_and]
theorem z53 {k : Nat} (hk : Big k) (dir ch num den cap start : Int) : f53 k (dir, ch, (num, den), cap, start) = some (rt (newSt dir ch num den cap start)) := by
  unfold f53 newSt
  simp only [s33 hk, z130 hk, Option.bind_some]
  by_cases h : dir = 2
  · subst h
    have e := z48 hk ⟨2, 1, cap, start, (newS ch num den).1, (newG ch cap).1, 0, 0, 0⟩ ⟨by simp [newS_len], by simp [newG_len]⟩
    simp only [St.t] at e
    simp only [beq_self_eq_true, cond_true, if_true, e, Option.bind_some]
    cases hb : stOK ⟨2, 1, cap, start, (newS ch num den).1, (newG ch cap).1, 0, 0, 0⟩ <;> simp [rt, St.t, zeroSt, zeroR, zeroG]
  · have h' : (dir == 2) = false := by simpa using h
    have e := z48 hk ⟨dir, 1, cap, start, (newS ch num den).1, zeroG, 0, 0, 0⟩ ⟨by simp [newS_len], by simp [zeroG]⟩
    simp only [St.t, zeroG] at e
    simp only [h', cond_false, if_neg h, e, Option.bind_some]
    simp only [← zeroG.eq_1]
    cases hb : stOK ⟨dir, 1, cap, start, (newS ch num den).1, zeroG, 0, 0, 0⟩ <;> simp [rt, St.t, zeroSt, zeroR, zeroG]
theorem z50 {k : Nat} (hk : Big k) (s : St) (hd : Short s) : f50 k s.t = some (waitS s) := by
  have h1 := hd.1
  have h2 := hd.2
  unfold f50 waitS
  rw [z48 hk s hd, Option.bind_some]
  cases hb : stOK s with
  | false => simp
  | true =>
    have h := (stOK_iff s).1 hb
    simp only [Bool.not_true, cond_false, if_true]
    have e1 := z129 hk s.g (by omega)
    have e2 := s31 hk s.r.1 s.r.2.1 s.r.2.2.1 s.r.2.2.2.1 s.r.2.2.2.2.1 s.r.2.2.2.2.2.1 s.r.2.2.2.2.2.2 (by omega)
    rcases h.d with ⟨hdir, _⟩ | ⟨hdir, _⟩
    · have : (s.t.1 == 1) = true := by simpa [St.t] using hdir
      rw [this, cond_true, if_neg (by omega)]
      exact (congrArg (Option.bind · _) e2)
    · have : (s.t.1 == 1) = false := by simp [St.t, hdir]
      rw [this, cond_false, if_pos hdir]
      exact (congrArg (Option.bind · _) e1)
theorem z52 {k : Nat} (hk : Big k) (s : St) (hd : Short s) : f52 k s.t = some (roomS s) := by
  unfold f52 roomS
  rw [z48 hk s hd, z50 hk s hd, Option.bind_some, Option.bind_some]
  cases hb : stOK s with
  | false => simp
  | true =>
    have h := (stOK_iff s).1 hb
    have hw := waitS_bd h
    have := h.c1
    simp only [Bool.not_true, cond_false, if_true]
    show some (IntKind.wrap .i64 (s.cap - waitS s)) = _
    rw [w64 (by omega) (by omega)]
theorem z121 {k : Nat} (hk : Big k) (s : St) (hd : Short s) : f121 k s.t = some (stOK s && (s.dir == 1)) := by
  unfold f121
  rw [z48 hk s hd, Option.bind_some]
  cases stOK s <;> simp [St.t]
theorem z133 {k : Nat} (hk : Big k) (s : St) (hd : Short s) : f133 k s.t = some (stOK s && (s.dir == 2)) := by
  unfold f133
  rw [z48 hk s hd, Option.bind_some]
  cases stOK s <;> simp [St.t]
theorem z135 {k : Nat} (hk : Big k) (s : St) (hd : Short s) : f135 k s.t = some (emptyS s).t := by
  have h2 := hd.2
  unfold f135 emptyS
  have e1 := s33 hk s.r.1 s.r.2.1 s.r.2.2.1
  have e2 := z200 hk s.g (by omega)
  have e1' : f37 k (s.t.2.2.2.2.1, s.t.2.2.2.2.2.1, s.t.2.2.2.2.2.2.1) = some (newS s.r.1 s.r.2.1 s.r.2.2.1) := e1
  have e2' : f200 k (s.t.2.2.2.2.2.2.2.2.2.2.2.1, s.t.2.2.2.2.2.2.2.2.2.2.2.2.1, s.t.2.2.2.2.2.2.2.2.2.2.2.2.2.1, s.t.2.2.2.2.2.2.2.2.2.2.2.2.2.2.1, s.t.2.2.2.2.2.2.2.2.2.2.2.2.2.2.2.1) = some (clearG s.g) := e2
  rw [e1', Option.bind_some]
  by_cases hdir : s.dir = 2
  · have : (s.t.1 == 2) = true := by simpa [St.t] using hdir
    rw [this, cond_true, e2', Option.bind_some, if_pos hdir]; rfl
  · have : (s.t.1 == 2) = false := by simpa [St.t] using hdir
    rw [this, cond_false, if_neg hdir]; rfl
theorem z46 {k : Nat} (hk : Big k) (s : St) (hd : Short s) (n : Int) : f46 k (s.t, n) = some (owesS s n) := by
  unfold f46 owesS
  simp only [z121 hk s hd, Option.bind_some]
  cases hb : stOK s && (s.dir == 1) with
  | false => simp
  | true =>
    have hb' : stOK s = true ∧ s.dir = 1 := by simpa using hb
    have h := (stOK_iff s).1 hb'.1
    simp only [Bool.not_true, cond_false, if_true]
    have e0 : f122 k ((s.t.2.2.2.2.2.1, s.t.2.2.2.2.2.2.1, s.t.2.2.2.2.2.2.2.1, s.t.2.2.2.2.2.2.2.2.1, s.t.2.2.2.2.2.2.2.2.2.1), n) = some (needS s.r.2.1 s.r.2.2.1 s.r.2.2.2.1 s.r.2.2.2.2.1 s.r.2.2.2.2.2.1 n) := s93 hk _ _ _ _ _ n
    rw [e0, Option.bind_some]
    have hph := (phOK_iff _ _ _ _ _).2 h.r.p
    by_cases h1 : n < 0
    · have : needS s.r.2.1 s.r.2.2.1 s.r.2.2.2.1 s.r.2.2.2.2.1 s.r.2.2.2.2.2.1 n = (0, 2) := by
        unfold needS checkS; simp [hph, h1]
      simp [this, h1]
    by_cases h2 : 65536 < n
    · have : needS s.r.2.1 s.r.2.2.1 s.r.2.2.2.1 s.r.2.2.2.2.1 s.r.2.2.2.2.2.1 n = (0, 2) := by
        unfold needS checkS; simp [hph, h1, h2]
      simp [this, h2]
    have : needS s.r.2.1 s.r.2.2.1 s.r.2.2.2.1 s.r.2.2.2.2.1 s.r.2.2.2.2.2.1 n = ((rPh s.r).need n, 0) := by
      unfold needS
      rw [if_pos ((checkS_zero _ _).2 ⟨hph, by omega, by omega⟩)]; rfl
    simp only [this, h1, h2, or_self, if_false, bne_self_eq_false, cond_false]
    rw [z50 hk s hd, Option.bind_some]
    have hw : waitS s = rFr s.r := by
      rcases waitS_eq h with ⟨_, e⟩ | ⟨e, _⟩
      · exact e
      · have := hb'.2; omega
    have w0 : 0 ≤ rFr s.r := frames_nonneg (d := s.r.2.2.2.2.2.2) h.r.b.c1
    have w1 : rFr s.r ≤ 65536 := h.r.b.l
    have g0 := (rPh s.r).need_nonneg h.r.p.ok (n := n) (by omega)
    have g1 : (rPh s.r).need n ≤ 36000000000000000 := by
      by_cases hz : n = 0
      · subst hz
        unfold Ph.need; simp
      · rw [(rPh s.r).need_eq hz]
        obtain ⟨a1, a2⟩ := gone_bd h.r.p (n := n - 1) (by omega) (by omega)
        obtain ⟨b1, b2⟩ := gone_bd h.r.p (n := n) (by omega) (by omega)
        change (rPh s.r).gone (n - 1) ≤ _ at a2
        change (rPh s.r).gone n ≤ _ at b2
        omega
    rw [hw, w64 (by omega) (by omega)]
    congr 2
    simp only [gt_iff_lt]
    split <;> omega
end Go.Proofs.YtbfkfobfhjgphaaGreat.Sp

/- What the reference's streams do, in plain words: writing, commands, taking, giving, reading. -/
set_option linter.unusedVariables false
set_option linter.unusedSimpArgs false
namespace Go.Proofs.YtbfkfobfhjgphaaGreat.Sp
open Go Go.Pev Go.Snd Go.Proofs.YtbfkfobfhjgphaaGreat.Fn

/-- a block for which there is room is fed -/
theorem feed_room {s : St} (h : StOK s) (hdir : s.dir = 1) {b : BkT} (hb : BkOK b.1 b.2) (hc : b.1 = s.r.1) (hr : frames b.1 b.2 ≤ roomS s) : (rFeed s.r b).2 = 0 := by
  have hw : waitS s = rFr s.r := by
    rcases waitS_eq h with ⟨_, e⟩ | ⟨e, _⟩
    · exact e
    · omega
  have hroom : roomS s = s.cap - rFr s.r := by unfold roomS; rw [if_pos ((stOK_iff s).2 h), hw]
  have hcap := h.c1
  obtain ⟨bc, bd⟩ := b
  simp only at hc hb hr
  subst hc
  unfold rFeed feedS
  simp only
  rw [if_pos ⟨(rsOK_iff _ _ _ _ _ _ _).2 h.r, (bkOK_iff _ _).2 hb⟩, if_pos trivial, if_neg]
  have ha := append_ok h.r.b hb (show frames s.r.1 s.r.2.2.2.2.2.2 + frames s.r.1 bd ≤ 65536 by have : rFr s.r = frames s.r.1 s.r.2.2.2.2.2.2 := rfl; omega)
  have : ((s.r.2.2.2.2.2.2.length : Int) + bd.length) / s.r.1 = frames s.r.1 (s.r.2.2.2.2.2.2 ++ bd) := by unfold frames; rw [List.length_append, Int.natCast_add]
  rw [this, ha.2]
  have : rFr s.r = frames s.r.1 s.r.2.2.2.2.2.2 := rfl
  omega
theorem z57 {k : Nat} (hk : Big k) (s : St) (hd : Short s) (b : BkT) (hb : b.2.length ≤ 10000000000) : f57 k (s.t, b) = some (rt (writeS s b)) := by
  have h1 := hd.1
  unfold f57 writeS
  simp only [z121 hk s hd, z52 hk s hd, Option.bind_some]
  cases hs : stOK s && (s.dir == 1) with
  | false => simp [rt, St.t, zeroSt, zeroR, zeroG]
  | true =>
    have hs' : stOK s = true ∧ s.dir = 1 := by simpa using hs
    obtain ⟨bc, bd⟩ := b
    simp only at hb
    simp only [s83 hk bc bd (by omega), Option.bind_some, Bool.not_true, cond_false]
    cases hbk : bkOK bc bd with
    | false => simp [rt, St.t, zeroSt, zeroR, zeroG]
    | true =>
      have h := (bkOK_iff _ _).1 hbk
      simp only [Bool.not_true, cond_false, and_self, if_true, s47 hk h, Option.bind_some]
      by_cases hc : bc = s.r.1
      · have e1 : (bc != s.t.2.2.2.2.1) = false := by simp [St.t, hc]
        rw [e1, cond_false, if_pos hc]
        by_cases h5 : 5 ≤ s.state
        · have e2 : decide (s.t.2.1 ≥ 5) = true := decide_eq_true h5
          rw [e2, cond_true, if_pos h5]; rfl
        · have e2 : decide (s.t.2.1 ≥ 5) = false := decide_eq_false h5
          rw [e2, cond_false, if_neg h5]
          by_cases h6 : roomS s < frames bc bd
          · have e3 : decide (frames bc bd > roomS s) = true := decide_eq_true h6
            rw [e3, cond_true, if_pos h6]; rfl
          · have e3 : decide (frames bc bd > roomS s) = false := decide_eq_false h6
            rw [e3, cond_false, if_neg h6]
            have e4 := s26 hk s.r.1 s.r.2.1 s.r.2.2.1 s.r.2.2.2.1 s.r.2.2.2.2.1 s.r.2.2.2.2.2.1 s.r.2.2.2.2.2.2 bc bd (by omega) (by omega)
            have e4' : f113 k ((s.t.2.2.2.2.1, s.t.2.2.2.2.2.1, s.t.2.2.2.2.2.2.1, s.t.2.2.2.2.2.2.2.1, s.t.2.2.2.2.2.2.2.2.1, s.t.2.2.2.2.2.2.2.2.2.1, s.t.2.2.2.2.2.2.2.2.2.2.1), bc, bd) = some (rFeed s.r (bc, bd)) := e4
            have hf := feed_room ((stOK_iff s).1 hs'.1) hs'.2 (b := (bc, bd)) h hc (by simp only; omega)
            have e9 : ((rFeed s.r (bc, bd)).2 != 0) = false := by simp [hf]
            rw [e4', Option.bind_some, e9, cond_false]
            by_cases h7 : s.state = 1
            · have e5 : (s.t.2.1 == 1) = true := by simpa [St.t] using h7
              rw [e5, cond_true]
              by_cases h8 : 0 < frames bc bd
              · have e6 : decide (frames bc bd > 0) = true := decide_eq_true h8
                rw [e6, cond_true, if_pos ⟨h7, h8⟩]; rfl
              · have e6 : decide (frames bc bd > 0) = false := decide_eq_false h8
                rw [e6, cond_false, if_neg (fun h => h8 h.2)]; rfl
            · have e5 : (s.t.2.1 == 1) = false := by simpa [St.t] using h7
              rw [e5, cond_false, if_neg (fun h => h7 h.1)]; rfl
      · have e1 : (bc != s.t.2.2.2.2.1) = true := by simpa [St.t] using hc
        rw [e1, cond_true, if_neg hc]; rfl

/-! ### commands -/
theorem waitS_state {s : St} (h : StOK s) {n : Int} (n0 : 1 ≤ n) (n1 : n ≤ 7) : waitS { s with state := n } = waitS s := by
  have h' : StOK { s with state := n } := ⟨n0, n1, h.c0, h.c1, h.b0, h.b1, h.r, h.adj, h.w0, h.p0, h.m0, h.d⟩
  unfold waitS
  rw [if_pos ((stOK_iff s).2 h), if_pos ((stOK_iff _).2 h')]
set_option maxHeartbeats 2000000 in
theorem z60 {k : Nat} (hk : Big k) (s : St) (hd : Short s) (c : Int) : f60 k (s.t, c) = some (rt (doS s c)) := by
  have hE : ∀ n : Int, f135 k ({ s with state := n } : St).t = some (emptyS { s with state := n }).t := fun n => z135 hk { s with state := n } hd
  have hW : ∀ n : Int, f50 k ({ s with state := n } : St).t = some (waitS { s with state := n }) := fun n => z50 hk { s with state := n } hd
  have hT : ∀ n : Int, ((s.t.1, n, s.t.2.2) : StT) = ({ s with state := n } : St).t := fun n => rfl
  unfold f60
  rw [z48 hk s hd, Option.bind_some]
  cases hb : stOK s with
  | false =>
    have : doS s c = (zeroSt, 1) := by unfold doS; simp [hb]
    rw [this]; rfl
  | true =>
    have h := (stOK_iff s).1 hb
    have q0 := h.s0
    have q1 := h.s1
    simp only [Bool.not_true, cond_false]
    by_cases h1 : c < 1
    · have : doS s c = (zeroSt, 1) := by unfold doS; rw [if_neg (by omega)]
      rw [this, show decide (c < 1) = true from decide_eq_true h1, cond_true]; rfl
    by_cases h2 : c > 7
    · have : doS s c = (zeroSt, 1) := by unfold doS; rw [if_neg (by omega)]
      rw [this, show decide (c < 1) = false from decide_eq_false h1, cond_false, show decide (c > 7) = true from decide_eq_true h2, cond_true]; rfl
    rw [show decide (c < 1) = false from decide_eq_false h1, cond_false, show decide (c > 7) = false from decide_eq_false h2, cond_false]
    simp only [hT]
    simp only [hW, hE, Option.bind_some]
    rw [show s.t.2.1 = s.state from rfl, show s.t.1 = s.dir from rfl, show s.t.2.2.2.1 = s.start from rfl]
    rcases (show c = 1 ∨ c = 2 ∨ c = 3 ∨ c = 4 ∨ c = 5 ∨ c = 6 ∨ c = 7 by omega) with rfl | rfl | rfl | rfl | rfl | rfl | rfl
    · rw [doS_1, if_pos hb]
      simp only [Int.reduceBEq, Int.reduceGE, decide_true, decide_false, cond_true, cond_false]
      rw [waitS_state h (by omega) (by omega)]
      have hb0 := h.b0
      have hdd : s.dir = 1 ∨ s.dir = 2 := by rcases h.d with ⟨e, _⟩ | ⟨e, _⟩; exact .inl e; exact .inr e
      by_cases g2 : s.state = 2
      · rcases hdd with g3 | g3
        · by_cases g4 : waitS s < s.start
          · simp [g2, g3, g4, mayS, rt_zero]
          · simp [g2, g3, g4, mayS, afterS, rt]
        · simp [g2, g3, mayS, afterS, rt]
      · by_cases g1 : s.state = 1
        · rcases hdd with g3 | g3
          · by_cases g4 : s.start = 0
            · simp [g1, g3, g4, mayS, afterS, rt]
            · have : 0 < s.start := by omega
              simp [g1, g3, g4, c_ne g4, this, mayS, rt_zero]
          · simp [g1, g3, mayS, afterS, rt]
        · simp [g1, g2, c_ne g1, c_ne g2, mayS, rt_zero]
    · rw [doS_n s 2 (by omega) (by omega), if_pos hb]
      simp only [Int.reduceBEq, Int.reduceGE, decide_true, decide_false, cond_true, cond_false]
      by_cases g : s.state = 3
      · simp [g, mayS, afterS, rt]
      · simp [g, c_ne g, mayS, rt_zero]
    · rw [doS_n s 3 (by omega) (by omega), if_pos hb]
      simp only [Int.reduceBEq, Int.reduceGE, decide_true, decide_false, cond_true, cond_false]
      by_cases g : s.state = 4
      · simp [g, mayS, afterS, rt]
      · simp [g, c_ne g, mayS, rt_zero]
    · rw [doS_n s 4 (by omega) (by omega), if_pos hb]
      simp only [Int.reduceBEq, Int.reduceGE, decide_true, decide_false, cond_true, cond_false]
      by_cases g0 : s.dir = 1
      · by_cases g1 : s.state = 2
        · simp [g0, g1, mayS, afterS, rt]
        · by_cases g2 : s.state = 3
          · simp [g0, g2, mayS, afterS, rt]
          · by_cases g3 : s.state = 4
            · simp [g0, g3, mayS, afterS, rt]
            · have e1 : mayS s 4 = false := by simp [mayS, g0, g1, g2, g3]
              rw [e1]
              by_cases g4 : s.state ≥ 2
              · have g5 : ¬ s.state ≤ 4 := by omega
                simp [g0, g4, g5, rt_zero]
              · simp [g0, g4, rt_zero]
      · simp [g0, c_ne g0, mayS, rt_zero]
    · rw [doS_n s 5 (by omega) (by omega), if_pos hb]
      simp only [Int.reduceBEq, Int.reduceGE, decide_true, decide_false, cond_true, cond_false]
      by_cases g : s.state ≤ 5
      · simp [g, mayS, afterS, rt]
      · simp [g, mayS, rt_zero]
    · rw [doS_n s 6 (by omega) (by omega), if_pos hb]
      simp only [Int.reduceBEq, Int.reduceGE, decide_true, decide_false, cond_true, cond_false]
      by_cases g : s.state ≤ 6
      · by_cases g7 : s.state = 7
        · omega
        · have e7 : (s.state != 7) = true := by simpa using g7
          simp [g, g7, e7, mayS, afterS, rt]
      · have g7 : s.state = 7 := by omega
        simp [g7, mayS, rt_zero]
    · rw [doS_n s 7 (by omega) (by omega), if_pos hb]
      simp only [Int.reduceBEq, Int.reduceGE, decide_true, decide_false, cond_true, cond_false]
      by_cases g : s.state = 2
      · simp [g, mayS, afterS, rewindS, rt]
      · by_cases g4 : s.state ≤ 4
        · simp [g, c_ne g, g4, mayS, afterS, rewindS, rt, z135 hk s hd]
        · simp [g, c_ne g, g4, mayS, rt_zero]

/-! ### taking -/
theorem pad_join {k : Nat} (hk : Big k) {ch K n : Int} {d : List Int} (h : BkOK ch d) (hK : frames ch d = K) (h1 : K ≤ n) (h2 : n ≤ 65536) :
    f42 k (ch, d) = some K ∧ f30 k (ch, n - K) = some ((ch, List.replicate (ch * (n - K)).toNat 0), 0) ∧ f36 k ((ch, d), (ch, List.replicate (ch * (n - K)).toNat 0)) = some (ch, padS ch n d) := by
  have q0 := frames_nonneg (d := d) h.c1
  have hl := h.len
  have hll := h.len_le
  rw [hK] at q0 hl
  obtain ⟨m1, m2⟩ := mul_bd (show 0 ≤ ch by have := h.c1; omega) h.c2 (show 0 ≤ n - K by omega) (show n - K ≤ 65536 by omega)
  refine ⟨by rw [s47 hk h, hK], s63 k h.c1 h.c2 (by omega) (by omega), ?_⟩
  rw [s42 k _ _ _ _ (by omega) (by rw [List.length_replicate]; omega)]
  unfold padS
  rw [hl, show n * ch - K * ch = ch * (n - K) by rw [Int.mul_sub, Int.mul_comm ch n, Int.mul_comm ch K]]
set_option maxHeartbeats 2000000 in
theorem z61 {k : Nat} (hk : Big k) (s : St) (hd : Short s) (n : Int) : f61 k (s.t, n) = some (rt4 (takeSt s n)) := by
  unfold f61 takeSt
  have hd1 := hd.1
  simp only [z121 hk s hd, Option.bind_some]
  cases hb : stOK s && (s.dir == 1) with
  | false => simp [rt4, zeroB, zeroSt, St.t, zeroR, zeroG]
  | true =>
    have hb' : stOK s = true ∧ s.dir = 1 := by simpa using hb
    have h := (stOK_iff s).1 hb'.1
    have hw : waitS s = rFr s.r := by
      rcases waitS_eq h with ⟨_, e⟩ | ⟨e, _⟩
      · exact e
      · have := hb'.2; omega
    have w0 : 0 ≤ rFr s.r := frames_nonneg (d := s.r.2.2.2.2.2.2) h.r.b.c1
    have w1 : rFr s.r ≤ 65536 := h.r.b.l
    simp only [Bool.not_true, cond_false, if_true]
    by_cases h1 : n < 0
    · simp [h1, rt4, zeroB, zeroSt, St.t, zeroR, zeroG]
    by_cases h2 : 65536 < n
    · simp [h1, h2, rt4, zeroB, zeroSt, St.t, zeroR, zeroG]
    have h2' : ¬ n > 65536 := h2
    simp only [h1, h2, h2', decide_false, cond_false, or_self, if_false]
    rw [show s.t.2.1 = s.state from rfl, show s.t.2.2.2.2.1 = s.r.1 from rfl]
    by_cases h3 : s.state = 3
    · have hm0 := (rPh s.r).make_nonneg (rFr s.r)
      have hm1 := (rPh s.r).make_le (rFr s.r)
      have e1 : f114 k ((s.t.2.2.2.2.2.1, s.t.2.2.2.2.2.2.1, s.t.2.2.2.2.2.2.2.1, s.t.2.2.2.2.2.2.2.2.1, s.t.2.2.2.2.2.2.2.2.2.1), rFr s.r) = some ((rPh s.r).make (rFr s.r), 0) := by
        refine (s45 hk _ _ _ _ _ _).trans ?_
        have : makeS s.r.2.1 s.r.2.2.1 s.r.2.2.2.1 s.r.2.2.2.2.1 s.r.2.2.2.2.2.1 (rFr s.r) = ((rPh s.r).make (rFr s.r), 0) := by
          unfold makeS
          rw [if_pos ((phOK_iff _ _ _ _ _).2 h.r.p), if_neg (by omega)]; rfl
        exact congrArg some this
      simp only [h3, Int.reduceBEq, cond_true, cond_false, if_true, z50 hk s hd, hw, e1, Option.bind_some]
      have eK : (if n < (rPh s.r).make (rFr s.r) then n else (rPh s.r).make (rFr s.r)) = min n ((rPh s.r).make (rFr s.r)) := by split <;> omega
      rw [eK]
      obtain ⟨K, hK⟩ : ∃ K, K = min n ((rPh s.r).make (rFr s.r)) := ⟨_, rfl⟩
      rw [← hK]
      have e2 : f116 k ((s.r.1, s.t.2.2.2.2.2.1, s.t.2.2.2.2.2.2.1, s.t.2.2.2.2.2.2.2.1, s.t.2.2.2.2.2.2.2.2.1, s.t.2.2.2.2.2.2.2.2.2.1, s.t.2.2.2.2.2.2.2.2.2.2.1), K) = some (rTake s.r K) := s35 hk _ _ _ _ _ _ _ (show s.r.2.2.2.2.2.2.length ≤ 1000000000000 by omega) K
      rw [e2, Option.bind_some]
      by_cases he : (rTake s.r K).2.2 = 0
      · have hcase : rTake s.r K = ((s.r.1, outS s.r.1 s.r.2.1 s.r.2.2.1 s.r.2.2.2.1 s.r.2.2.2.2.2.1 s.r.2.2.2.2.2.2 K), nextR s.r.1 s.r.2.1 s.r.2.2.1 s.r.2.2.2.1 s.r.2.2.2.2.1 s.r.2.2.2.2.2.1 s.r.2.2.2.2.2.2 K, 0) := by
          have hx : rTake s.r K = prodS s.r.1 s.r.2.1 s.r.2.2.1 s.r.2.2.2.1 s.r.2.2.2.2.1 s.r.2.2.2.2.2.1 s.r.2.2.2.2.2.2 K := by
            unfold rTake takeS
            rw [if_pos ((checkS_zero _ _).2 ⟨(rsOK_iff _ _ _ _ _ _ _).2 h.r, by omega, by omega⟩), if_neg]
            have := (rPh s.r).need_of_le_make h.r.p.ok w0 (j := K) (by omega) (by omega)
            show ¬ rFr s.r < (rPh s.r).need K
            omega
          rcases prodS_cases h.r (n := K) (by omega) (by omega) with e | e
          · rw [hx, e]
          · rw [hx, e] at he; simp at he
        rw [hcase]
        obtain ⟨o1, o2⟩ := out_ok h.r (n := K) (by omega) (by omega)
        obtain ⟨p1, p2, p3⟩ := pad_join hk o1 o2 (show K ≤ n by omega) (by omega)
        simp only [bne_self_eq_false, cond_false, p1, p2, p3, Option.bind_some, if_true, w64 (show -9223372036854775808 ≤ n - K by omega) (by omega)]
        simp only [rt4, St.t, takenSt, hb'.2, h3]
      · have he' : ((rTake s.r K).2.2 != 0) = true := by simpa using he
        rw [he', cond_true, if_neg he]; rfl
    · rw [c_ne h3, cond_false, if_neg h3]
      by_cases h5 : s.state = 5
      · simp only [h5, Int.reduceBEq, cond_true, cond_false, if_true]
        have e2 : f136 k ((s.r.1, s.t.2.2.2.2.2.1, s.t.2.2.2.2.2.2.1, s.t.2.2.2.2.2.2.2.1, s.t.2.2.2.2.2.2.2.2.1, s.t.2.2.2.2.2.2.2.2.2.1, s.t.2.2.2.2.2.2.2.2.2.2.1), n) = some (rFin s.r n) := s37 hk _ _ _ _ _ _ _ (show s.r.2.2.2.2.2.2.length ≤ 1000000000000 by omega) n
        rw [e2, Option.bind_some]
        have hl0 := (rPh s.r).left_nonneg h.r.p.ok (rFr s.r)
        obtain ⟨K, hK⟩ : ∃ K, K = min n ((rPh s.r).left (rFr s.r)) := ⟨_, rfl⟩
        have hx : rFin s.r n = prodS s.r.1 s.r.2.1 s.r.2.2.1 s.r.2.2.2.1 s.r.2.2.2.2.1 s.r.2.2.2.2.2.1 s.r.2.2.2.2.2.2 K := by
          rw [hK]
          unfold rFin finS
          rw [if_pos ((checkS_zero _ _).2 ⟨(rsOK_iff _ _ _ _ _ _ _).2 h.r, by omega, by omega⟩)]; rfl
        rcases prodS_cases h.r (n := K) (by omega) (by omega) with e | e
        · rw [hx, e]
          obtain ⟨o1, o2⟩ := out_ok h.r (n := K) (by omega) (by omega)
          obtain ⟨p1, p2, p3⟩ := pad_join hk o1 o2 (show K ≤ n by omega) (by omega)
          simp only [bne_self_eq_false, cond_false, p1, w64 (show -9223372036854775808 ≤ n - K by omega) (by omega), p2, p3, Option.bind_some, if_true]
          by_cases hr : (nextR s.r.1 s.r.2.1 s.r.2.2.1 s.r.2.2.2.1 s.r.2.2.2.2.1 s.r.2.2.2.2.2.1 s.r.2.2.2.2.2.2 K).2.2.2.2.2.2 = []
          · have : ((((nextR s.r.1 s.r.2.1 s.r.2.2.1 s.r.2.2.2.1 s.r.2.2.2.2.1 s.r.2.2.2.2.2.1 s.r.2.2.2.2.2.2 K).2.2.2.2.2.2).length : Int) == 0) = true := by rw [hr]; rfl
            rw [this, cond_true, if_pos hr]
            simp only [rt4, St.t, takenSt, hb'.2]
          · have : ((((nextR s.r.1 s.r.2.1 s.r.2.2.1 s.r.2.2.2.1 s.r.2.2.2.2.1 s.r.2.2.2.2.2.1 s.r.2.2.2.2.2.2 K).2.2.2.2.2.2).length : Int) == 0) = false := by
              refine c_ne fun h0 => hr (List.length_eq_zero_iff.1 (by omega))
            rw [this, cond_false, if_neg hr]
            simp only [rt4, St.t, takenSt, hb'.2, h5]
        · rw [hx, e]
          simp [zeroR, rt4, zeroB, zeroSt, St.t, zeroG]
      · rw [if_neg h5, c_ne h5, cond_false]
        obtain ⟨n1, n2⟩ := nil_ok h.r.b.c1 h.r.b.c2
        obtain ⟨p1, p2, p3⟩ := pad_join hk n1 n2 (show 0 ≤ n by omega) (by omega)
        simp only [Int.reduceBNe, cond_false, c_ne h3, c_ne h5, p1, w64 (show -9223372036854775808 ≤ n - 0 by omega) (by omega), p2, p3, Option.bind_some]
        have : padS s.r.1 n [] = List.replicate (s.r.1 * n).toNat 0 := by
          unfold padS; simp [Int.mul_comm]
        rw [this]; rfl

/-! ### giving and reading -/
theorem z64 {k : Nat} (hk : Big k) (s : St) (hd : Short s) (b : BkT) (hb : b.2.length ≤ 10000000000) : f64 k (s.t, b) = some (rt3 (giveS s b)) := by
  have hd1 := hd.1
  have hd2 := hd.2
  unfold f64 giveS
  simp only [z133 hk s hd, Option.bind_some]
  cases hs : stOK s && (s.dir == 2) with
  | false => simp only [Bool.not_false, cond_true, Bool.false_eq_true, false_and, if_false]; rfl
  | true =>
    obtain ⟨bc, bd⟩ := b
    simp only at hb
    simp only [s83 hk bc bd (by omega), Option.bind_some, Bool.not_true, cond_false]
    cases hbk : bkOK bc bd with
    | false => simp only [Bool.not_false, cond_true, Bool.false_eq_true, and_false, if_false]; rfl
    | true =>
      have h := (bkOK_iff _ _).1 hbk
      simp only [Bool.not_true, cond_false, and_self, if_true]
      by_cases hc : bc = s.r.1
      · have e1 : (bc != s.t.2.2.2.2.1) = false := by simp [St.t, hc]
        rw [e1, cond_false, if_pos hc]
        by_cases h3 : s.state = 3
        · have e2 : (s.t.2.1 != 3) = false := by simp [St.t, h3]
          rw [e2, cond_false, if_pos h3]
          have e3 : f38 k ((s.t.2.2.2.2.1, s.t.2.2.2.2.2.1, s.t.2.2.2.2.2.2.1, s.t.2.2.2.2.2.2.2.1, s.t.2.2.2.2.2.2.2.2.1, s.t.2.2.2.2.2.2.2.2.2.1, s.t.2.2.2.2.2.2.2.2.2.2.1), bc, bd) = some (rConv s.r (bc, bd)) := s40 hk _ _ _ _ _ _ _ _ _ (show s.r.2.2.2.2.2.2.length ≤ 100000000000 by omega) (by omega)
          rw [e3, Option.bind_some]
          by_cases h4 : (rConv s.r (bc, bd)).2.2 = 0
          · have e4 : ((rConv s.r (bc, bd)).2.2 != 0) = false := by simp [h4]
            have hrl := rConv_len s.r (bc, bd)
            have e5 : f139 k ((s.t.2.2.2.2.2.2.2.2.2.2.2.1, s.t.2.2.2.2.2.2.2.2.2.2.2.2.1, s.t.2.2.2.2.2.2.2.2.2.2.2.2.2.1, s.t.2.2.2.2.2.2.2.2.2.2.2.2.2.2.1, s.t.2.2.2.2.2.2.2.2.2.2.2.2.2.2.2.1), (rConv s.r (bc, bd)).1) = some (writeG s.g (rConv s.r (bc, bd)).1) := z139 hk s.g _ hd2 (by omega)
            rw [e4, cond_false, if_pos h4, e5, Option.bind_some]
            by_cases h5 : (writeG s.g (rConv s.r (bc, bd)).1).2.2 = 0
            · have e6 : ((writeG s.g (rConv s.r (bc, bd)).1).2.2 != 0) = false := by simp [h5]
              rw [e6, cond_false, if_pos h5, s47 hk h]; rfl
            · have e6 : ((writeG s.g (rConv s.r (bc, bd)).1).2.2 != 0) = true := by simpa using h5
              rw [e6, cond_true, if_neg h5]; rfl
          · have e4 : ((rConv s.r (bc, bd)).2.2 != 0) = true := by simpa using h4
            rw [e4, cond_true, if_neg h4]; rfl
        · have e2 : (s.t.2.1 != 3) = true := by simpa [St.t] using h3
          rw [e2, cond_true, if_neg h3]; rfl
      · have e1 : (bc != s.t.2.2.2.2.1) = true := by simpa [St.t] using hc
        rw [e1, cond_true, if_neg hc]; rfl
theorem z59 {k : Nat} (hk : Big k) (s : St) (hd : Short s) (n : Int) : f59 k (s.t, n) = some (rt5 (readS s n)) := by
  have hd2 := hd.2
  unfold f59 readS
  simp only [z133 hk s hd, Option.bind_some]
  cases hs : stOK s && (s.dir == 2) with
  | false => simp only [Bool.not_false, cond_true, Bool.false_eq_true, if_false]; rfl
  | true =>
    simp only [Bool.not_true, cond_false, if_true]
    by_cases h1 : n < 0
    · simp only [h1, decide_true, cond_true, true_or, if_true]; rfl
    by_cases h2 : 65536 < n
    · have h2' : n > 65536 := h2
      simp only [h1, h2, h2', decide_true, decide_false, cond_true, cond_false, or_true, if_true]; rfl
    have h2' : ¬ n > 65536 := h2
    simp only [h1, h2, h2', decide_false, cond_false, or_self, if_false]
    by_cases h7 : s.state = 7
    · have e : (s.t.2.1 == 7) = true := by simpa [St.t] using h7
      rw [e, cond_true, if_pos h7]; rfl
    · have e : (s.t.2.1 == 7) = false := by simpa [St.t] using h7
      rw [e, cond_false, if_neg h7, z50 hk s hd, Option.bind_some]
      have hmin : (if waitS s < n then waitS s else n) = min n (waitS s) := by split <;> omega
      rw [hmin]
      have e5 : f134 k ((s.t.2.2.2.2.2.2.2.2.2.2.2.1, s.t.2.2.2.2.2.2.2.2.2.2.2.2.1, s.t.2.2.2.2.2.2.2.2.2.2.2.2.2.1, s.t.2.2.2.2.2.2.2.2.2.2.2.2.2.2.1, s.t.2.2.2.2.2.2.2.2.2.2.2.2.2.2.2.1), min n (waitS s)) = some (readG s.g (min n (waitS s))) := z134 hk s.g _ hd2
      rw [e5, Option.bind_some]; rfl
end Go.Proofs.YtbfkfobfhjgphaaGreat.Sp

/- Streams stay valid, whatever is done to them; the streams that are made. -/
set_option linter.unusedVariables false
set_option linter.unusedSimpArgs false
namespace Go.Proofs.YtbfkfobfhjgphaaGreat.Sp
open Go Go.Pev Go.Snd Go.Proofs.YtbfkfobfhjgphaaGreat.Fn

/-- a stream of usual rates whose counts are small -/
structure Small (s : St) (B : Int) : Prop where
  ok : StOK s
  base : BaseOK s.r.2.1 s.r.2.2.1
  pos : s.r.2.2.2.2.1 ≤ 54000000 * B
  wr : s.wr ≤ 65536 * B
  pl : s.pl ≤ 65536 * B
  ms : s.ms ≤ 65536 * B
structure Keeps (s s' : St) (B : Int) : Prop where
  small : Small s' (B + 1)
  dir : s'.dir = s.dir
  ch : s'.r.1 = s.r.1
theorem Small.mono {s : St} {B C : Int} (h : Small s B) (hB : B ≤ C) : Small s C := by
  obtain ⟨a, b, c, d, e, f⟩ := h
  exact ⟨a, b, by omega, by omega, by omega, by omega⟩
theorem keeps_self {s : St} {B : Int} (h : Small s B) : Keeps s s B := ⟨h.mono (by omega), rfl, rfl⟩
theorem play_wait {s : St} (h : StOK s) (hd : s.dir = 1) : waitS s = rFr s.r ∧ rFr s.r ≤ s.cap ∧ s.g = zeroG := by
  rcases h.d with ⟨_, h2, h3⟩ | ⟨h1, _⟩
  · rcases waitS_eq h with ⟨_, e⟩ | ⟨e, _⟩
    · exact ⟨e, h2, h3⟩
    · omega
  · omega
theorem write_keeps {s : St} {B : Int} (h : Small s B) (hB : B ≤ 1000000) {b : BkT} (he : (writeS s b).2 = 0) : Keeps s (writeS s b).1 B ∧ (writeS s b).1.wr = s.wr + frames b.1 b.2 := by
  unfold writeS at he ⊢
  split at he
  · rename_i h1
    rw [if_pos h1]
    have hs : stOK s = true ∧ s.dir = 1 := by simpa using h1.1
    have hb := (bkOK_iff _ _).1 h1.2
    split at he
    · rename_i h2
      rw [if_pos h2]
      split at he
      · simp at he
      · rename_i h3
        rw [if_neg h3]
        split at he
        · simp at he
        · rename_i h4
          rw [if_neg h4]
          obtain ⟨w1, w2, w3⟩ := play_wait h.ok hs.2
          have hroom : roomS s = s.cap - rFr s.r := by unfold roomS; rw [if_pos hs.1, w1]
          have q0 := frames_nonneg (d := b.2) hb.c1
          have q1 : frames b.1 b.2 ≤ 65536 := hb.l
          have hwr := h.wr
          have hw0 := h.ok.w0
          have hs0 := h.ok.s0
          have hs1 := h.ok.s1
          have hcap := h.ok.c1
          obtain ⟨bc, bd⟩ := b
          simp only at h2 hb q0 q1 h4
          subst h2
          have ha := append_ok h.ok.r.b hb (show frames s.r.1 s.r.2.2.2.2.2.2 + frames s.r.1 bd ≤ 65536 by have : rFr s.r = frames s.r.1 s.r.2.2.2.2.2.2 := rfl; omega)
          have hfeed : rFeed s.r (s.r.1, bd) = ((s.r.1, s.r.2.1, s.r.2.2.1, s.r.2.2.2.1, s.r.2.2.2.2.1, s.r.2.2.2.2.2.1, s.r.2.2.2.2.2.2 ++ bd), 0) := by
            unfold rFeed feedS
            rw [if_pos ⟨(rsOK_iff _ _ _ _ _ _ _).2 h.ok.r, (bkOK_iff _ _).2 hb⟩, if_pos rfl, if_neg]
            have : ((s.r.2.2.2.2.2.2.length : Int) + bd.length) / s.r.1 = frames s.r.1 (s.r.2.2.2.2.2.2 ++ bd) := by unfold frames; rw [List.length_append, Int.natCast_add]
            rw [this, ha.2]
            have : rFr s.r = frames s.r.1 s.r.2.2.2.2.2.2 := rfl
            omega
          simp only [hfeed]
          have hw : IntKind.wrap .i64 (s.wr + frames s.r.1 bd) = s.wr + frames s.r.1 bd := w64 (by omega) (by omega)
          rw [hw]
          have e2 : frames s.r.1 s.r.2.2.2.2.2.2 = rFr s.r := rfl
          refine ⟨⟨⟨⟨?_, ?_, h.ok.c0, h.ok.c1, h.ok.b0, h.ok.b1, ⟨h.ok.r.p, ha.1⟩, h.ok.adj, ?_, h.ok.p0, h.ok.m0, .inl ⟨hs.2, ?_, w3⟩⟩, h.base, ?_, ?_, ?_, ?_⟩, rfl, rfl⟩, rfl⟩
          · show 1 ≤ (if s.state = 1 ∧ 0 < frames s.r.1 bd then 2 else s.state)
            split <;> omega
          · show (if s.state = 1 ∧ 0 < frames s.r.1 bd then 2 else s.state) ≤ 7
            split <;> omega
          · show 0 ≤ s.wr + frames s.r.1 bd
            omega
          · show frames s.r.1 (s.r.2.2.2.2.2.2 ++ bd) ≤ s.cap
            rw [ha.2]; omega
          · have := h.pos; show s.r.2.2.2.2.1 ≤ _; omega
          · show s.wr + frames s.r.1 bd ≤ _
            omega
          · have := h.pl; show s.pl ≤ _; omega
          · have := h.ms; show s.ms ≤ _; omega
    · simp at he
  · simp at he
/-- what comes next is valid, if it is no error -/
theorem next_ok {r : RsT} (h : ROK r) {n : Int} (h0 : 0 ≤ n) (h1 : n ≤ 65536) (he : (prodS r.1 r.2.1 r.2.2.1 r.2.2.2.1 r.2.2.2.2.1 r.2.2.2.2.2.1 r.2.2.2.2.2.2 n).2.2 = 0) :
    prodS r.1 r.2.1 r.2.2.1 r.2.2.2.1 r.2.2.2.2.1 r.2.2.2.2.2.1 r.2.2.2.2.2.2 n = ((r.1, outS r.1 r.2.1 r.2.2.1 r.2.2.2.1 r.2.2.2.2.2.1 r.2.2.2.2.2.2 n), nextR r.1 r.2.1 r.2.2.1 r.2.2.2.1 r.2.2.2.2.1 r.2.2.2.2.2.1 r.2.2.2.2.2.2 n, 0) ∧
    ROK (nextR r.1 r.2.1 r.2.2.1 r.2.2.2.1 r.2.2.2.2.1 r.2.2.2.2.2.1 r.2.2.2.2.2.2 n) ∧ rFr (nextR r.1 r.2.1 r.2.2.1 r.2.2.2.1 r.2.2.2.2.1 r.2.2.2.2.2.1 r.2.2.2.2.2.2 n) ≤ rFr r := by
  by_cases hp : r.2.2.2.2.1 + (ph r.2.1 r.2.2.1 r.2.2.2.1 r.2.2.2.2.2.1).gone n ≤ 1125899906842624
  · obtain ⟨e1, e2, e3⟩ := prodS_ok h h0 h1 hp
    refine ⟨e1, e2, ?_⟩
    have g0 := (ph r.2.1 r.2.2.1 r.2.2.2.1 r.2.2.2.2.2.1).gone_nonneg h.p.ok h0
    have w0 := frames_nonneg (d := r.2.2.2.2.2.2) h.b.c1
    have e3' : rFr (nextR r.1 r.2.1 r.2.2.1 r.2.2.2.1 r.2.2.2.2.1 r.2.2.2.2.2.1 r.2.2.2.2.2.2 n) = max 0 (frames r.1 r.2.2.2.2.2.2 - (ph r.2.1 r.2.2.1 r.2.2.2.1 r.2.2.2.2.2.1).gone n) := e3
    have e4 : rFr r = frames r.1 r.2.2.2.2.2.2 := rfl
    omega
  · rw [prodS_bad h h0 h1 hp] at he
    simp at he
theorem taken_keeps {s : St} {B : Int} (h : Small s B) (hB : B ≤ 1000000) (hdir : s.dir = 1) {K n miss st : Int} (k0 : 0 ≤ K) (k1 : K ≤ n) (h1 : n ≤ 65536) (m0 : 0 ≤ miss) (m1 : miss ≤ n) (st0 : 1 ≤ st) (st1 : st ≤ 7)
    (he : (prodS s.r.1 s.r.2.1 s.r.2.2.1 s.r.2.2.2.1 s.r.2.2.2.2.1 s.r.2.2.2.2.2.1 s.r.2.2.2.2.2.2 K).2.2 = 0) :
    Keeps s (takenSt s (nextR s.r.1 s.r.2.1 s.r.2.2.1 s.r.2.2.2.1 s.r.2.2.2.2.1 s.r.2.2.2.2.2.1 s.r.2.2.2.2.2.2 K) st n miss) B ∧
    (takenSt s (nextR s.r.1 s.r.2.1 s.r.2.2.1 s.r.2.2.2.1 s.r.2.2.2.2.1 s.r.2.2.2.2.2.1 s.r.2.2.2.2.2.2 K) st n miss).pl = s.pl + n ∧
    (takenSt s (nextR s.r.1 s.r.2.1 s.r.2.2.1 s.r.2.2.2.1 s.r.2.2.2.2.1 s.r.2.2.2.2.2.1 s.r.2.2.2.2.2.2 K) st n miss).ms = s.ms + miss := by
  obtain ⟨e1, e2, e3⟩ := next_ok h.ok.r k0 (show K ≤ 65536 by omega) he
  obtain ⟨w1, w2, w3⟩ := play_wait h.ok hdir
  obtain ⟨g1, g2⟩ := gone_small h.ok.r.p h.base k0 (show K ≤ 65536 by omega)
  have hpl := h.pl
  have hms := h.ms
  have hp0 := h.ok.p0
  have hm0 := h.ok.m0
  have hpos := h.pos
  have hw := h.wr
  have ew1 : IntKind.wrap .i64 (s.pl + n) = s.pl + n := w64 (by omega) (by omega)
  have ew2 : IntKind.wrap .i64 (s.ms + miss) = s.ms + miss := w64 (by omega) (by omega)
  unfold takenSt
  rw [ew1, ew2]
  refine ⟨⟨⟨⟨st0, st1, h.ok.c0, h.ok.c1, h.ok.b0, h.ok.b1, e2, h.ok.adj, h.ok.w0, ?_, ?_, .inl ⟨hdir, ?_, w3⟩⟩, h.base, ?_, ?_, ?_, ?_⟩, rfl, rfl⟩, rfl, rfl⟩
  · show 0 ≤ s.pl + n; omega
  · show 0 ≤ s.ms + miss; omega
  · exact Int.le_trans e3 w2
  · show s.r.2.2.2.2.1 + (ph s.r.2.1 s.r.2.2.1 s.r.2.2.2.1 s.r.2.2.2.2.2.1).gone K ≤ _
    omega
  · show s.wr ≤ _; omega
  · show s.pl + n ≤ _; omega
  · show s.ms + miss ≤ _; omega
theorem take_prod {s : St} (h : StOK s) {K : Int} (k0 : 0 ≤ K) (k1 : K ≤ (rPh s.r).make (rFr s.r)) : rTake s.r K = prodS s.r.1 s.r.2.1 s.r.2.2.1 s.r.2.2.2.1 s.r.2.2.2.2.1 s.r.2.2.2.2.2.1 s.r.2.2.2.2.2.2 K := by
  have w0 : 0 ≤ rFr s.r := frames_nonneg (d := s.r.2.2.2.2.2.2) h.r.b.c1
  have hm1 := (rPh s.r).make_le (rFr s.r)
  unfold rTake takeS
  rw [if_pos ((checkS_zero _ _).2 ⟨(rsOK_iff _ _ _ _ _ _ _).2 h.r, by omega, by omega⟩), if_neg]
  have := (rPh s.r).need_of_le_make h.r.p.ok w0 (j := K) (by omega) (by omega)
  show ¬ rFr s.r < (rPh s.r).need K
  omega
theorem fin_prod {s : St} (h : StOK s) {n : Int} (h0 : 0 ≤ n) (h1 : n ≤ 65536) : rFin s.r n = prodS s.r.1 s.r.2.1 s.r.2.2.1 s.r.2.2.2.1 s.r.2.2.2.2.1 s.r.2.2.2.2.2.1 s.r.2.2.2.2.2.2 (min n ((rPh s.r).left (rFr s.r))) := by
  unfold rFin finS
  rw [if_pos ((checkS_zero _ _).2 ⟨(rsOK_iff _ _ _ _ _ _ _).2 h.r, by omega, by omega⟩)]; rfl
theorem take_keeps {s : St} {B : Int} (h : Small s B) (hB : B ≤ 1000000) {n : Int} (he : (takeSt s n).2.2.2 = 0) : Keeps s (takeSt s n).2.2.1 B := by
  unfold takeSt at he ⊢
  split at he
  · rename_i h1
    rw [if_pos h1]
    have hs : stOK s = true ∧ s.dir = 1 := by simpa using h1
    split at he
    · simp at he
    · rename_i h2
      rw [if_neg h2]
      split at he
      · rename_i h3
        rw [if_pos h3]
        have hm0 := (rPh s.r).make_nonneg (rFr s.r)
        have htp := take_prod h.ok (K := min n ((rPh s.r).make (rFr s.r))) (by omega) (by omega)
        simp only at he ⊢
        split at he
        · rename_i h4
          rw [if_pos h4]
          rw [htp] at h4 ⊢
          have hk := taken_keeps h hB hs.2 (K := min n ((rPh s.r).make (rFr s.r))) (n := n) (miss := n - min n ((rPh s.r).make (rFr s.r))) (st := 3) (by omega) (by omega) (by omega) (by omega) (by omega) (by omega) (by omega) h4
          have hn := (next_ok h.ok.r (n := min n ((rPh s.r).make (rFr s.r))) (by omega) (by omega) h4).1
          rw [hn]
          exact hk.1
        · rename_i h4; exact absurd he h4
      · rename_i h3
        rw [if_neg h3]
        split at he
        · rename_i h5
          rw [if_pos h5]
          have hl0 := (rPh s.r).left_nonneg h.ok.r.p.ok (rFr s.r)
          have hfp := fin_prod h.ok (n := n) (by omega) (by omega)
          simp only at he ⊢
          split at he
          · rename_i h4
            rw [if_pos h4]
            rw [hfp] at h4 ⊢
            have hn := (next_ok h.ok.r (n := min n ((rPh s.r).left (rFr s.r))) (by omega) (by omega) h4).1
            have hk := taken_keeps h hB hs.2 (K := min n ((rPh s.r).left (rFr s.r))) (n := n) (miss := 0) (st := if (nextR s.r.1 s.r.2.1 s.r.2.2.1 s.r.2.2.2.1 s.r.2.2.2.2.1 s.r.2.2.2.2.2.1 s.r.2.2.2.2.2.2 (min n ((rPh s.r).left (rFr s.r)))).2.2.2.2.2.2 = [] then 6 else 5) (by omega) (by omega) (by omega) (by omega) (by omega) (by split <;> omega) (by split <;> omega) h4
            rw [hn]
            exact hk.1
          · rename_i h4; exact absurd he h4
        · rename_i h5
          rw [if_neg h5]
          exact keeps_self h
  · simp at he
theorem empty_keeps {s : St} {B : Int} (h : Small s B) {n : Int} (n0 : 1 ≤ n) (n1 : n ≤ 7) : Small (emptyS { s with state := n }) (B + 1) := by
  have c1 := h.ok.r.b.c1
  have c2 := h.ok.r.b.c2
  obtain ⟨e1, e2⟩ := newS_ok c1 c2 h.base
  have hpos := h.pos
  have p0 := h.ok.r.p.p0
  have hw := h.wr
  have hpl := h.pl
  have hms := h.ms
  unfold emptyS
  simp only [e1]
  have hcap := h.ok.c0
  refine ⟨⟨n0, n1, h.ok.c0, h.ok.c1, h.ok.b0, h.ok.b1, e2, rfl, h.ok.w0, h.ok.p0, h.ok.m0, ?_⟩, h.base, by simp only; omega, by simp only; omega, by simp only; omega, by simp only; omega⟩
  rcases h.ok.d with ⟨d1, d2, d3⟩ | ⟨d1, d2, d3, d4⟩
  · refine .inl ⟨d1, ?_, ?_⟩
    · show frames s.r.1 [] ≤ s.cap
      rw [(nil_ok c1 c2).2]; omega
    · show (if s.dir = 2 then (clearG s.g).1 else s.g) = zeroG
      rw [if_neg (by omega), d3]
  · have hg : (if s.dir = 2 then (clearG s.g).1 else s.g) = (s.g.1, s.g.2.1, s.g.2.2.1, s.g.2.2.1, []) := by
      rw [if_pos d1]; unfold clearG; rw [if_pos ((rgOK_iff _).2 d2)]
    refine .inr ⟨d1, ?_, ?_, ?_⟩
    · show RgOK (if s.dir = 2 then (clearG s.g).1 else s.g)
      rw [hg]
      have := d2.r0
      have := d2.r1
      have hn := nil_ok d2.b.c1 d2.b.c2
      refine ⟨d2.c0, d2.c1, by simp only; omega, by simp only; omega, d2.w1, hn.1, ?_, ?_⟩
      · show s.g.2.2.1 - s.g.2.2.1 = frames s.g.1 []
        rw [hn.2]; omega
      · have := d2.c0; simp only; omega
    · show (if s.dir = 2 then (clearG s.g).1 else s.g).2.1 = s.cap
      rw [hg]; exact d3
    · show (if s.dir = 2 then (clearG s.g).1 else s.g).1 = s.r.1
      rw [hg]; exact d4
theorem state_keeps {s : St} {B : Int} (h : Small s B) {n : Int} (n0 : 1 ≤ n) (n1 : n ≤ 7) : Small { s with state := n } (B + 1) := by
  obtain ⟨a, b, c, d, e, f⟩ := h
  exact ⟨⟨n0, n1, a.c0, a.c1, a.b0, a.b1, a.r, a.adj, a.w0, a.p0, a.m0, a.d⟩, b, by simp only; omega, by simp only; omega, by simp only; omega, by simp only; omega⟩
theorem newS_ch {s : St} {B : Int} (h : Small s B) : (newS s.r.1 s.r.2.1 s.r.2.2.1).1.1 = s.r.1 := by rw [(newS_ok h.ok.r.b.c1 h.ok.r.b.c2 h.base).1]
theorem do_keeps {s : St} {B : Int} (h : Small s B) {c : Int} (he : (doS s c).2 = 0) : Keeps s (doS s c).1 B := by
  have s0 := h.ok.s0
  have s1 := h.ok.s1
  unfold doS at he ⊢
  split at he
  · rename_i h1
    rw [if_pos h1]
    split at he
    · rename_i h2
      rw [if_pos h2]
      split at he
      · simp at he
      · rename_i h3
        rw [if_neg h3]
        show Keeps s (afterS s c) B
        unfold afterS
        split
        · exact ⟨state_keeps h (by omega) (by omega), rfl, rfl⟩
        split
        · exact ⟨state_keeps h (by omega) (by omega), rfl, rfl⟩
        split
        · exact ⟨state_keeps h (by omega) (by omega), rfl, rfl⟩
        split
        · exact ⟨state_keeps h (by omega) (by omega), rfl, rfl⟩
        split
        · exact ⟨empty_keeps h (by omega) (by omega), rfl, newS_ch (s := s) h⟩
        split
        · exact ⟨empty_keeps h (by omega) (by omega), rfl, newS_ch (s := s) h⟩
        · unfold rewindS
          exact ⟨empty_keeps h (by split <;> omega) (by split <;> omega), rfl, newS_ch (s := s) h⟩
    · simp at he
  · simp at he
/-- a ring behind a write -/
theorem writeG_ok {g : RgT} (h : RgOK g) {b : BkT} (hb : BkOK b.1 b.2) (hc : b.1 = g.1) (he : (writeG g b).2.2 = 0) :
    RgOK (writeG g b).1 ∧ (writeG g b).1.1 = g.1 ∧ (writeG g b).1.2.1 = g.2.1 ∧ 0 ≤ (writeG g b).2.1 ∧ (writeG g b).2.1 ≤ 65536 := by
  obtain ⟨r1, r2, r3, r4, r5, r6, r7⟩ := roomG_bd h hb
  unfold writeG at he ⊢
  rw [if_pos ⟨(rgOK_iff _).2 h, (bkOK_iff _ _).2 hb⟩, if_pos hc] at he ⊢
  split at he
  · simp at he
  · rename_i hf
    rw [if_neg hf]
    have q1 : frames b.1 b.2 ≤ 65536 := hb.l
    have e : roomG g b = min (frames b.1 b.2) (g.2.1 - (g.2.2.1 - g.2.2.2.1)) := rfl
    have hr0 := h.r0
    have hr1 := h.r1
    have hl := h.l
    have hfr := h.fr
    have hcc := h.c1
    obtain ⟨bc, bd⟩ := b
    have hc' : bc = g.1 := hc
    subst hc'
    have ht := take_ok (ch := g.1) (d := bd) hb (b := (roomG g (g.1, bd)).toNat) (by rw [Int.toNat_of_nonneg r1]; exact r3)
    have et : (roomG g (g.1, bd) * g.1).toNat = (roomG g (g.1, bd)).toNat * g.1.toNat := Int.toNat_mul r1 (by have := h.b.c1; omega)
    simp only
    rw [et]
    have ha := append_ok h.b ht.1 (by rw [ht.2, ← hfr]; omega)
    refine ⟨⟨h.c0, h.c1, h.r0, by simp only; omega, by simp only; omega, ha.1, ?_, by simp only; omega⟩, trivial, trivial, by simp only at r3 ⊢; omega, by simp only at q1 ⊢; omega⟩
    show g.2.2.1 + roomG g (g.1, bd) - g.2.2.2.1 = frames g.1 _
    rw [ha.2, ht.2, ← hfr]
    omega

theorem conv_ok {r : RsT} (h : ROK r) {b : BkT} (he : (rConv r b).2.2 = 0) : ∃ n, 0 ≤ n ∧ n ≤ 65536 ∧ (rConv r b).1 = (r.1, outS r.1 r.2.1 r.2.2.1 r.2.2.2.1 r.2.2.2.2.2.1 (r.2.2.2.2.2.2 ++ b.2) n) ∧ ROK (rConv r b).2.1 ∧ (rConv r b).2.1.1 = r.1 ∧ (rConv r b).2.1.2.1 = r.2.1 ∧ (rConv r b).2.1.2.2.1 = r.2.2.1 ∧ (rConv r b).2.1.2.2.2.1 = r.2.2.2.1 ∧ (rConv r b).2.1.2.2.2.2.1 = r.2.2.2.2.1 + (rPh r).gone n ∧ RsOK r.1 r.2.1 r.2.2.1 r.2.2.2.1 r.2.2.2.2.1 r.2.2.2.2.2.1 (r.2.2.2.2.2.2 ++ b.2) := by
  unfold rConv convS at he ⊢
  split at he
  · rename_i h1
    rw [if_pos h1]
    obtain ⟨_, h2, _⟩ := feedS_ok h1
    obtain ⟨n, hn⟩ : ∃ n, n = (ph r.2.1 r.2.2.1 r.2.2.2.1 r.2.2.2.2.2.1).make (frames r.1 (r.2.2.2.2.2.2 ++ b.2)) := ⟨_, rfl⟩
    have n0 := (ph r.2.1 r.2.2.1 r.2.2.2.1 r.2.2.2.2.2.1).make_nonneg (frames r.1 (r.2.2.2.2.2.2 ++ b.2))
    have n1 := (ph r.2.1 r.2.2.1 r.2.2.2.1 r.2.2.2.2.2.1).make_le (frames r.1 (r.2.2.2.2.2.2 ++ b.2))
    rw [← hn] at he n0 n1 ⊢
    have hx : takeS r.1 r.2.1 r.2.2.1 r.2.2.2.1 r.2.2.2.2.1 r.2.2.2.2.2.1 (r.2.2.2.2.2.2 ++ b.2) n = prodS r.1 r.2.1 r.2.2.1 r.2.2.2.1 r.2.2.2.2.1 r.2.2.2.2.2.1 (r.2.2.2.2.2.2 ++ b.2) n := by
      unfold takeS
      rw [if_pos ((checkS_zero _ _).2 ⟨(rsOK_iff _ _ _ _ _ _ _).2 h2, n0, n1⟩), if_neg]
      have := (ph r.2.1 r.2.2.1 r.2.2.2.1 r.2.2.2.2.2.1).need_of_le_make h2.p.ok (frames_nonneg (d := r.2.2.2.2.2.2 ++ b.2) h2.b.c1) (j := n) n0 (by omega)
      omega
    rw [hx] at he ⊢
    obtain ⟨e1, e2, _⟩ := next_ok (r := (r.1, r.2.1, r.2.2.1, r.2.2.2.1, r.2.2.2.2.1, r.2.2.2.2.2.1, r.2.2.2.2.2.2 ++ b.2)) h2 n0 n1 he
    have e1' : prodS r.1 r.2.1 r.2.2.1 r.2.2.2.1 r.2.2.2.2.1 r.2.2.2.2.2.1 (r.2.2.2.2.2.2 ++ b.2) n = ((r.1, outS r.1 r.2.1 r.2.2.1 r.2.2.2.1 r.2.2.2.2.2.1 (r.2.2.2.2.2.2 ++ b.2) n), nextR r.1 r.2.1 r.2.2.1 r.2.2.2.1 r.2.2.2.2.1 r.2.2.2.2.2.1 (r.2.2.2.2.2.2 ++ b.2) n, 0) := e1
    rw [e1']
    exact ⟨n, n0, n1, rfl, e2, rfl, rfl, rfl, rfl, rfl, h2⟩
  · rename_i h1; exact absurd he h1
theorem give_keeps {s : St} {B : Int} (h : Small s B) (hB : B ≤ 1000000) {b : BkT} (he : (giveS s b).2.2 = 0) : Keeps s (giveS s b).2.1 B := by
  unfold giveS at he ⊢
  split at he
  · rename_i h1
    rw [if_pos h1]
    have hs : stOK s = true ∧ s.dir = 2 := by simpa using h1.1
    have hb := (bkOK_iff _ _).1 h1.2
    split at he
    · rename_i h2
      rw [if_pos h2]
      split at he
      · rename_i h3
        rw [if_pos h3]
        split at he
        · rename_i h4
          rw [if_pos h4]
          split at he
          · rename_i h5
            rw [if_pos h5]
            obtain ⟨n, n0, n1, c1, c2, c3, c4, c5, c6, c7, c8⟩ := conv_ok h.ok.r h4
            rcases h.ok.d with ⟨e, _⟩ | ⟨d1, d2, d3, d4⟩
            · omega
            · obtain ⟨o1, o2⟩ := out_ok c8 n0 n1
              have hbk : BkOK (rConv s.r b).1.1 (rConv s.r b).1.2 := by rw [c1]; exact o1
              obtain ⟨g1, g2, g3, g4, g5⟩ := writeG_ok d2 hbk (by rw [c1]; exact d4.symm) h5
              obtain ⟨q1, q2⟩ := gone_small c8.p h.base n0 n1
              have hpos := h.pos
              have hpl := h.pl
              have hms := h.ms
              have hwr := h.wr
              have hp0 := h.ok.p0
              have hm0 := h.ok.m0
              have f0 := frames_nonneg (d := b.2) hb.c1
              have f1 : frames b.1 b.2 ≤ 65536 := hb.l
              rw [w64 (x := s.pl + frames b.1 b.2) (by omega) (by omega), w64 (x := s.ms + (writeG s.g (rConv s.r b).1).2.1) (by omega) (by omega)]
              refine ⟨⟨⟨h.ok.s0, h.ok.s1, h.ok.c0, h.ok.c1, h.ok.b0, h.ok.b1, c2, ?_, h.ok.w0, ?_, ?_, .inr ⟨d1, g1, ?_, ?_⟩⟩, ?_, ?_, ?_, ?_, ?_⟩, rfl, c3⟩
              · show (rConv s.r b).2.1.2.2.2.1 = 0
                rw [c6]; exact h.ok.adj
              · show 0 ≤ s.pl + frames b.1 b.2; omega
              · show 0 ≤ s.ms + (writeG s.g (rConv s.r b).1).2.1; omega
              · show (writeG s.g (rConv s.r b).1).1.2.1 = s.cap
                rw [g3]; exact d3
              · show (writeG s.g (rConv s.r b).1).1.1 = (rConv s.r b).2.1.1
                rw [g2, c3]; exact d4
              · show BaseOK (rConv s.r b).2.1.2.1 (rConv s.r b).2.1.2.2.1
                rw [c4, c5]; exact h.base
              · show (rConv s.r b).2.1.2.2.2.2.1 ≤ _
                rw [c7]
                have : (rPh s.r).gone n = (ph s.r.2.1 s.r.2.2.1 s.r.2.2.2.1 s.r.2.2.2.2.2.1).gone n := rfl
                omega
              · show s.wr ≤ _; omega
              · show s.pl + frames b.1 b.2 ≤ _; omega
              · show s.ms + (writeG s.g (rConv s.r b).1).2.1 ≤ _; omega
          · rename_i h5; exact absurd he h5
        · rename_i h4; exact absurd he h4
      · rename_i h3
        rw [if_neg h3]
        exact keeps_self h
    · simp at he
  · simp at he
theorem readG_ok {g : RgT} (h : RgOK g) {n : Int} (n0 : 0 ≤ n) (n1 : n ≤ g.2.2.1 - g.2.2.2.1) : RgOK (readG g n).2.2.1 ∧ (readG g n).2.2.1.1 = g.1 ∧ (readG g n).2.2.1.2.1 = g.2.1 := by
  have hc1 := h.c1
  have hl := h.l
  have hr0 := h.r0
  have hr1 := h.r1
  have hw1 := h.w1
  have hfr := h.fr
  unfold readG
  rw [if_pos ((rgOK_iff g).2 h), if_neg (by omega)]
  simp only
  rw [show min n (g.2.2.1 - g.2.2.2.1) = n by omega]
  have hd := drop_ok h.b n.toNat
  have et : (n * g.1).toNat = n.toNat * g.1.toNat := Int.toNat_mul n0 (by have := h.b.c1; omega)
  rw [et]
  refine ⟨⟨h.c0, h.c1, by simp only; omega, by simp only; omega, h.w1, hd.1, ?_, by simp only; omega⟩, trivial, trivial⟩
  show g.2.2.1 - (g.2.2.2.1 + n) = frames g.1 _
  rw [hd.2, ← hfr]
  omega
theorem read_keeps {s : St} {B : Int} (h : Small s B) (hB : B ≤ 1000000) {n : Int} (he : (readS s n).2.2 = 0) : Keeps s (readS s n).2.1 B := by
  unfold readS at he ⊢
  split at he
  · rename_i h1
    rw [if_pos h1]
    have hs : stOK s = true ∧ s.dir = 2 := by simpa using h1
    split at he
    · simp at he
    · rename_i h2
      rw [if_neg h2]
      split at he
      · simp at he
      · rename_i h3
        rw [if_neg h3]
        have hwb := waitS_bd h.ok
        have hcap := h.ok.c1
        rcases h.ok.d with ⟨e, _⟩ | ⟨d1, d2, d3, d4⟩
        · omega
        · have hw : waitS s = s.g.2.2.1 - s.g.2.2.2.1 := by
            rcases waitS_eq h.ok with ⟨e, _⟩ | ⟨_, e⟩
            · omega
            · exact e
          obtain ⟨g1, g2, g3⟩ := readG_ok d2 (n := min n (waitS s)) (by omega) (by omega)
          have hwr := h.wr
          have hw0 := h.ok.w0
          have hpos := h.pos
          have hpl := h.pl
          have hms := h.ms
          rw [w64 (x := s.wr + min n (waitS s)) (by omega) (by omega)]
          refine ⟨⟨⟨h.ok.s0, h.ok.s1, h.ok.c0, h.ok.c1, h.ok.b0, h.ok.b1, h.ok.r, h.ok.adj, ?_, h.ok.p0, h.ok.m0, .inr ⟨d1, g1, ?_, ?_⟩⟩, h.base, ?_, ?_, ?_, ?_⟩, rfl, rfl⟩
          · show 0 ≤ s.wr + min n (waitS s); omega
          · show (readG s.g (min n (waitS s))).2.2.1.2.1 = s.cap
            rw [g3]; exact d3
          · show (readG s.g (min n (waitS s))).2.2.1.1 = s.r.1
            rw [g2]; exact d4
          · show s.r.2.2.2.2.1 ≤ _; omega
          · show s.wr + min n (waitS s) ≤ _; omega
          · show s.pl ≤ _; omega
          · show s.ms ≤ _; omega
  · simp at he

/-! ### the streams that are made -/
theorem newSt_small {dir ch num den cap start : Int} (hd : dir = 1 ∨ dir = 2) (c1 : 1 ≤ ch) (c2 : ch ≤ 8) (h : BaseOK num den) (a1 : 1 ≤ cap) (a2 : cap ≤ 65536) (b0 : 0 ≤ start) (b1 : start ≤ cap) :
    ∃ s : St, newSt dir ch num den cap start = (s, 0) ∧ Small s 0 ∧ s.dir = dir ∧ s.r = (ch, num, den, 0, 0, 0, []) ∧ s.cap = cap ∧ s.start = start ∧ s.state = 1 ∧ s.wr = 0 ∧ s.pl = 0 ∧ s.ms = 0 ∧ s.g = if dir = 2 then (ch, cap, 0, 0, []) else zeroG := by
  obtain ⟨e1, e2⟩ := newS_ok c1 c2 h
  have hnil := nil_ok c1 c2
  have hg : RgOK (ch, cap, 0, 0, []) := ⟨a1, a2, by simp, by simp, by simp, hnil.1, by show (0 : Int) - 0 = frames ch []; rw [hnil.2]; rfl, by simp only; omega⟩
  have hG : (newG ch cap).1 = (ch, cap, 0, 0, []) := by unfold newG; rw [if_pos ((rgOK_iff _).2 hg)]
  have hs : StOK ⟨dir, 1, cap, start, (ch, num, den, 0, 0, 0, []), if dir = 2 then (ch, cap, 0, 0, []) else zeroG, 0, 0, 0⟩ := by
    refine ⟨by simp, by simp, a1, a2, b0, b1, e2, rfl, by simp, by simp, by simp, ?_⟩
    rcases hd with rfl | rfl
    · exact .inl ⟨rfl, by show frames ch [] ≤ cap; rw [hnil.2]; omega, rfl⟩
    · exact .inr ⟨rfl, hg, rfl, rfl⟩
  refine ⟨_, ?_, ⟨hs, h, by simp, by simp, by simp, by simp⟩, rfl, rfl, rfl, rfl, rfl, rfl, rfl, rfl, rfl⟩
  unfold newSt
  simp only [e1, hG]
  exact if_pos ((stOK_iff _).2 hs)
theorem z67 {k : Nat} (hk : Big k) {s : St} {B : Int} (h : Small s B) (hB : B ≤ 1000000) (hc : s.r.1 ≤ 2) {l : List Int} (hl : D8 l) : ∃ s' l', f67 k (l, s.t) = some (St.t s', l') ∧ D8 l' ∧ Keeps s s' B := by
  have hsh := h.ok.short
  have c1 := h.ok.r.b.c1
  obtain ⟨r1, l1, e1, h1, a1, b1, _⟩ := s51 k hl 4
  have b1 := b1 (by omega)
  unfold f67
  simp only
  rw [e1, Option.bind_some]
  simp only
  by_cases g0 : r1 = 0
  · obtain ⟨r2, l2, e2, h2, a2, b2, _⟩ := s51 k h1 40
    have b2 := b2 (by omega)
    rw [show (r1 == 0) = true by simpa using g0, cond_true, e2, Option.bind_some]
    have hwave : f55 k (1, s.t.2.2.2.2.1, 0, r2) = some (s.r.1, waveL 1 s.r.1.toNat r2.toNat) := s24 hk 1 s.r.1 r2 (by omega) a2 (by omega)
    obtain ⟨v1, v2⟩ := wave_ok 1 c1 (show s.r.1 ≤ 8 by omega) a2 (show r2 ≤ 65536 by omega)
    have vl := v1.len_le
    simp only
    rw [hwave, Option.bind_some, z57 hk s hsh _ (by simp only; omega), Option.bind_some]
    simp only [rt]
    by_cases he : (writeS s (s.r.1, waveL 1 s.r.1.toNat r2.toNat)).2 = 0
    · rw [show ((writeS s (s.r.1, waveL 1 s.r.1.toNat r2.toNat)).2 != 0) = false by simp [he], cond_false]
      exact ⟨_, l2, rfl, h2, (write_keeps h hB he).1⟩
    · rw [show ((writeS s (s.r.1, waveL 1 s.r.1.toNat r2.toNat)).2 != 0) = true by simpa using he, cond_true]
      exact ⟨s, l2, rfl, h2, keeps_self h⟩
  rw [c_ne g0, cond_false]
  by_cases g1 : r1 = 1
  · obtain ⟨r2, l2, e2, h2, a2, b2, _⟩ := s51 k h1 30
    have b2 := b2 (by omega)
    rw [show (r1 == 1) = true by simpa using g1, cond_true, e2, Option.bind_some, Option.bind_some]
    simp only
    rw [show s.t.1 = s.dir from rfl]
    by_cases hd : s.dir = 1
    · rw [show (s.dir == 1) = true by simpa using hd, cond_true, z61 hk s hsh, Option.bind_some]
      simp only [rt4]
      by_cases he : (takeSt s r2).2.2.2 = 0
      · rw [show ((takeSt s r2).2.2.2 != 0) = false by simp [he], cond_false]
        exact ⟨_, l2, rfl, h2, take_keeps h hB he⟩
      · rw [show ((takeSt s r2).2.2.2 != 0) = true by simpa using he, cond_true]
        exact ⟨s, l2, rfl, h2, keeps_self h⟩
    · rw [c_ne hd, cond_false]
      have hwave : f55 k (2, s.t.2.2.2.2.1, 0, r2) = some (s.r.1, waveL 2 s.r.1.toNat r2.toNat) := s24 hk 2 s.r.1 r2 (by omega) a2 (by omega)
      obtain ⟨v1, v2⟩ := wave_ok 2 c1 (show s.r.1 ≤ 8 by omega) a2 (show r2 ≤ 65536 by omega)
      have vl := v1.len_le
      rw [hwave, Option.bind_some, z64 hk s hsh _ (by simp only; omega), Option.bind_some]
      simp only [rt3]
      by_cases he : (giveS s (s.r.1, waveL 2 s.r.1.toNat r2.toNat)).2.2 = 0
      · rw [show ((giveS s (s.r.1, waveL 2 s.r.1.toNat r2.toNat)).2.2 != 0) = false by simp [he], cond_false]
        exact ⟨_, l2, rfl, h2, give_keeps h hB he⟩
      · rw [show ((giveS s (s.r.1, waveL 2 s.r.1.toNat r2.toNat)).2.2 != 0) = true by simpa using he, cond_true]
        exact ⟨s, l2, rfl, h2, keeps_self h⟩
  rw [c_ne g1, cond_false]
  by_cases g2 : r1 = 2
  · obtain ⟨r2, l2, e2, h2, a2, b2, _⟩ := s51 k h1 30
    have b2 := b2 (by omega)
    rw [show (r1 == 2) = true by simpa using g2, cond_true, e2, Option.bind_some]
    simp only
    rw [z59 hk s hsh, Option.bind_some]
    simp only [rt5]
    by_cases he : (readS s r2).2.2 = 0
    · rw [show ((readS s r2).2.2 != 0) = false by simp [he], cond_false]
      exact ⟨_, l2, rfl, h2, read_keeps h hB he⟩
    · rw [show ((readS s r2).2.2 != 0) = true by simpa using he, cond_true]
      exact ⟨s, l2, rfl, h2, keeps_self h⟩
  · obtain ⟨r2, l2, e2, h2, a2, b2, _⟩ := s51 k h1 8
    have b2 := b2 (by omega)
    rw [c_ne g2, cond_false, e2, Option.bind_some]
    simp only
    have d1 : decide (r2 < (([(1 : Int), (1 : Int), (2 : Int), (3 : Int), (4 : Int), (5 : Int), (6 : Int), (7 : Int)]).length : Int)) = true := by simp; omega
    simp only [a2, d1, decide_true, Bool.and_self, cond_true]
    obtain ⟨c, hc⟩ : ∃ c, c = ([(1 : Int), (1 : Int), (2 : Int), (3 : Int), (4 : Int), (5 : Int), (6 : Int), (7 : Int)]).getD r2.toNat 0 := ⟨_, rfl⟩
    rw [← hc, z60 hk s hsh, Option.bind_some]
    simp only [rt]
    by_cases he : (doS s c).2 = 0
    · rw [show ((doS s c).2 != 0) = false by simp [he], cond_false]
      exact ⟨_, l2, rfl, h2, do_keeps h he⟩
    · rw [show ((doS s c).2 != 0) = true by simpa using he, cond_true]
      exact ⟨s, l2, rfl, h2, keeps_self h⟩
/-- a stream that is made -/
theorem z14 {k : Nat} (hk : Big k) {l : List Int} (hl : D8 l) {dir : Int} (hd : dir = 1 ∨ dir = 2) : ∃ s l', f14 k (l, dir) = some (St.t s, l') ∧ D8 l' ∧ Small s 8 ∧ s.dir = dir ∧ s.r.1 ≤ 2 := by
  obtain ⟨r1, l1, e1, h1, a1, b1, _⟩ := s51 k hl 2
  have b1 := b1 (by omega)
  obtain ⟨num, den, l2, e2, h2, hb⟩ := s48 hk h1
  obtain ⟨r3, l3, e3, h3, a3, b3, _⟩ := s51 k h2 200
  have b3 := b3 (by omega)
  obtain ⟨s, n1, n2, n3, n4, n5, n6, n7, n8, n9, n10, n11⟩ := newSt_small hd (show 1 ≤ 1 + r1 by omega) (by omega) hb (show 1 ≤ 1 + r3 by omega) (show 1 + r3 ≤ 65536 by omega) (Int.le_refl 0) (by omega)
  unfold f14
  simp only
  rw [e1, Option.bind_some]
  simp only
  rw [e2, Option.bind_some]
  simp only
  rw [e3, Option.bind_some]
  simp only
  rw [w64 (x := 1 + r1) (by omega) (by omega), w64 (x := 1 + r3) (by omega) (by omega)]
  have h53 : f53 k (dir, 1 + r1, (num, den), 1 + r3, 0) = some (s.t, 0) := by rw [z53 hk, n1]; rfl
  rw [h53, Option.bind_some]
  simp only [bne_self_eq_false, cond_false]
  have hcap : s.t.2.2.1 = 1 + r3 := n5
  have hmin : ∀ (inst : Decidable ((6 : Int) < s.t.2.2.1)), (@ite Int ((6 : Int) < s.t.2.2.1) inst 6 s.t.2.2.1) = min 6 (1 + r3) := by
    intro inst
    split <;> omega
  rw [hmin, w64 (x := min 6 (1 + r3) + 1) (by omega) (by omega), hcap]
  obtain ⟨r4, l4, e4, h4, a4, b4, _⟩ := s51 k h3 (min 6 (1 + r3) + 1)
  have b4 := b4 (by omega)
  have b4' : r4 ≤ 1 + r3 := by omega
  rw [e4, Option.bind_some]
  simp only
  obtain ⟨r5, l5, e5, h5, a5, b5, _⟩ := s51 k h4 7
  have b5 := b5 (by omega)
  rw [e5, Option.bind_some]
  simp only
  have hs0 : Small { s with start := r4 } 0 := by
    obtain ⟨p, q, r, t, u, v⟩ := n2
    exact ⟨⟨p.s0, p.s1, p.c0, p.c1, a4, by show r4 ≤ s.cap; omega, p.r, p.adj, p.w0, p.p0, p.m0, p.d⟩, q, r, t, u, v⟩
  have est : ((s.t.1, s.t.2.1, 1 + r3, r4, s.t.2.2.2.2) : StT) = ({ s with start := r4 } : St).t := by rw [← n5]; rfl
  rw [est]
  refine loop_ex (L14_7 k _) (fun y => ∃ (m : Int) (z : _) (s' : St) (l : List Int), y = (m, z, s'.t, l) ∧ 0 ≤ m ∧ m ≤ 7 ∧ D8 l ∧ Small s' (8 - m) ∧ s'.dir = dir ∧ s'.r.1 ≤ 2) (fun o => ∃ s l', o = some (St.t s, l') ∧ D8 l' ∧ Small s 8 ∧ s.dir = dir ∧ s.r.1 ≤ 2) (fun y => y.1.toNat) ?_ k _ ⟨r5, _, _, _, rfl, a5, by omega, h5, hs0.mono (by omega), n3, by show s.r.1 ≤ 2; rw [n4]; simp only; omega⟩ (hk.lt (by simp only; omega))
  rintro y next ⟨m, z, s', l, rfl, m0, m1, hl', hsm, hdir, hch⟩ hnext
  simp only at hnext
  unfold L14_7
  simp only
  by_cases hm : m > 0
  · rw [show decide (m > 0) = true from decide_eq_true hm, cond_true]
    obtain ⟨s'', l'', e6, h6, h7⟩ := z67 hk hsm (by omega) hch hl'
    rw [e6, Option.bind_some, w64 (x := m - 1) (by omega) (by omega)]
    refine hnext _ ⟨m - 1, z, s'', l'', rfl, by omega, by omega, h6, ?_, by rw [h7.dir]; exact hdir, by rw [h7.ch]; exact hch⟩ (by simp only; omega)
    have := h7.small
    rw [show 8 - m + 1 = 8 - (m - 1) by omega] at this
    exact this
  · rw [show decide (m > 0) = false from decide_eq_false hm, cond_false]
    exact ⟨s', l, rfl, hl', hsm.mono (by omega), hdir, hch⟩
theorem z45 {k : Nat} (hk : Big k) {l : List Int} (hl : D8 l) : ∃ s l', f45 k l = some (St.t s, l') ∧ D8 l' ∧ Small s 8 ∧ s.r.1 ≤ 2 ∧ (s.dir = 1 ∨ s.dir = 2) := by
  obtain ⟨r1, l1, e1, h1, a1, b1, _⟩ := s51 k hl 2
  have b1 := b1 (by omega)
  have hd : 1 + r1 = 1 ∨ 1 + r1 = 2 := by omega
  obtain ⟨s, l', e2, h2, h3, h4, h5⟩ := z14 hk h1 hd
  unfold f45
  rw [e1, Option.bind_some]
  simp only
  rw [w64 (x := 1 + r1) (by omega) (by omega), e2, Option.bind_some]
  exact ⟨s, l', rfl, h2, h3, h5, by rw [h4]; exact hd⟩
end Go.Proofs.YtbfkfobfhjgphaaGreat.Sp
