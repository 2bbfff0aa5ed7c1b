import Derived.Test.YtbfkfobfhjgphaaSpAll
import Derived.Test.YtbfkfobfhjgphaaFnDS
/- Cutting a block into pieces. -/
set_option linter.unusedVariables false
set_option linter.unusedSimpArgs false
namespace Go.Proofs.Ytbfkfobfhjgphaa.Sp
open Go Go.Pev Go.Snd Go.Proofs.Ytbfkfobfhjgphaa.Fn

theorem s97 (k : Nat) {ch : Int} {d : List Int} (h : BkOK ch d) (a b : Nat) (hab : a ≤ b) (hb : (b : Int) ≤ frames ch d) : f97 k ((ch, d), (a : Int), (b : Int)) = some (ch, (d.take (b * ch.toNat)).drop (a * ch.toNat)) := by
  have hl := h.len_le
  have hn := lenN h
  have c1 := h.c1
  obtain ⟨c, rfl⟩ : ∃ c : Nat, ch = c := ⟨ch.toNat, by omega⟩
  rw [Int.toNat_natCast] at hn ⊢
  have m1 : a * c ≤ b * c := Nat.mul_le_mul_right _ hab
  have m2 : b * c ≤ (frames c d).toNat * c := Nat.mul_le_mul_right _ (by omega)
  have e1 : IntKind.wrap .i64 ((a : Int) * (c : Int)) = ((a * c : Nat) : Int) := by rw [← Int.natCast_mul]; exact w64 (by omega) (by omega)
  have e2 : IntKind.wrap .i64 ((b : Int) * (c : Int)) = ((b * c : Nat) : Int) := by rw [← Int.natCast_mul]; exact w64 (by omega) (by omega)
  unfold f97
  have d1 : decide ((0 : Int) ≤ ((a * c : Nat) : Int)) = true := by simp only [decide_eq_true_eq]; omega
  have d2 : decide (((a * c : Nat) : Int) ≤ ((b * c : Nat) : Int)) = true := by simp only [decide_eq_true_eq]; omega
  have d3 : decide (((b * c : Nat) : Int) ≤ (d.length : Int)) = true := by simp only [decide_eq_true_eq]; omega
  simp only [e1, e2, d1, d2, d3, Int.le_refl, decide_true, Bool.and_self, cond_true, Int.toNat_natCast]
  rw [maxB (by simp; omega), cond_true]
structure Pieces (ch : Int) (d : List Int) (ps : List BkT) : Prop where
  all : ∀ p ∈ ps, p.1 = ch ∧ BkOK ch p.2
  flat : (ps.map (·.2)).flatten = d
  ne : ps ≠ []
theorem s41 {k : Nat} (hk : Big k) {ch : Int} {d : List Int} (h : BkOK ch d) (at_ : List Int) (hat : ∀ x ∈ at_, 0 ≤ x ∧ x ≤ 255) (hl : at_.length ≤ 1000) : ∃ ps, f41 k ((ch, d), at_) = some ps ∧ Pieces ch d ps ∧ ps.length ≤ 1001 := by
  have c1 := h.c1
  have w0 := frames_nonneg (d := d) c1
  have w1 : frames ch d ≤ 65536 := h.l
  have hn := lenN h
  have hdl := h.len_le
  unfold f41
  rw [s47' hk h, Option.bind_some]
  refine loop_ex (L41_4 k _) (fun y => ∃ (a : Nat) (i : Nat) (o : List BkT), y = ((a : Int), frames ch d, at_, (at_.length : Int), (i : Int), (ch, d), o) ∧ (a : Int) ≤ frames ch d ∧ i ≤ at_.length ∧ o.length ≤ i ∧ (∀ p ∈ o, p.1 = ch ∧ BkOK ch p.2) ∧ (o.map (·.2)).flatten = d.take (a * ch.toNat))
    (fun r => ∃ ps, r = some ps ∧ Pieces ch d ps ∧ ps.length ≤ 1001) (fun y => (at_.length - y.2.2.2.2.1).toNat) ?_ k _ ⟨0, 0, [], rfl, by simpa using w0, by omega, by simp, by simp, by simp⟩ (hk.lt (by simp; omega))
  rintro y next ⟨a, i, o, rfl, ha, hi, hol, hall, hflat⟩ hnext
  simp only at hnext
  unfold L41_4
  simp only
  by_cases hlt : i < at_.length
  · have d1 : decide ((i : Int) < (at_.length : Int)) = true := by simp; omega
    have d2 : decide ((0 : Int) ≤ (i : Int)) = true := by simp
    have hx := hat _ (getD_mem hlt)
    simp only [d1, d2, Bool.and_self, cond_true, Int.toNat_natCast]
    obtain ⟨x, hxe⟩ : ∃ x, at_.getD i 0 = x := ⟨_, rfl⟩
    rw [hxe] at hx
    simp only [hxe]
    have e1 : IntKind.wrap .i64 x = x := w64 (by omega) (by omega)
    have e2 : Int.tmod x 8 = x % 8 := tmod_pos hx.1
    have b1 : 0 ≤ x % 8 := by omega
    have b2 : x % 8 < 8 := by omega
    have e3 : IntKind.wrap .i64 ((a : Int) + x % 8) = ((a + (x % 8).toNat : Nat) : Int) := by rw [w64 (by omega) (by omega)]; omega
    have hw : IntKind.wrap .i64 ((i : Int) + 1) = ((i + 1 : Nat) : Int) := by rw [w64 (by omega) (by omega)]; omega
    simp only [e1, e2, e3, hw]
    by_cases hto : ((a + (x % 8).toNat : Nat) : Int) ≤ frames ch d
    · simp only [hto, decide_true, cond_true]
      obtain ⟨t1, t2⟩ := take_ok h hto
      have hc := (drop_ok t1 a).1
      rw [s97 k h a (a + (x % 8).toNat) (by omega) hto, Option.bind_some]
      rw [maxB32 (by simp; omega), cond_true]
      refine hnext _ ⟨a + (x % 8).toNat, i + 1, _, rfl, hto, by omega, by simp; omega, fun p hp => ?_, ?_⟩ (by simp only; omega)
      · rcases List.mem_append.1 hp with hp | hp
        · exact hall p hp
        · rw [List.mem_singleton.1 hp]; exact ⟨rfl, hc⟩
      · rw [List.map_append, List.flatten_append, hflat]
        simp only [List.map_cons, List.map_nil, List.flatten_cons, List.flatten_nil, List.append_nil]
        have : d.take (a * ch.toNat) = (d.take ((a + (x % 8).toNat) * ch.toNat)).take (a * ch.toNat) := by
          rw [List.take_take, Nat.min_eq_left (Nat.mul_le_mul_right _ (by omega))]
        rw [this, List.take_append_drop]
    · simp only [hto, decide_false, cond_false]
      exact hnext _ ⟨a, i + 1, o, rfl, ha, by omega, by omega, hall, hflat⟩ (by simp only; omega)
  · have d1 : decide ((i : Int) < (at_.length : Int)) = false := by simp; omega
    simp only [d1, cond_false]
    obtain ⟨nN, hnN⟩ : ∃ n : Nat, frames ch d = n := ⟨(frames ch d).toNat, by omega⟩
    rw [hnN, s97 k h a nN (by omega) (by omega), Option.bind_some]
    have htk : d.take (nN * ch.toNat) = d := by
      refine List.take_of_length_le ?_
      rw [hn, hnN, Int.toNat_natCast]
      exact Nat.le_refl _
    simp only [htk]
    rw [maxB32 (by simp; omega), cond_true]
    refine ⟨_, rfl, ⟨fun p hp => ?_, ?_, by simp⟩, by simp; omega⟩
    · rcases List.mem_append.1 hp with hp | hp
      · exact hall p hp
      · rw [List.mem_singleton.1 hp]; exact ⟨rfl, (drop_ok h a).1⟩
    · rw [List.map_append, List.flatten_append, hflat]
      simp only [List.map_cons, List.map_nil, List.flatten_cons, List.flatten_nil, List.append_nil, List.take_append_drop]

end Go.Proofs.Ytbfkfobfhjgphaa.Sp

/- What the program's rings and streams do, in plain words: writing to a ring, giving to a stream. -/
set_option linter.unusedVariables false
set_option linter.unusedSimpArgs false
namespace Go.Proofs.Ytbfkfobfhjgphaa.Sp
open Go Go.Pev Go.Snd Go.Proofs.Ytbfkfobfhjgphaa.Fn

/-- how many frames of a block a ring takes -/
def roomG (g : RgT) (b : BkT) : Int := min (frames b.1 b.2) (g.2.1 - (g.2.2.1 - g.2.2.2.1))
def writeG (g : RgT) (b : BkT) : RgT × Int × Int :=
  if rgOK g = true ∧ bkOK b.1 b.2 = true then
    if b.1 = g.1 then
      if 1125899906842624 < g.2.2.1 + roomG g b then (zeroG, 0, 2)
      else ((g.1, g.2.1, g.2.2.1 + roomG g b, g.2.2.2.1, g.2.2.2.2 ++ b.2.take (roomG g b * b.1).toNat), frames b.1 b.2 - roomG g b, 0)
    else (zeroG, 0, 11)
  else (zeroG, 0, 1)
theorem roomG_bd {g : RgT} (h : RgOK g) {b : BkT} (hb : BkOK b.1 b.2) : 0 ≤ roomG g b ∧ roomG g b ≤ 65536 ∧ roomG g b ≤ frames b.1 b.2 ∧ g.2.2.1 + roomG g b ≤ 1125899906908160 ∧ 0 ≤ roomG g b * b.1 ∧ roomG g b * b.1 ≤ 524288 ∧ roomG g b * b.1 ≤ (b.2.length : Int) := by
  have q0 := frames_nonneg (d := b.2) hb.c1
  have q1 : frames b.1 b.2 ≤ 65536 := hb.l
  have h1 := h.l
  have h2 := h.w1
  have h3 := h.c1
  have e : roomG g b = min (frames b.1 b.2) (g.2.1 - (g.2.2.1 - g.2.2.2.1)) := rfl
  obtain ⟨m1, m2⟩ := mul_bd (show 0 ≤ roomG g b by omega) (show roomG g b ≤ 65536 by omega) (show 0 ≤ b.1 by have := hb.c1; omega) hb.c2
  obtain ⟨m3, m4⟩ := mul_bd (show 0 ≤ roomG g b by omega) (show roomG g b ≤ frames b.1 b.2 by omega) (show 0 ≤ b.1 by have := hb.c1; omega) (Int.le_refl b.1)
  have := hb.len
  exact ⟨by omega, by omega, by omega, by omega, by omega, by omega, by omega⟩
theorem s82' {k : Nat} (hk : Big k) (a b : List Int) (ha : a.length ≤ 100000000000) (hb : b.length ≤ 100000000000) : f82 k [a, b] = some (a ++ b) := s82 hk a b ha hb
theorem s130 {k : Nat} (hk : Big k) (g : RgT) (b : BkT) (hg : g.2.2.2.2.length ≤ 10000000000) (hb : b.2.length ≤ 10000000000) : f130 k (g, b) = some (writeG g b) := by
  obtain ⟨ch, cap, wr, rd, d⟩ := g
  obtain ⟨bc, bd⟩ := b
  simp only at hg hb
  unfold f130 writeG
  simp only [s154 hk (ch, cap, wr, rd, d) (show d.length ≤ 1000000000000 by omega), Option.bind_some]
  cases hgo : rgOK (ch, cap, wr, rd, d) with
  | false => simp [zeroG]
  | true =>
    have h := (rgOK_iff _).1 hgo
    simp only [s81 hk bc bd (by omega), Option.bind_some, Bool.not_true, cond_false]
    cases hbk : bkOK bc bd with
    | false => simp [zeroG]
    | true =>
      have hB := (bkOK_iff _ _).1 hbk
      simp only [Bool.not_true, cond_false, and_self, if_true]
      by_cases hc : bc = ch
      · subst hc
        simp only [bne_self_eq_false, cond_false, ch_ne hB.c1, if_true]
        obtain ⟨r1, r2, r3, r4, r5, r6, r7⟩ := roomG_bd h (b := (bc, bd)) hB
        have q0 := frames_nonneg (d := bd) hB.c1
        have q1 : frames bc bd ≤ 65536 := hB.l
        have hr0 := h.r0
        have hr1 := h.r1
        have hw1 := h.w1
        have hcc := h.c1
        have hl := h.l
        simp only at r3 r4 r5 r6 r7 hr0 hr1 hw1 hcc hl
        rw [s129 hk (bc, cap, wr, rd, d) (show d.length ≤ 1000000000000 by omega), Option.bind_some]
        have hfill : fillG (bc, cap, wr, rd, d) = wr - rd := by unfold fillG; rw [if_pos hgo]
        rw [hfill, w_frames hB, w64 (x := cap - (wr - rd)) (by omega) (by omega)]
        have hmin : (if cap - (wr - rd) < frames bc bd then cap - (wr - rd) else frames bc bd) = roomG (bc, cap, wr, rd, d) (bc, bd) := by
          unfold roomG; simp only; split <;> omega
        rw [hmin]
        obtain ⟨n, hn⟩ : ∃ n, n = roomG (bc, cap, wr, rd, d) (bc, bd) := ⟨_, rfl⟩
        rw [← hn] at r1 r2 r3 r4 r5 r6 r7 ⊢
        rw [w64 (x := wr + n) (by omega) (by omega), w64 (x := n * bc) (by omega) (by omega), w64 (x := frames bc bd - n) (by omega) (by omega)]
        by_cases hfar : 1125899906842624 < wr + n
        · rw [show decide (wr + n > 1125899906842624) = true from decide_eq_true hfar, cond_true, if_pos hfar]; rfl
        · rw [show decide (wr + n > 1125899906842624) = false from decide_eq_false hfar, cond_false, if_neg hfar]
          have z1 : decide ((0 : Int) ≤ 0) = true := rfl
          have z2 : decide (0 ≤ n * bc) = true := decide_eq_true r5
          have z3 : decide (n * bc ≤ n * bc) = true := decide_eq_true (Int.le_refl _)
          have z4 : decide (n * bc ≤ (bd.length : Int)) = true := decide_eq_true r7
          simp only [z1, z2, z3, z4, Bool.and_self, cond_true]
          rw [show Int.toNat 0 = 0 from rfl, List.drop_zero, s82 hk _ _ (by omega) (by rw [List.length_take]; omega), Option.bind_some]
      · have e1 : (bc != ch) = true := by simpa using hc
        simp only [e1, cond_true, if_neg hc]
        rfl

/-! ### giving -/
noncomputable def giveS (s : St) (b : BkT) : Int × St × Int :=
  if (stOK s && (s.dir == 2)) = true ∧ bkOK b.1 b.2 = true then
    if b.1 = s.r.1 then
      if s.state = 3 then
        if (rConv s.r b).2.2 = 0 then
          if (writeG s.g (rConv s.r b).1).2.2 = 0 then
            ((writeG s.g (rConv s.r b).1).2.1, ⟨s.dir, s.state, s.cap, s.start, (rConv s.r b).2.1, (writeG s.g (rConv s.r b).1).1, s.wr, IntKind.wrap .i64 (s.pl + frames b.1 b.2), IntKind.wrap .i64 (s.ms + (writeG s.g (rConv s.r b).1).2.1)⟩, 0)
          else (0, zeroSt, (writeG s.g (rConv s.r b).1).2.2)
        else (0, zeroSt, (rConv s.r b).2.2)
      else (0, s, 0)
    else (0, zeroSt, 11)
  else (0, zeroSt, 1)
def rt3 (p : Int × St × Int) : Int × StT × Int := (p.1, p.2.1.t, p.2.2)
theorem rConv_len (r : RsT) (b : BkT) : (rConv r b).1.2.length ≤ 1000000 := (convS_len r.1 r.2.1 r.2.2.1 r.2.2.2.1 r.2.2.2.2.1 r.2.2.2.2.2.1 r.2.2.2.2.2.2 b.1 b.2).1
theorem s78 {k : Nat} (hk : Big k) (s : St) (hd : Short s) (b : BkT) (hb : b.2.length ≤ 10000000000) : f78 k (s.t, b) = some (rt3 (giveS s b)) := by
  have hd1 := hd.1
  have hd2 := hd.2
  unfold f78 giveS
  simp only [s122 hk s hd, Option.bind_some]
  cases hs : stOK s && (s.dir == 2) with
  | false => simp only [Bool.not_false, cond_true, Bool.false_eq_true, false_and, if_false]; rfl
  | true =>
    obtain ⟨bc, bd⟩ := b
    simp only at hb
    simp only [s81 hk bc bd (by omega), Option.bind_some, Bool.not_true, cond_false]
    cases hbk : bkOK bc bd with
    | false => simp only [Bool.not_false, cond_true, Bool.false_eq_true, and_false, if_false]; rfl
    | true =>
      have h := (bkOK_iff _ _).1 hbk
      simp only [Bool.not_true, cond_false, and_self, if_true]
      by_cases hc : bc = s.r.1
      · have e1 : (bc != s.t.2.2.2.2.1) = false := by simp [St.t, hc]
        rw [e1, cond_false, if_pos hc]
        by_cases h3 : s.state = 3
        · have e2 : (s.t.2.1 != 3) = false := by simp [St.t, h3]
          rw [e2, cond_false, if_pos h3]
          have e3 : f39 k ((s.t.2.2.2.2.1, s.t.2.2.2.2.2.1, s.t.2.2.2.2.2.2.1, s.t.2.2.2.2.2.2.2.1, s.t.2.2.2.2.2.2.2.2.1, s.t.2.2.2.2.2.2.2.2.2.1, s.t.2.2.2.2.2.2.2.2.2.2.1), bc, bd) = some (rConv s.r (bc, bd)) := s39 hk _ _ _ _ _ _ _ _ _ (show s.r.2.2.2.2.2.2.length ≤ 100000000000 by omega) (by omega)
          rw [e3, Option.bind_some]
          by_cases h4 : (rConv s.r (bc, bd)).2.2 = 0
          · have e4 : ((rConv s.r (bc, bd)).2.2 != 0) = false := by simp [h4]
            have hrl := rConv_len s.r (bc, bd)
            have e5 : f130 k ((s.t.2.2.2.2.2.2.2.2.2.2.2.1, s.t.2.2.2.2.2.2.2.2.2.2.2.2.1, s.t.2.2.2.2.2.2.2.2.2.2.2.2.2.1, s.t.2.2.2.2.2.2.2.2.2.2.2.2.2.2.1, s.t.2.2.2.2.2.2.2.2.2.2.2.2.2.2.2.1), (rConv s.r (bc, bd)).1) = some (writeG s.g (rConv s.r (bc, bd)).1) := s130 hk s.g _ hd2 (by omega)
            rw [e4, cond_false, if_pos h4, e5, Option.bind_some]
            by_cases h5 : (writeG s.g (rConv s.r (bc, bd)).1).2.2 = 0
            · have e6 : ((writeG s.g (rConv s.r (bc, bd)).1).2.2 != 0) = false := by simp [h5]
              rw [e6, cond_false, if_pos h5, ch_ne h.c1, cond_false, w_frames h]; rfl
            · have e6 : ((writeG s.g (rConv s.r (bc, bd)).1).2.2 != 0) = true := by simpa using h5
              rw [e6, cond_true, if_neg h5]; rfl
          · have e4 : ((rConv s.r (bc, bd)).2.2 != 0) = true := by simpa using h4
            rw [e4, cond_true, if_neg h4]; rfl
        · have e2 : (s.t.2.1 != 3) = true := by simpa [St.t] using h3
          rw [e2, cond_true, if_neg h3, s125 k s hd]; rfl
      · have e1 : (bc != s.t.2.2.2.2.1) = true := by simpa [St.t] using hc
        rw [e1, cond_true, if_neg hc]; rfl

/-! ### reading -/
/-- reading a ring -/
def readG (g : RgT) (n : Int) : BkT × Int × RgT × Int :=
  if rgOK g = true then
    if n < 0 ∨ 65536 < n then (zeroB, 0, zeroG, 2)
    else
      let k := min n (g.2.2.1 - g.2.2.2.1)
      ((g.1, g.2.2.2.2.take (k * g.1).toNat ++ List.replicate ((n - k) * g.1).toNat 0), n - k, (g.1, g.2.1, g.2.2.1, g.2.2.2.1 + k, g.2.2.2.2.drop (k * g.1).toNat), 0)
  else (zeroB, 0, zeroG, 1)
theorem rd_row {d : List Int} {m t : Int} (m0 : 0 ≤ m) (hm : m ≤ (d.length : Int)) (hmt : m ≤ t) : List.take t.toNat (d.take m.toNat) ++ List.replicate (t.toNat - (d.take m.toNat).length) (0 : Int) = d.take m.toNat ++ List.replicate (t - m).toNat 0 := by
  have hl : (d.take m.toNat).length = m.toNat := by rw [List.length_take]; omega
  rw [List.take_of_length_le (by omega), hl, show t.toNat - m.toNat = (t - m).toNat by omega]
theorem s131 {k : Nat} (hk : Big k) (g : RgT) (n : Int) (hg : g.2.2.2.2.length ≤ 10000000000) : f131 k (g, n) = some (readG g n) := by
  obtain ⟨ch, cap, wr, rd, d⟩ := g
  simp only at hg
  unfold f131 readG
  simp only [s154 hk (ch, cap, wr, rd, d) (show d.length ≤ 1000000000000 by omega), Option.bind_some]
  cases hgo : rgOK (ch, cap, wr, rd, d) with
  | false => simp [zeroG, zeroB]
  | true =>
    have h := (rgOK_iff _).1 hgo
    simp only [Bool.not_true, cond_false, if_true]
    by_cases h1 : n < 0
    · simp [h1, zeroB, zeroG]
    by_cases h2 : 65536 < n
    · simp [h1, h2, zeroB, zeroG]
    have hr0 := h.r0
    have hr1 := h.r1
    have hw1 := h.w1
    have hcc := h.c1
    have hl := h.l
    have hfr := h.fr
    have hb := h.b
    simp only at hr0 hr1 hw1 hcc hl hfr hb
    have hlen := hb.len
    rw [← hfr] at hlen
    have c1 := hb.c1
    have c2 := hb.c2
    simp only [h1, h2, show ¬ n > 65536 by omega, decide_false, cond_false, or_self, if_false]
    rw [s129 hk (ch, cap, wr, rd, d) (show d.length ≤ 1000000000000 by omega), Option.bind_some]
    have hfill : fillG (ch, cap, wr, rd, d) = wr - rd := by unfold fillG; rw [if_pos hgo]
    rw [hfill]
    have hmin : (if wr - rd < n then wr - rd else n) = min n (wr - rd) := by split <;> omega
    rw [hmin]
    obtain ⟨m, hm⟩ : ∃ m, m = min n (wr - rd) := ⟨_, rfl⟩
    rw [← hm]
    obtain ⟨m1, m2⟩ := mul_bd (show 0 ≤ m by omega) (show m ≤ 65536 by omega) (show 0 ≤ ch by omega) c2
    obtain ⟨m3, m4⟩ := mul_bd (show 0 ≤ m by omega) (show m ≤ wr - rd by omega) (show 0 ≤ ch by omega) (Int.le_refl ch)
    obtain ⟨m5, m6⟩ := mul_bd (show 0 ≤ n - m by omega) (show n - m ≤ 65536 by omega) (show 0 ≤ ch by omega) c2
    obtain ⟨m7, m8⟩ := mul_bd (show 0 ≤ n by omega) (show n ≤ 65536 by omega) (show 0 ≤ ch by omega) c2
    have hsub : (n - m) * ch = n * ch - m * ch := Int.sub_mul _ _ _
    rw [w64 (x := n - m) (by omega) (by omega), w64 (x := m * ch) (by omega) (by omega), w64 (x := n * ch) (by omega) (by omega), w64 (x := rd + m) (by omega) (by omega)]
    have z1 : decide ((0 : Int) ≤ 0) = true := rfl
    have z2 : decide (0 ≤ m * ch) = true := decide_eq_true m1
    have z3 : decide (m * ch ≤ m * ch) = true := decide_eq_true (Int.le_refl _)
    have z4 : decide (m * ch ≤ (d.length : Int)) = true := decide_eq_true (by omega)
    have z5 : decide (0 ≤ n * ch) = true := decide_eq_true m7
    have z6 : decide (n * ch ≤ n * ch) = true := decide_eq_true (Int.le_refl _)
    have z7 : decide ((d.length : Int) ≤ (d.length : Int)) = true := decide_eq_true (Int.le_refl _)
    have z8 : decide (n * ch * ((4 : Nat) : Int) ≤ (maxBytes : Int)) = true := decide_eq_true (by unfold maxBytes; omega)
    simp only [z1, z2, z3, z4, z5, z6, z7, z8, Bool.and_self, cond_true, show Int.toNat 0 = 0 from rfl, List.drop_zero, Int.toNat_natCast, List.take_length]
    rw [s143 k _ (by rw [List.length_drop]; omega), Option.bind_some, rd_row m1 (by omega) (by omega), hsub]
def readS (s : St) (n : Int) : BkT × St × Int :=
  if (stOK s && (s.dir == 2)) = true then
    if n < 0 ∨ 65536 < n then (zeroB, zeroSt, 2)
    else if s.state = 7 then (zeroB, zeroSt, 9)
    else
      ((readG s.g (min n (waitS s))).1, ⟨s.dir, s.state, s.cap, s.start, s.r, (readG s.g (min n (waitS s))).2.2.1, IntKind.wrap .i64 (s.wr + min n (waitS s)), s.pl, s.ms⟩, 0)
  else (zeroB, zeroSt, 1)
def rt5 (p : BkT × St × Int) : BkT × StT × Int := (p.1, p.2.1.t, p.2.2)
theorem s79 {k : Nat} (hk : Big k) (s : St) (hd : Short s) (n : Int) : f79 k (s.t, n) = some (rt5 (readS s n)) := by
  have hd2 := hd.2
  unfold f79 readS
  simp only [s122 hk s hd, Option.bind_some]
  cases hs : stOK s && (s.dir == 2) with
  | false => simp only [Bool.not_false, cond_true, Bool.false_eq_true, if_false]; rfl
  | true =>
    simp only [Bool.not_true, cond_false, if_true, s127, Option.bind_some]
    by_cases h1 : n < 0
    · simp only [h1, decide_true, Bool.true_or, cond_true, true_or, if_true]; rfl
    by_cases h2 : 65536 < n
    · simp only [h1, h2, decide_true, decide_false, Bool.false_or, cond_true, or_true, if_true]; rfl
    simp only [h1, h2, decide_false, Bool.or_self, cond_false, or_self, if_false]
    by_cases h7 : s.state = 7
    · have e : (s.t.2.1 == 7) = true := by simpa [St.t] using h7
      rw [e, cond_true, if_pos h7]; rfl
    · have e : (s.t.2.1 == 7) = false := by simpa [St.t] using h7
      rw [e, cond_false, if_neg h7, s77 hk s hd, Option.bind_some]
      have hmin : (if waitS s < n then waitS s else n) = min n (waitS s) := by split <;> omega
      rw [hmin]
      have e5 : f131 k ((s.t.2.2.2.2.2.2.2.2.2.2.2.1, s.t.2.2.2.2.2.2.2.2.2.2.2.2.1, s.t.2.2.2.2.2.2.2.2.2.2.2.2.2.1, s.t.2.2.2.2.2.2.2.2.2.2.2.2.2.2.1, s.t.2.2.2.2.2.2.2.2.2.2.2.2.2.2.2.1), min n (waitS s)) = some (readG s.g (min n (waitS s))) := s131 hk s.g _ hd2
      rw [e5, Option.bind_some, s125 k s hd, Option.bind_some]; rfl
end Go.Proofs.Ytbfkfobfhjgphaa.Sp

/- The law StreamGives, in plain words. -/
set_option linter.unusedVariables false
set_option linter.unusedSimpArgs false
namespace Go.Proofs.Ytbfkfobfhjgphaa.Sp
open Go Go.Pev Go.Snd Go.Proofs.Ytbfkfobfhjgphaa.Fn

/-- a capture stream that was given X, of which n frames were made and R were read -/
noncomputable def rdS (num den : Int) (X : List Int) (n R : Int) : St := ⟨2, 3, 1000, 0, nextR 2 num den 0 0 0 X n, (2, 1000, n, R, (outS 2 num den 0 0 X n).drop (R.toNat * 2)), R, frames 2 X, 0⟩
theorem rdS_ok {num den : Int} (hb : BaseOK num den) {X : List Int} (hX : BkOK 2 X) (hl : frames 2 X ≤ 39) {n R : Int} (r0 : 0 ≤ R) (r1 : R ≤ n) (n1 : n ≤ 1000) (hneed : (ph num den 0 0).need n ≤ frames 2 X) : StOK (rdS num den X n R) := by
  have hr0 := (newS_ok (ch := 2) (by omega) (by omega) hb).2
  have hr : RsOK 2 num den 0 0 0 X := ⟨hr0.p, hX⟩
  have hm := (ph num den 0 0).le_make hr0.p.ok (j := n) (show n ≤ 65536 by omega) hneed
  obtain ⟨t1, t2, t3, t4, t5⟩ := takeS_ok hr (by omega) (n := n) (by omega) hm
  obtain ⟨o1, o2⟩ := out_ok hr (show 0 ≤ n by omega) (by omega)
  have hd := drop_ok o1 R.toNat
  have f0 := frames_nonneg (d := X) hX.c1
  have e2 : R.toNat * (2 : Int).toNat = R.toNat * 2 := rfl
  rw [e2, o2] at hd
  refine ⟨by simp [rdS], by simp [rdS], by simp [rdS], by simp [rdS], by simp [rdS], by simp [rdS], t2, rfl, r0, f0, by simp [rdS], .inr ⟨rfl, ⟨by simp [rdS], by simp [rdS], r0, r1, by show n ≤ 1125899906842624; omega, hd.1, ?_, ?_⟩, rfl, rfl⟩⟩
  · show n - R = frames 2 ((outS 2 num den 0 0 X n).drop (R.toNat * 2))
    rw [hd.2]
    omega
  · show n - R ≤ 1000
    omega
theorem rdS_wait {num den : Int} {X : List Int} {n R : Int} (h : StOK (rdS num den X n R)) : waitS (rdS num den X n R) = n - R := by
  rcases waitS_eq h with ⟨e, _⟩ | ⟨_, e⟩
  · have e : (2 : Int) = 1 := e
    omega
  · exact e
theorem rd_is {s : St} (h : StOK s) (hd : s.dir = 2) : (stOK s && (s.dir == 2)) = true := by rw [(stOK_iff _).2 h, hd]; rfl
/-- giving to a started stream -/
theorem give_ok {num den : Int} (hb : BaseOK num den) (hden : den ≤ 20 * num) {X x : List Int} (hX : BkOK 2 X) (hx : BkOK 2 x) (hl : frames 2 X + frames 2 x ≤ 39) {n : Int} (n0 : 0 ≤ n) (n1 : n ≤ 1000) (hneed : (ph num den 0 0).need n ≤ frames 2 X) :
    giveS (rdS num den X n 0) (2, x) = (0, rdS num den (X ++ x) ((ph num den 0 0).make (frames 2 (X ++ x))) 0, 0) ∧ BkOK 2 (X ++ x) ∧ frames 2 (X ++ x) = frames 2 X + frames 2 x ∧ 0 ≤ (ph num den 0 0).make (frames 2 (X ++ x)) ∧ (ph num den 0 0).make (frames 2 (X ++ x)) ≤ 900 ∧ (ph num den 0 0).need ((ph num den 0 0).make (frames 2 (X ++ x))) ≤ frames 2 (X ++ x) := by
  have hr0 := (newS_ok (ch := 2) (by omega) (by omega) hb).2
  have hr : RsOK 2 num den 0 0 0 X := ⟨hr0.p, hX⟩
  have f0 := frames_nonneg (d := X) hX.c1
  have f1 := frames_nonneg (d := x) hX.c1
  obtain ⟨a1, a2⟩ := append_ok hX hx (by omega)
  have hmk := make_small hr0.p (w := frames 2 X + frames 2 x) (by omega) (show _ ≤ (39 : Int) by omega) (show (0 : Int) ≤ 20 by omega) (by omega)
  have hm0 := (ph num den 0 0).make_nonneg (frames 2 X + frames 2 x)
  obtain ⟨O, g1, g2, g3⟩ := conv_more hr hx (by omega) n0 (by omega) hneed (by omega) (by omega)
  have hnd := (ph num den 0 0).need_make (w := frames 2 X + frames 2 x) (by omega)
  rw [a2]
  obtain ⟨m, hm⟩ : ∃ m, m = (ph num den 0 0).make (frames 2 X + frames 2 x) := ⟨_, rfl⟩
  rw [← hm] at hmk hm0 g1 g2 g3 hnd ⊢
  refine ⟨?_, a1, rfl, hm0, by omega, hnd⟩
  have hst := rdS_ok hb hX (by omega) (R := 0) (by omega) n0 n1 hneed
  have hl1 := outS_len hr n0
  obtain ⟨o1, o2⟩ := out_ok (n := m) ⟨hr0.p, a1⟩ hm0 (by omega)
  have hO : O = (outS 2 num den 0 0 (X ++ x) m).drop (n.toNat * 2) := by
    rw [← g2, List.drop_append_of_le_length (by omega), List.drop_of_length_le (by omega), List.nil_append]
  obtain ⟨o3, o4⟩ := drop_ok o1 n.toNat
  rw [show n.toNat * (2 : Int).toNat = n.toNat * 2 from rfl, ← hO] at o3 o4
  rw [o2] at o4
  have o5 : frames 2 O = m - n := by omega
  have o6 := o3.len
  rw [o5] at o6
  have hconv : rConv (rdS num den X n 0).r (2, x) = ((2, O), nextR 2 num den 0 0 0 (X ++ x) m, 0) := g1
  have hg : (rdS num den X n 0).g = (2, 1000, n, 0, outS 2 num den 0 0 X n) := rfl
  have hroom : roomG (2, 1000, n, 0, outS 2 num den 0 0 X n) (2, O) = m - n := by
    show min (frames 2 O) (1000 - (n - 0)) = _
    omega
  have hgo : RgOK (2, 1000, n, 0, outS 2 num den 0 0 X n) := by
    rcases hst.d with ⟨e, _⟩ | ⟨_, e, _⟩
    · have e : (2 : Int) = 1 := e
      omega
    · exact e
  have hw : writeG (2, 1000, n, 0, outS 2 num den 0 0 X n) (2, O) = ((2, 1000, m, 0, outS 2 num den 0 0 (X ++ x) m), 0, 0) := by
    unfold writeG
    rw [if_pos ⟨(rgOK_iff _).2 hgo, (bkOK_iff _ _).2 o3⟩, if_pos (show ((2 : Int), O).1 = ((2 : Int), (1000 : Int), n, (0 : Int), outS 2 num den 0 0 X n).1 from rfl), hroom, if_neg (by simp only; omega)]
    simp only
    rw [o5, List.take_of_length_le (by omega), g2, show n + (m - n) = m by omega, show m - n - (m - n) = 0 by omega]
  unfold giveS
  rw [if_pos ⟨rd_is hst rfl, (bkOK_iff _ _).2 hx⟩, if_pos (show ((2 : Int), x).1 = (rdS num den X n 0).r.1 from rfl), if_pos (show (rdS num den X n 0).state = 3 from rfl), hconv, if_pos (show ((((2 : Int), O), nextR 2 num den 0 0 0 (X ++ x) m, (0 : Int)) : BkT × RsT × Int).2.2 = 0 from rfl), hg]
  simp only [hw, if_true]
  rw [w64 (x := (rdS num den X n 0).pl + frames 2 x) (by show -9223372036854775808 ≤ frames 2 X + frames 2 x; omega) (by show frames 2 X + frames 2 x ≤ _; omega)]
  show ((0 : Int), (⟨2, 3, 1000, 0, _, _, 0, frames 2 X + frames 2 x, _⟩ : St), (0 : Int)) = (0, ⟨2, 3, 1000, 0, _, _, 0, frames 2 (X ++ x), 0⟩, 0)
  rw [a2]
  rfl
/-- reading from it -/
theorem read_ok {num den : Int} (hb : BaseOK num den) {X : List Int} (hX : BkOK 2 X) (hl : frames 2 X ≤ 39) {n R j : Int} (r0 : 0 ≤ R) (r1 : R ≤ n) (n1 : n ≤ 1000) (hneed : (ph num den 0 0).need n ≤ frames 2 X) (j0 : 0 ≤ j) (j1 : j ≤ 65536) :
    readS (rdS num den X n R) j = ((2, ((outS 2 num den 0 0 X n).drop (R.toNat * 2)).take ((min j (n - R)).toNat * 2)), rdS num den X n (R + min j (n - R)), 0) := by
  have hst := rdS_ok hb hX hl r0 r1 n1 hneed
  have hgo : RgOK (rdS num den X n R).g := by
    rcases hst.d with ⟨e, _⟩ | ⟨_, e, _⟩
    · have e : (2 : Int) = 1 := e
      omega
    · exact e
  obtain ⟨K, hK⟩ : ∃ K, K = min j (n - R) := ⟨_, rfl⟩
  have hg : readG (rdS num den X n R).g K = ((2, ((outS 2 num den 0 0 X n).drop (R.toNat * 2)).take (K.toNat * 2)), 0, (2, 1000, n, R + K, (outS 2 num den 0 0 X n).drop ((R + K).toNat * 2)), 0) := by
    unfold readG
    rw [if_pos ((rgOK_iff _).2 hgo), if_neg (by omega)]
    simp only [rdS]
    rw [show min K (n - R) = K by omega, Int.sub_self, show (K * 2).toNat = K.toNat * 2 by omega, List.drop_drop, show (R + K).toNat * 2 = R.toNat * 2 + K.toNat * 2 by omega]
    simp
  unfold readS
  rw [if_pos (rd_is hst rfl), if_neg (by omega), if_neg (show ¬ (rdS num den X n R).state = 7 by show ¬ (3 : Int) = 7; omega), rdS_wait hst, ← hK, hg]
  simp only
  rw [w64 (x := (rdS num den X n R).wr + K) (by show -9223372036854775808 ≤ R + K; omega) (by show R + K ≤ _; omega)]
  rfl
def cap0 (num den : Int) : St := ⟨2, 1, 1000, 0, (2, num, den, 0, 0, 0, []), (2, 1000, 0, 0, []), 0, 0, 0⟩
theorem next0 {num den : Int} (h : BaseOK num den) : nextR 2 num den 0 0 0 [] 0 = (2, num, den, 0, 0, 0, []) ∧ outS 2 num den 0 0 [] 0 = [] ∧ (ph num den 0 0).need 0 ≤ frames 2 [] := by
  have hr0 := (newS_ok (ch := 2) (by omega) (by omega) h).2
  have g0 := (ph num den 0 0).gone_zero hr0.p.ok
  refine ⟨?_, by simp [outS, out], ?_⟩
  · unfold nextR goneS
    rw [g0, ph_A]
    simp
  · rw [(nil_ok (ch := 2) (by omega) (by omega)).2]
    simp [Ph.need]
theorem newSt_cap {num den : Int} (h : BaseOK num den) : newSt 2 2 num den 1000 0 = (cap0 num den, 0) ∧ StOK (cap0 num den) ∧ doS (cap0 num den) 1 = (rdS num den [] 0 0, 0) := by
  obtain ⟨e1, e2⟩ := newS_ok (ch := 2) (by omega) (by omega) h
  have hnil := nil_ok (ch := 2) (by omega) (by omega)
  have hg : RgOK (2, 1000, 0, 0, []) := ⟨by simp, by simp, by simp, by simp, by simp, hnil.1, by show (0 : Int) - 0 = frames 2 []; rw [hnil.2]; rfl, by simp⟩
  have hG : (newG 2 1000).1 = (2, 1000, 0, 0, []) := by unfold newG; rw [if_pos ((rgOK_iff _).2 hg)]
  have hs : StOK (cap0 num den) := ⟨by simp [cap0], by simp [cap0], by simp [cap0], by simp [cap0], by simp [cap0], by simp [cap0], e2, rfl, by simp [cap0], by simp [cap0], by simp [cap0], .inr ⟨rfl, hg, rfl, rfl⟩⟩
  refine ⟨?_, hs, ?_⟩
  · unfold newSt
    simp only [e1, hG, if_true]
    exact if_pos ((stOK_iff _).2 hs)
  · obtain ⟨n1, n2, _⟩ := next0 h
    rw [doS_1, if_pos ((stOK_iff _).2 hs), if_pos (by simp [mayS, cap0]), if_neg (by simp [cap0])]
    unfold rdS
    rw [n1, n2, hnil.2]
    rfl
theorem make0 {num den : Int} (h : BaseOK num den) : (ph num den 0 0).make 0 = 0 := by
  have hr0 := (newS_ok (ch := 2) (by omega) (by omega) h).2
  have h1 := (ph num den 0 0).make_nonneg 0
  have h2 := (ph num den 0 0).need_of_le_make hr0.p.ok (w := 0) (j := (ph num den 0 0).make 0) (by omega) h1 (Int.le_refl _)
  unfold Ph.need at h2
  by_cases hz : (ph num den 0 0).make 0 = 0
  · exact hz
  · rw [if_neg hz] at h2
    have hn := h.n1
    have hd := h.d1
    have hA : 0 ≤ (ph num den 0 0).A ((ph num den 0 0).make 0 - 1) := by
      rw [ph_A, Int.zero_add]
      exact Int.mul_nonneg (Int.mul_nonneg (by omega) (by omega)) (by omega)
    have hq := Int.ediv_nonneg hA (show 0 ≤ (ph num den 0 0).P by show 0 ≤ den * 65536; omega)
    omega
/-- StreamGives -/
theorem law18 {k : Nat} (hk : Big k) (hs : f70 k () = some true) (seeds at_ reads : List Int) (hseeds : ∀ x ∈ seeds, 0 ≤ x ∧ x ≤ 255) (hat : ∀ x ∈ at_, 0 ≤ x ∧ x ≤ 255) (hreads : ∀ x ∈ reads, 0 ≤ x ∧ x ≤ 255) (fr : Int) (hfr : 0 ≤ fr ∧ fr ≤ 255) : f18 k (seeds, at_, reads, fr) = some true := by
  unfold f18
  rw [hs]
  simp only [Option.bind_some, Bool.not_true, cond_false]
  by_cases hlen : (at_.length : Int) > 8
  · simp [hlen]
  by_cases hlen2 : (reads.length : Int) > 8
  · simp [hlen2]
  simp only [hlen, hlen2, decide_false, cond_false]
  obtain ⟨l, e1, hl⟩ := s22 k hseeds
  obtain ⟨num, den, l2, e2, hl2, hbase⟩ := s48 hk hl
  have hn2 := hbase.n2
  have hn1 := hbase.n1
  simp only [e1, e2, Option.bind_some, w64 (show -9223372036854775808 ≤ 20 * num by omega) (by omega)]
  by_cases hden : den > 20 * num
  · simp [hden]
  obtain ⟨m1, m2, m3⟩ := u8_mod hfr (show (1 : Int) ≤ 40 by omega) (by omega)
  obtain ⟨v1, v2⟩ := wave_ok 3 (show (1 : Int) ≤ 2 by omega) (by omega) m2 (show fr % 40 ≤ 65536 by omega)
  have hwave := s24 hk 3 2 (fr % 40) (by omega) (by omega) (by omega)
  obtain ⟨D, hD⟩ : ∃ D, D = waveL 3 (2 : Int).toNat (fr % 40).toNat := ⟨_, rfl⟩
  rw [← hD] at v1 v2 hwave
  obtain ⟨q1, q2, q3⟩ := newSt_cap hbase
  obtain ⟨x1, x2, x3⟩ := next0 hbase
  have hnil := nil_ok (ch := 2) (by omega) (by omega)
  have hrd0 := rdS_ok hbase hnil.1 (by rw [hnil.2]; omega) (n := 0) (R := 0) (by omega) (by omega) (by omega) x3
  have hDl := v1.len_le
  have hg0 := give_ok hbase (by omega) hnil.1 v1 (by rw [hnil.2, v2]; omega) (n := 0) (by omega) (by omega) x3
  rw [List.nil_append] at hg0
  obtain ⟨g1, _, _, g4, g5, g6⟩ := hg0
  obtain ⟨M, hM⟩ : ∃ M, M = (ph num den 0 0).make (frames 2 D) := ⟨_, rfl⟩
  rw [← hM] at g1 g4 g5 g6
  have hwh := rdS_ok hbase v1 (by omega) (n := M) (R := 0) (by omega) (by omega) (by omega) g6
  obtain ⟨ps, e5, hps, hpl⟩ := s41 hk v1 at_ hat (by omega)
  have hwlen := v1.len
  rw [v2] at hwlen
  have hflen : (((ps.map (·.2)).flatten.length : Int) = (fr % 40) * 2) := by rw [hps.flat]; exact hwlen
  have hpre := pieces_prefix (ch := 2) (by omega) (by omega) hps.all (W := fr % 40) (by omega)
  simp only [hden, decide_false, cond_false, m1, s71 hk, q1, rt, hwave, Option.bind_some]
  have e73 := s73 hk (cap0 num den) q2.short 1
  rw [q3] at e73
  have e78 := s78 hk _ hrd0.short (2, D) (by simp only; omega)
  rw [g1] at e78
  simp only [rt] at e73
  simp only [rt3] at e78
  simp only [e73, Option.bind_some, e78, bne_self_eq_false, cond_false, e5]
  refine loopC_spec (L18_16 k _ _) (fun y => ∃ (i : Nat) (X : List Int) (n : Int), y = (reads, ps, (ps.length : Int), (i : Int), (rdS num den X n 0).t, (rdS num den D M 0).t) ∧ i ≤ ps.length ∧ X = ((ps.map (·.2)).take i).flatten ∧ 0 ≤ n ∧ n ≤ 1000 ∧ (ph num den 0 0).need n ≤ frames 2 X ∧ n = (ph num den 0 0).make (frames 2 X)) (fun _ => some true) (fun y => (ps.length - y.2.2.2.1).toNat) ?_ k _ ⟨0, [], 0, rfl, by omega, by simp, by omega, by omega, x3, ?_⟩ (hk.lt (by simp only; omega))
  · rintro y next ⟨i, X, n, rfl, hi, hX, n0, n1, hneed, hmake⟩ hnext
    simp only at hnext
    obtain ⟨pi1, pi2⟩ := hpre i hi hflen
    rw [← hX] at pi1 pi2
    have q0 := frames_nonneg (d := X) (show (1 : Int) ≤ 2 by omega)
    have hst := rdS_ok hbase pi1 (by omega) (n := n) (R := 0) (by omega) n0 n1 hneed
    unfold L18_16
    simp only
    by_cases hlt : i < ps.length
    · have z1 : decide ((i : Int) < (ps.length : Int)) = true := by simp; omega
      have z2 : decide ((0 : Int) ≤ (i : Int)) = true := by simp
      have hwi : IntKind.wrap .i64 ((i : Int) + 1) = ((i + 1 : Nat) : Int) := by rw [w64 (by omega) (by omega)]; omega
      simp only [z1, z2, Bool.and_self, cond_true, Int.toNat_natCast, hwi]
      have hp := hps.all _ (getD_mem' (e := ((0 : Int), [])) hlt)
      have hft := flat_take hlt ((0 : Int), [])
      obtain ⟨pi3, pi4⟩ := hpre (i + 1) (by omega) hflen
      obtain ⟨p, hpe⟩ : ∃ p : BkT, ps.getD i ((0 : Int), []) = p := ⟨_, rfl⟩
      rw [hpe] at hp hft
      obtain ⟨pc, pd⟩ := p
      obtain ⟨hpc, hpd⟩ := hp
      simp only at hpc hpd hft
      subst hpc
      rw [← hX] at hft
      rw [hft] at pi3 pi4
      have hsum : frames 2 X + frames 2 pd = frames 2 (X ++ pd) := by
        have z1 := pi1.len
        have z2 := hpd.len
        have z3 := pi3.len
        rw [List.length_append, Int.natCast_add, z1, z2] at z3
        omega
      obtain ⟨y1, y2, y3, y4, y5, y6⟩ := give_ok hbase (by omega) pi1 hpd (by omega) n0 n1 hneed
      have hpl' := hpd.len_le
      have e78' := s78 hk _ hst.short (2, pd) (by simp only; omega)
      rw [y1] at e78'
      simp only [rt3] at e78'
      rw [hpe, e78', Option.bind_some]
      simp only [bne_self_eq_false, cond_false]
      exact hnext _ ⟨i + 1, X ++ pd, _, rfl, by omega, by rw [hft], y4, by omega, y6, rfl⟩ (by simp only; omega)
    · have : i = ps.length := by omega
      subst this
      have z1 : decide ((ps.length : Int) < (ps.length : Int)) = false := by simp
      have htake : ((ps.map (·.2)).take ps.length).flatten = D := by
        rw [List.take_of_length_le (by simp), hps.flat]
      rw [htake] at hX
      subst hX
      rw [← hM] at hmake
      subst hmake
      simp only [z1, cond_false]
      rw [same74' hk hst, Option.bind_some]
      simp only [Bool.not_true, cond_false]
      have hp0 : RsOK 2 num den 0 0 0 X := ⟨(newS_ok (ch := 2) (by omega) (by omega) hbase).2.p, v1⟩
      obtain ⟨o1, o2⟩ := out_ok hp0 n0 (by omega)
      have hol := o1.len_le
      refine loopC_spec (L18_27 k _ _) (fun y => ∃ (i : Nat) (R : Int), y = (reads, (reads.length : Int), (i : Int), (rdS num den X n R).t, (rdS num den X n 0).t, (2 : Int), (outS 2 num den 0 0 X n).take (R.toNat * 2)) ∧ i ≤ reads.length ∧ 0 ≤ R ∧ R ≤ n)
        (fun _ => some true) (fun y => (reads.length - y.2.2.1).toNat) ?_ k _ ⟨0, 0, ?_, by omega, by omega, by omega⟩ (hk.lt (by simp only; omega))
      · rintro y next' ⟨i, R, rfl, hi, r0, r1⟩ hnext'
        simp only at hnext'
        have hst2 := rdS_ok hbase v1 (by omega) r0 r1 n1 hneed
        unfold L18_27
        simp only
        by_cases hlt2 : i < reads.length
        · have z3 : decide ((i : Int) < (reads.length : Int)) = true := by simp; omega
          have z4 : decide ((0 : Int) ≤ (i : Int)) = true := by simp
          have hwi : IntKind.wrap .i64 ((i : Int) + 1) = ((i + 1 : Nat) : Int) := by rw [w64 (by omega) (by omega)]; omega
          have hm := hreads _ (getD_mem hlt2)
          obtain ⟨j1, j2, j3⟩ := u8_mod hm (show (1 : Int) ≤ 20 by omega) (by omega)
          simp only [z3, z4, Bool.and_self, cond_true, Int.toNat_natCast, hwi, j1]
          obtain ⟨j, hj⟩ : ∃ j, j = reads.getD i 0 % 20 := ⟨_, rfl⟩
          rw [← hj] at j2 j3 ⊢
          have e79 := s79 hk _ hst2.short j
          rw [read_ok hbase v1 (by omega) r0 r1 n1 hneed j2 (by omega)] at e79
          simp only [rt5] at e79
          obtain ⟨K, hK⟩ : ∃ K, K = min j (n - R) := ⟨_, rfl⟩
          rw [← hK] at e79
          rw [e79, Option.bind_some]
          simp only [bne_self_eq_false, cond_false]
          rw [s42 k _ _ _ _ (by rw [List.length_take]; omega) (by rw [List.length_take, List.length_drop]; omega), Option.bind_some]
          refine hnext' _ ⟨i + 1, R + K, ?_, by omega, by omega, by omega⟩ (by simp only; omega)
          rw [show (R + K).toNat * 2 = R.toNat * 2 + K.toNat * 2 by omega, List.take_add]
        · have : i = reads.length := by omega
          subst this
          have z3 : decide ((reads.length : Int) < (reads.length : Int)) = false := by simp
          simp only [z3, cond_false]
          obtain ⟨t1, t2⟩ := take_ok o1 (b := R.toNat) (by omega)
          rw [show R.toNat * (2 : Int).toNat = R.toNat * 2 from rfl] at t1 t2
          rw [s47 hk t1, Option.bind_some, t2, Int.toNat_of_nonneg r0]
          have e79 := s79 hk _ hst.short R
          rw [read_ok hbase v1 (by omega) (R := 0) (by omega) n0 n1 hneed r0 (by omega)] at e79
          simp only [rt5] at e79
          rw [show min R (n - 0) = R by omega, Int.zero_add, show (0 : Int).toNat * 2 = 0 from rfl, List.drop_zero] at e79
          rw [e79, Option.bind_some]
          simp only [beq_self_eq_true, cond_true]
          rw [same74' hk hst2, Option.bind_some]
          simp only [cond_true]
          rw [same38 hk _ (by simp only [List.length_take]; omega), Option.bind_some]
      · rfl
  · rw [hnil.2]
    exact (make0 hbase).symm
theorem plain18 (x : argsI [.val false (.sl (.int .u8)), .val false (.sl (.int .u8)), .val false (.sl (.int .u8)), .val false (.int .u8)]) (h : WFAs _ x) : f18 fuel x = some true := by
  obtain ⟨seeds, at_, reads, fr⟩ := x
  exact law18 big_fuel sane20 seeds at_ reads (D8_of h.1) (D8_of h.2.1) (D8_of h.2.2.1) fr (u8_of h.2.2.2)
end Go.Proofs.Ytbfkfobfhjgphaa.Sp
