/- The laws ResampleSame and ResampleChannels, in plain words. -/
import Derived.Test.YtbfkfobfhjgphaaLwC
set_option linter.unusedVariables false
set_option linter.unusedSimpArgs false
namespace Go.Proofs.Ytbfkfobfhjgphaa.Sp
open Go Go.Pev Go.Snd Go.Proofs.Ytbfkfobfhjgphaa.Fn

/-! ### samples by dice -/
theorem s98 (k : Nat) {l : List Int} (h : D8 l) : ∃ x l', f98 k l = some (x, l') ∧ D8 l' ∧ isS x := by
  obtain ⟨r1, l1, e1, h1, a1, b1, _⟩ := s51 k h 8
  unfold f98
  rw [e1, Option.bind_some]
  simp only
  by_cases q0 : r1 = 0
  · subst q0; exact ⟨0, l1, by simp, h1, by omega, by omega⟩
  have c0 : (r1 == 0) = false := by simpa using q0
  by_cases q1 : r1 = 1
  · subst q1; exact ⟨8388607, l1, by simp, h1, by omega, by omega⟩
  have c1 : (r1 == 1) = false := by simpa using q1
  by_cases q2 : r1 = 2
  · subst q2; exact ⟨-8388608, l1, by simp, h1, by omega, by omega⟩
  have c2 : (r1 == 2) = false := by simpa using q2
  obtain ⟨r2, l2, e2, h2, a2, b2, _⟩ := s51 k h1 256
  have b2 := b2 (by omega)
  by_cases q3 : r1 = 3
  · subst q3
    have c3 : ((3 : Int) == 3) = true := rfl
    refine ⟨r2 - 128, l2, ?_, h2, by omega, by omega⟩
    simp only [c0, c1, c2, c3, cond_false, cond_true, e2, Option.bind_some]
    rw [w32 (x := r2) (by omega) (by omega), w32 (by omega) (by omega)]
  have c3 : (r1 == 3) = false := by simpa using q3
  obtain ⟨r3, l3, e3, h3, a3, b3, _⟩ := s51 k h2 256
  have b3 := b3 (by omega)
  obtain ⟨r4, l4, e4, h4, a4, b4, _⟩ := s51 k h3 256
  have b4 := b4 (by omega)
  have p1 : (2 : Int) ^ (min (Int.toNat (16 : Int)) (IntKind.bits .i32)) = 65536 := by decide
  have p2 : (2 : Int) ^ (min (Int.toNat (8 : Int)) (IntKind.bits .i32)) = 256 := by decide
  refine ⟨r2 * 65536 - 8388608 + r3 * 256 + r4, l4, ?_, h4, by omega, by omega⟩
  simp only [c0, c1, c2, c3, cond_false, e2, e3, e4, Option.bind_some, p1, p2]
  rw [w32 (x := r2) (by omega) (by omega), w32 (x := r2 * 65536) (by omega) (by omega), w32 (x := r2 * 65536 - 8388608) (by omega) (by omega), w32 (x := r3) (by omega) (by omega), w32 (x := r3 * 256) (by omega) (by omega), w32 (x := r2 * 65536 - 8388608 + r3 * 256) (by omega) (by omega), w32 (x := r4) (by omega) (by omega), w32 (by omega) (by omega)]
theorem s43 {k : Nat} (hk : Big k) {l : List Int} (h : D8 l) {ch n : Int} (c1 : 1 ≤ ch) (c2 : ch ≤ 8) (h0 : 0 ≤ n) (h1 : n ≤ 1000) : ∃ d l', f43 k (l, ch, n) = some ((ch, d), l') ∧ D8 l' ∧ BkOK ch d ∧ frames ch d = n := by
  obtain ⟨m1, m2⟩ := mul_bd (show 0 ≤ ch by omega) c2 h0 h1
  have hw : IntKind.wrap .i64 (ch * n) = ch * n := w64 (by omega) (by omega)
  unfold f43
  refine loop_ex (L43_3 k (fun z3 => some ((z3.2.1, z3.2.2.2), z3.2.2.1))) (fun y => ∃ (i : Nat) (l : List Int) (d : List Int), y = (ch, n, (i : Int), 0, ch, l, d) ∧ (i : Int) ≤ ch * n ∧ D8 l ∧ d.length = i ∧ ∀ x ∈ d, isS x)
    (fun r => ∃ d l', r = some ((ch, d), l') ∧ D8 l' ∧ BkOK ch d ∧ frames ch d = n) (fun y => (ch * n - y.2.2.1).toNat) ?_ k _ ⟨0, l, [], rfl, by simpa using m1, h, rfl, by simp⟩ (hk.lt (by simp; omega))
  rintro y next ⟨i, l, d, rfl, hi, hl, hd, hs⟩ hnext
  simp only at hnext
  unfold L43_3
  simp only [hw]
  by_cases hlt : (i : Int) < ch * n
  · obtain ⟨x, l', e, hl', hx⟩ := s98 k hl
    have hw' : IntKind.wrap .i64 ((i : Int) + 1) = ((i + 1 : Nat) : Int) := by rw [w64 (by omega) (by omega)]; omega
    simp only [hlt, decide_true, cond_true, e, Option.bind_some, hw']
    rw [maxB (by simp; omega), cond_true]
    refine hnext _ ⟨i + 1, l', _, rfl, by omega, hl', by simp [hd], fun y hy => ?_⟩ (by simp only; omega)
    rcases List.mem_append.1 hy with hy | hy
    · exact hs y hy
    · rw [List.mem_singleton.1 hy]; exact hx
  · simp only [hlt, decide_false, cond_false]
    obtain ⟨r1, r2⟩ := BkOK.mk' c1 c2 (d := d) (w := n) (by rw [hd, Int.mul_comm]; omega) (by omega) hs
    exact ⟨d, l, rfl, hl, r1, r2⟩

/-! ### equal rates -/
theorem unit_A (n : Int) : (ph 1 1 0 0).A n = n * 65536 := by rw [ph_A]; omega
theorem unit_gone (n : Int) : (ph 1 1 0 0).gone n = n := by
  show (ph 1 1 0 0).A n / (1 * 65536) = n
  rw [unit_A]; omega
theorem unit_frac (n : Int) : (ph 1 1 0 0).A n % (1 * 65536) = 0 := by rw [unit_A]; omega
theorem unit_need {n : Int} (hn : n ≠ 0) : (ph 1 1 0 0).need n = n + 1 := by
  rw [(ph 1 1 0 0).need_eq hn, unit_gone, unit_gone]; omega
theorem unit_ok : (ph 1 1 0 0).OK := ⟨by decide, by decide, by decide, by decide⟩
theorem unit_make {w : Int} (h1 : 1 ≤ w) (h2 : w ≤ 65536) : (ph 1 1 0 0).make w = w - 1 := by
  refine (ph 1 1 0 0).make_unique unit_ok (by omega) (by omega) (by omega) ?_ fun _ => ?_
  · by_cases h0 : w - 1 = 0
    · rw [h0]; simp [Ph.need]; omega
    · rw [unit_need h0]; omega
  · rw [unit_need (by omega)]; omega
theorem unit_fr (c : Nat) (rest : List Int) (w i : Nat) (hi : i < w) : fr (ph 1 1 0 0) c rest w i = frameL c rest i := by
  unfold fr frameL
  refine List.map_congr_left fun m _ => ?_
  have e : (ph 1 1 0 0).A i % (ph 1 1 0 0).P = 0 := unit_frac i
  rw [e, ip_zero _ _ _ unit_ok.hP, unit_gone, Int.toNat_natCast, show min i (w - 1) = i by omega]
theorem unit_out (c : Nat) (rest : List Int) (w : Nat) (hr : rest.length = w * c) : ∀ n, n ≤ w → out (ph 1 1 0 0) c rest w n = rest.take (n * c)
  | 0, _ => by simp [out]
  | n + 1, h => by
    rw [out_succ, unit_out c rest w hr n (by omega), unit_fr c rest w n (by omega), ← frameL_eq c rest n w hr (by omega), Nat.add_mul, Nat.one_mul]
    have : rest.take (n * c) = (rest.take (n * c + c)).take (n * c) := by rw [List.take_take, Nat.min_eq_left (by omega)]
    rw [this, List.take_append_drop]
theorem base_one : BaseOK 1 1 := ⟨by omega, by omega, by omega, by omega, by decide, by omega, by omega⟩

/-! ### constants -/
theorem out_const {ch num den adj pos frac : Int} {rest : List Int} (h : RsOK ch num den adj pos frac rest) (hw : 1 ≤ frames ch rest) {v : Int} (hv : ∀ x ∈ rest, x = v) {n : Int} (h0 : 0 ≤ n) : ∀ x ∈ outS ch num den adj frac rest n, x = v := by
  intro x hx
  unfold outS out at hx
  obtain ⟨i, _, hi⟩ := List.mem_flatMap.1 hx
  obtain ⟨c, hc, rfl⟩ := List.mem_map.1 hi
  have hc : c < ch.toNat := by simpa using hc
  have hl := lenN h.b
  have hs : ∀ j, smp ch.toNat rest (min j ((frames ch rest).toNat - 1)) c = v := by
    intro j
    unfold smp
    refine hv _ (getD_mem ?_)
    rw [hl]
    calc min j ((frames ch rest).toNat - 1) * ch.toNat + c < min j ((frames ch rest).toNat - 1) * ch.toNat + ch.toNat := by omega
      _ = (min j ((frames ch rest).toNat - 1) + 1) * ch.toNat := by rw [Nat.add_mul, Nat.one_mul]
      _ ≤ (frames ch rest).toNat * ch.toNat := Nat.mul_le_mul_right _ (by omega)
  rw [hs, hs, ip_same _ _ _ h.p.ok.hP]
def satV (s : Int) : Int := if (if s < 8388607 then s else 8388607) > -8388608 then (if s < 8388607 then s else 8388607) else -8388608
theorem satV_isS (s : Int) : isS (satV s) := by
  unfold satV isS
  split <;> split <;> omega
theorem s44 (k : Nat) (s : Int) : f44 k s = some (satV s) := by
  have h := satV_isS s
  unfold f44
  congr 1
  exact w32 (show _ ≤ satV s by have := h.1; omega) (show satV s ≤ _ by have := h.2; omega)

/-- ResampleSame -/
theorem law6 {k : Nat} (hk : Big k) (hs : f19 k () = some true) (seeds : List Int) (hseeds : ∀ x ∈ seeds, 0 ≤ x ∧ x ≤ 255) (fr : Int) (hfr : 0 ≤ fr ∧ fr ≤ 255) (s : Int) (hs1 : -2147483648 ≤ s) (hs2 : s ≤ 2147483647) : f6 k (seeds, fr, s) = some true := by
  unfold f6
  obtain ⟨l, e1, hl⟩ := s22 k hseeds
  obtain ⟨m1, m2, m3⟩ := u8_mod hfr (show (1 : Int) ≤ 30 by omega) (by omega)
  have hw1 : IntKind.wrap .i64 (1 + fr % 30) = 1 + fr % 30 := w64 (by omega) (by omega)
  obtain ⟨d, l1, e2, hl1, hd, hfd⟩ := s43 hk hl (ch := 2) (n := 1 + fr % 30) (by omega) (by omega) (by omega) (by omega)
  obtain ⟨n1, n2⟩ := newS_ok (ch := 2) (by omega) (by omega) base_one
  have hdl := hd.len_le
  have hdN := lenN hd
  obtain ⟨u1, u2, u3⟩ := convS_ok n2 (by omega) hd (by rw [(nil_ok (ch := 2) (by omega) (by omega)).2]; omega)
  rw [(nil_ok (ch := 2) (by omega) (by omega)).2, hfd, Int.zero_add] at u1 u3
  rw [List.nil_append] at u1 u2 u3
  rw [unit_make (by omega) (by omega)] at u1
  obtain ⟨t1, t2, t3, t4, t5⟩ := takeS_ok u2 (by omega) (n := 1 + fr % 30 - 1) (by omega) (by rw [u3, unit_make (by omega) (by omega)]; omega)
  have hfin := finS_eq t2 (n := 50) (by omega) (by omega)
  have hfr1 : frames 2 (d.drop (goneS 1 1 0 0 (1 + fr % 30 - 1) * Int.toNat 2)) = 1 := by rw [t3, unit_gone, hfd]; omega
  rw [hfr1, unit_frac] at hfin
  have hleft : (ph 1 1 0 0).left 1 = 1 := by decide
  rw [hleft, show min (50 : Int) 1 = 1 by omega] at hfin
  rw [unit_frac] at t2
  obtain ⟨p1, p2, p3⟩ := prodS_ok t2 (n := 1) (by omega) (by omega) (by rw [unit_gone, unit_gone]; omega)
  have hnx : nextR 2 1 1 0 0 0 d (1 + fr % 30 - 1) = (2, 1, 1, 0, 0 + (ph 1 1 0 0).gone (1 + fr % 30 - 1), 0, d.drop (goneS 1 1 0 0 (1 + fr % 30 - 1) * Int.toNat 2)) := by unfold nextR; rw [unit_frac]
  have hN : goneS 1 1 0 0 (1 + fr % 30 - 1) = (fr % 30).toNat := by unfold goneS; rw [unit_gone]; congr 1; omega
  have ho1 : outS 2 1 1 0 0 d (1 + fr % 30 - 1) = d.take ((fr % 30).toNat * 2) := by
    unfold outS
    rw [hfd, show (1 + fr % 30 - 1).toNat = (fr % 30).toNat by omega]
    exact unit_out 2 d _ (by rw [hdN, hfd]; rfl) _ (by omega)
  have ho2 : outS 2 1 1 0 0 (d.drop ((fr % 30).toNat * 2)) 1 = d.drop ((fr % 30).toNat * 2) := by
    unfold outS
    have hfr1' := hfr1
    rw [hN] at hfr1'
    have hfr2 : frames 2 (d.drop ((fr % 30).toNat * 2)) = 1 := hfr1'
    rw [hfr2]
    have hlen1 : (d.drop ((fr % 30).toNat * 2)).length = 1 * 2 := by
      rw [List.length_drop, hdN, hfd]
      show (1 + fr % 30).toNat * 2 - _ = _
      omega
    have := unit_out 2 (d.drop ((fr % 30).toNat * 2)) 1 hlen1 1 (by omega)
    have e : (d.drop ((fr % 30).toNat * 2)).take (1 * 2) = d.drop ((fr % 30).toNat * 2) := List.take_of_length_le (by omega)
    rw [e] at this
    exact this
  rw [hs]
  simp only [Option.bind_some, Bool.not_true, cond_false, e1, m1, hw1, e2, s32 hk, n1]
  rw [s39 hk _ _ _ _ _ _ _ _ _ (by simp) (by omega), u1, t1, Option.bind_some]
  rw [hnx]
  simp only
  rw [s36 hk _ _ _ _ _ _ _ (by rw [List.length_drop]; omega), hfin, p1, Option.bind_some]
  simp only [bne_self_eq_false, cond_false]
  have ho2' : outS 2 1 1 0 0 (d.drop (goneS 1 1 0 0 (1 + fr % 30 - 1) * Int.toNat 2)) 1 = d.drop ((fr % 30).toNat * 2) := by rw [hN]; exact ho2
  rw [ho1, ho2', s42 k _ _ _ _ (by rw [List.length_take]; omega) (by rw [List.length_drop]; omega), List.take_append_drop, Option.bind_some, same38 hk _ (by simp only; omega), Option.bind_some]
  simp only [Bool.not_true, cond_false]
  obtain ⟨ch, num, den, adj, pos, frac, rest, l', e3, _, hm, hch⟩ := s23 hk hl1
  have c1 := hm.ok.b.c1
  have c2 := hm.ok.b.c2
  have w0 := frames_nonneg (d := rest) c1
  have hsm := hm.small
  rw [e3, Option.bind_some]
  simp only [cmp50 hm.ok.p]
  by_cases hden : 50 * num < den
  · simp [hden]
  simp only [hden, decide_false, cond_false]
  have hw64 : IntKind.wrap .i64 s = s := w64 (by omega) (by omega)
  have hw12 : IntKind.wrap .i64 (ch * 12) = ch * 12 := w64 (by omega) (by omega)
  have hsat := satV_isS s
  refine loopC_spec (L6_16 k _) (fun y => ∃ i : Nat, y = (s, (i : Int), (ch, num, den, adj, pos, frac), ch, List.replicate i (satV s)) ∧ (i : Int) ≤ ch * 12) (fun _ => some true) (fun y => (ch * 12 - y.2.1).toNat) ?_ k _ ⟨0, rfl, by simp; omega⟩ (hk.lt (by simp; omega))
  rintro y next ⟨i, rfl, hi⟩ hnext
  simp only at hnext
  unfold L6_16
  simp only [hw64, hw12, s44, Option.bind_some]
  by_cases hlt : (i : Int) < ch * 12
  · have hw' : IntKind.wrap .i64 ((i : Int) + 1) = ((i + 1 : Nat) : Int) := by rw [w64 (by omega) (by omega)]; omega
    simp only [hlt, decide_true, cond_true, hw']
    rw [maxB (by simp; omega), cond_true]
    refine hnext _ ⟨i + 1, ?_, by omega⟩ (by simp only; omega)
    rw [List.replicate_succ']
  · simp only [hlt, decide_false, cond_false]
    have hi12 : (i : Int) = 12 * ch := by omega
    have hr0 : RsOK ch num den adj pos frac [] := ⟨hm.ok.p, (nil_ok c1 c2).1⟩
    obtain ⟨b1, b2⟩ := BkOK.mk' c1 c2 (d := List.replicate i (satV s)) (w := 12) (by rw [List.length_replicate]; exact hi12) (by omega) (fun x hx => by rw [(List.mem_replicate.1 hx).2]; exact hsat)
    obtain ⟨x1, x2, x3⟩ := convS_ok hr0 (by omega) b1 (by rw [(nil_ok c1 c2).2, b2]; omega)
    rw [(nil_ok c1 c2).2, b2, Int.zero_add] at x1 x3
    rw [List.nil_append] at x1 x2 x3
    obtain ⟨y1, y2, y3, y4, y5⟩ := takeS_ok x2 (by omega) ((ph num den adj frac).make_nonneg _) (Int.le_refl _)
    rw [x3] at y1 y2 y3 y4 y5
    rw [s39 hk _ _ _ _ _ _ _ _ _ (by simp) (by simp; omega), x1, y1, Option.bind_some]
    simp only
    have hconst := out_const x2 (by omega) (v := satV s) (fun x hx => (List.mem_replicate.1 hx).2) ((ph num den adj frac).make_nonneg 12)
    have hol := (out_ok x2 ((ph num den adj frac).make_nonneg 12) ((ph num den adj frac).make_le 12)).1.len_le
    generalize outS ch num den adj frac (List.replicate i (satV s)) ((ph num den adj frac).make 12) = o at *
    refine loopC_spec (L6_21 k _ _) (fun y => ∃ j : Nat, y = (s, 0, o, (o.length : Int), (j : Int)) ∧ j ≤ o.length) (fun _ => some true) (fun y => (o.length - y.2.2.2.2).toNat) ?_ k _ ⟨0, rfl, by omega⟩ (hk.lt (by simp; omega))
    rintro y next' ⟨j, rfl, hj⟩ hnext'
    simp only at hnext'
    unfold L6_21
    simp only [hw64, s44, Option.bind_some]
    by_cases hjl : j < o.length
    · have d1 : decide ((j : Int) < (o.length : Int)) = true := by simp; omega
      have d2 : decide ((0 : Int) ≤ (j : Int)) = true := by simp
      have hw' : IntKind.wrap .i64 ((j : Int) + 1) = ((j + 1 : Nat) : Int) := by rw [w64 (by omega) (by omega)]; omega
      have hv := hconst _ (getD_mem hjl)
      simp only [d1, d2, Bool.and_self, cond_true, Int.toNat_natCast, hw', hv, bne_self_eq_false, cond_false]
      exact hnext' _ ⟨j + 1, rfl, by omega⟩ (by simp only; omega)
    · have : j = o.length := by omega
      subst this
      have d1 : decide ((o.length : Int) < (o.length : Int)) = false := by simp
      simp only [d1, cond_false]
      rfl
theorem i32_of {s : Int} (h : (Lit.int .i32 s).wf = true) : -2147483648 ≤ s ∧ s ≤ 2147483647 := by
  simp only [Lit.wf, Bool.and_eq_true, decide_eq_true_eq] at h
  have e1 : IntKind.min .i32 = -2147483648 := by decide
  have e2 : IntKind.max .i32 = 2147483647 := by decide
  rw [e1, e2] at h
  exact h
theorem plain6 (x : argsI [.val false (.sl (.int .u8)), .val false (.int .u8), .val false (.int .i32)]) (h : WFAs _ x) : f6 fuel x = some true := by
  obtain ⟨seeds, fr, s⟩ := x
  have hi := i32_of h.2.2
  exact law6 big_fuel sane15 seeds (D8_of h.1) fr (u8_of h.2.1) s hi.1 hi.2
end Go.Proofs.Ytbfkfobfhjgphaa.Sp
