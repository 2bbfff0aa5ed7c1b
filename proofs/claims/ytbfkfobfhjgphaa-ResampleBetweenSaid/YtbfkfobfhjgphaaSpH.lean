/- Blocks in pieces: cutting, joining, converting one after the other. -/
import Derived.Test.YtbfkfobfhjgphaaSpG
set_option linter.unusedVariables false
set_option linter.unusedSimpArgs false
namespace Go.Proofs.Ytbfkfobfhjgphaa.Sp
open Go Go.Pev Go.Snd Go.Proofs.Ytbfkfobfhjgphaa.Fn

theorem maxB32 {n : Nat} (h : n ≤ 1000000000000) : (decide (n * 32 ≤ maxBytes) && decide (n ≤ 9223372036854775807)) = true := by
  unfold maxBytes
  simp only [Bool.and_eq_true, decide_eq_true_eq]
  omega
theorem s42 (k : Nat) (c1 c2 : Int) (a b : List Int) (ha : a.length ≤ 100000000000) (hb : b.length ≤ 100000000000) : f42 k ((c1, a), (c2, b)) = some (c1, a ++ b) := by
  unfold f42
  simp only [maxB (show a.length ≤ 1000000000000 by omega), maxB (show a.length + b.length ≤ 1000000000000 by omega), cond_true]
theorem s47' {k : Nat} (hk : Big k) {ch : Int} {d : List Int} (h : BkOK ch d) : f47 k (ch, d) = some (frames ch d) := by
  have hl := h.len_le
  unfold f47
  rw [s83 hk _ _ (by omega), (bkOK_iff _ _).2 h, Option.bind_some]
  simp only [Bool.not_true, cond_false, ch_ne h.c1, w_frames h]
theorem s97 (k : Nat) {ch : Int} {d : List Int} (h : BkOK ch d) (a b : Nat) (hab : a ≤ b) (hb : (b : Int) ≤ frames ch d) : f97 k ((ch, d), (a : Int), (b : Int)) = some (ch, (d.take (b * ch.toNat)).drop (a * ch.toNat)) := by
  have hl := h.len_le
  have hn := lenN h
  have c1 := h.c1
  obtain ⟨c, rfl⟩ : ∃ c : Nat, ch = c := ⟨ch.toNat, by omega⟩
  rw [Int.toNat_natCast] at hn ⊢
  have m1 : a * c ≤ b * c := Nat.mul_le_mul_right _ hab
  have m2 : b * c ≤ (frames c d).toNat * c := Nat.mul_le_mul_right _ (by omega)
  have e1 : IntKind.wrap .i64 ((a : Int) * (c : Int)) = ((a * c : Nat) : Int) := by rw [← Int.natCast_mul]; exact w64 (by omega) (by omega)
  have e2 : IntKind.wrap .i64 ((b : Int) * (c : Int)) = ((b * c : Nat) : Int) := by rw [← Int.natCast_mul]; exact w64 (by omega) (by omega)
  unfold f97
  have d1 : decide ((0 : Int) ≤ ((a * c : Nat) : Int)) = true := by simp only [decide_eq_true_eq]; omega
  have d2 : decide (((a * c : Nat) : Int) ≤ ((b * c : Nat) : Int)) = true := by simp only [decide_eq_true_eq]; omega
  have d3 : decide (((b * c : Nat) : Int) ≤ (d.length : Int)) = true := by simp only [decide_eq_true_eq]; omega
  simp only [e1, e2, d1, d2, d3, Int.le_refl, decide_true, Bool.and_self, cond_true, Int.toNat_natCast]
  rw [maxB (by simp; omega), cond_true]
theorem take_ok {ch : Int} {d : List Int} (h : BkOK ch d) {b : Nat} (hb : (b : Int) ≤ frames ch d) : BkOK ch (d.take (b * ch.toNat)) ∧ frames ch (d.take (b * ch.toNat)) = b := by
  have hn := lenN h
  have c1 := h.c1
  have m2 : b * ch.toNat ≤ (frames ch d).toNat * ch.toNat := Nat.mul_le_mul_right _ (by omega)
  have hl : frames ch d ≤ 65536 := h.l
  refine BkOK.mk' h.c1 h.c2 ?_ (by omega) fun x hx => h.s x (List.mem_of_mem_take hx)
  rw [List.length_take, hn, Nat.min_eq_left m2, Int.natCast_mul]
  congr 1
  omega

structure Pieces (ch : Int) (d : List Int) (ps : List BkT) : Prop where
  all : ∀ p ∈ ps, p.1 = ch ∧ BkOK ch p.2
  flat : (ps.map (·.2)).flatten = d
  ne : ps ≠ []
theorem s41 {k : Nat} (hk : Big k) {ch : Int} {d : List Int} (h : BkOK ch d) (at_ : List Int) (hat : ∀ x ∈ at_, 0 ≤ x ∧ x ≤ 255) (hl : at_.length ≤ 1000) : ∃ ps, f41 k ((ch, d), at_) = some ps ∧ Pieces ch d ps ∧ ps.length ≤ 1001 := by
  have c1 := h.c1
  have w0 := frames_nonneg (d := d) c1
  have w1 : frames ch d ≤ 65536 := h.l
  have hn := lenN h
  have hdl := h.len_le
  unfold f41
  rw [s47' hk h, Option.bind_some]
  refine loop_ex (L41_4 k _) (fun y => ∃ (a : Nat) (i : Nat) (o : List BkT), y = ((a : Int), frames ch d, at_, (at_.length : Int), (i : Int), (ch, d), o) ∧ (a : Int) ≤ frames ch d ∧ i ≤ at_.length ∧ o.length ≤ i ∧ (∀ p ∈ o, p.1 = ch ∧ BkOK ch p.2) ∧ (o.map (·.2)).flatten = d.take (a * ch.toNat))
    (fun r => ∃ ps, r = some ps ∧ Pieces ch d ps ∧ ps.length ≤ 1001) (fun y => (at_.length - y.2.2.2.2.1).toNat) ?_ k _ ⟨0, 0, [], rfl, by simpa using w0, by omega, by simp, by simp, by simp⟩ (hk.lt (by simp; omega))
  rintro y next ⟨a, i, o, rfl, ha, hi, hol, hall, hflat⟩ hnext
  simp only at hnext
  unfold L41_4
  simp only
  by_cases hlt : i < at_.length
  · have d1 : decide ((i : Int) < (at_.length : Int)) = true := by simp; omega
    have d2 : decide ((0 : Int) ≤ (i : Int)) = true := by simp
    have hx := hat _ (getD_mem hlt)
    simp only [d1, d2, Bool.and_self, cond_true, Int.toNat_natCast]
    obtain ⟨x, hxe⟩ : ∃ x, at_.getD i 0 = x := ⟨_, rfl⟩
    rw [hxe] at hx
    simp only [hxe]
    have e1 : IntKind.wrap .i64 x = x := w64 (by omega) (by omega)
    have e2 : Int.tmod x 8 = x % 8 := tmod_pos hx.1
    have b1 : 0 ≤ x % 8 := by omega
    have b2 : x % 8 < 8 := by omega
    have e3 : IntKind.wrap .i64 ((a : Int) + x % 8) = ((a + (x % 8).toNat : Nat) : Int) := by rw [w64 (by omega) (by omega)]; omega
    have hw : IntKind.wrap .i64 ((i : Int) + 1) = ((i + 1 : Nat) : Int) := by rw [w64 (by omega) (by omega)]; omega
    simp only [e1, e2, e3, hw]
    by_cases hto : ((a + (x % 8).toNat : Nat) : Int) ≤ frames ch d
    · simp only [hto, decide_true, cond_true]
      obtain ⟨t1, t2⟩ := take_ok h hto
      have hc := (drop_ok t1 a).1
      rw [s97 k h a (a + (x % 8).toNat) (by omega) hto, Option.bind_some]
      rw [maxB32 (by simp; omega), cond_true]
      refine hnext _ ⟨a + (x % 8).toNat, i + 1, _, rfl, hto, by omega, by simp; omega, fun p hp => ?_, ?_⟩ (by simp only; omega)
      · rcases List.mem_append.1 hp with hp | hp
        · exact hall p hp
        · rw [List.mem_singleton.1 hp]; exact ⟨rfl, hc⟩
      · rw [List.map_append, List.flatten_append, hflat]
        simp only [List.map_cons, List.map_nil, List.flatten_cons, List.flatten_nil, List.append_nil]
        have : d.take (a * ch.toNat) = (d.take ((a + (x % 8).toNat) * ch.toNat)).take (a * ch.toNat) := by
          rw [List.take_take, Nat.min_eq_left (Nat.mul_le_mul_right _ (by omega))]
        rw [this, List.take_append_drop]
    · simp only [hto, decide_false, cond_false]
      exact hnext _ ⟨a, i + 1, o, rfl, ha, by omega, by omega, hall, hflat⟩ (by simp only; omega)
  · have d1 : decide ((i : Int) < (at_.length : Int)) = false := by simp; omega
    simp only [d1, cond_false]
    obtain ⟨nN, hnN⟩ : ∃ n : Nat, frames ch d = n := ⟨(frames ch d).toNat, by omega⟩
    rw [hnN, s97 k h a nN (by omega) (by omega), Option.bind_some]
    have htk : d.take (nN * ch.toNat) = d := by
      refine List.take_of_length_le ?_
      rw [hn, hnN, Int.toNat_natCast]
      exact Nat.le_refl _
    simp only [htk]
    rw [maxB32 (by simp; omega), cond_true]
    refine ⟨_, rfl, ⟨fun p hp => ?_, ?_, by simp⟩, by simp; omega⟩
    · rcases List.mem_append.1 hp with hp | hp
      · exact hall p hp
      · rw [List.mem_singleton.1 hp]; exact ⟨rfl, (drop_ok h a).1⟩
    · rw [List.map_append, List.flatten_append, hflat]
      simp only [List.map_cons, List.map_nil, List.flatten_cons, List.flatten_nil, List.append_nil, List.take_append_drop]

/-- A block that is converted behind n frames that have been taken. -/
theorem conv_more {ch num den adj pos frac : Int} {A x : List Int} (hA : RsOK ch num den adj pos frac A) (hx : BkOK ch x) (hpos : pos ≤ 281474976710656) {n : Int} (h0 : 0 ≤ n) (h1 : n ≤ 65536) (hn : (ph num den adj frac).need n ≤ frames ch A) (hl : frames ch A + frames ch x ≤ 65536) (hmk : (ph num den adj frac).make (frames ch A + frames ch x) < 65536) :
    ∃ O, convS ch num den adj (pos + (ph num den adj frac).gone n) ((ph num den adj frac).A n % (den * 65536)) (A.drop (goneS num den adj frac n * ch.toNat)) ch x = ((ch, O), nextR ch num den adj pos frac (A ++ x) ((ph num den adj frac).make (frames ch A + frames ch x)), 0) ∧
      outS ch num den adj frac A n ++ O = outS ch num den adj frac (A ++ x) ((ph num den adj frac).make (frames ch A + frames ch x)) ∧ n ≤ (ph num den adj frac).make (frames ch A + frames ch x) := by
  have hok := hA.p.ok
  have w0 := frames_nonneg (d := A) hA.b.c1
  have x0 := frames_nonneg (d := x) hA.b.c1
  have c1 := hA.b.c1
  have hnm : n ≤ (ph num den adj frac).make (frames ch A) := (ph num den adj frac).le_make hok h1 hn
  obtain ⟨t1, t2, t3, t4, t5⟩ := takeS_ok hA (by omega) h0 hnm
  obtain ⟨u1, u2, u3⟩ := convS_ok t2 (by omega) hx (by omega)
  have hadv : ph num den adj ((ph num den adj frac).A n % (den * 65536)) = (ph num den adj frac).adv n := rfl
  have hmake : (ph num den adj ((ph num den adj frac).A n % (den * 65536))).make (frames ch (A.drop (goneS num den adj frac n * ch.toNat)) + frames ch x) = (ph num den adj frac).make (frames ch A + frames ch x) - n := by
    rw [hadv, t3, show frames ch A - (ph num den adj frac).gone n + frames ch x = (frames ch A + frames ch x) - (ph num den adj frac).gone n by omega]
    exact (ph num den adj frac).make_adv hok w0 h0 hn (by omega) hmk
  have hnle : n ≤ (ph num den adj frac).make (frames ch A + frames ch x) := by
    have := (ph num den adj ((ph num den adj frac).A n % (den * 65536))).make_nonneg (frames ch (A.drop (goneS num den adj frac n * ch.toNat)) + frames ch x)
    omega
  have hneed := (ph num den adj frac).need_make (w := frames ch A + frames ch x) (by omega)
  have htk := takeS_ok u2 (by omega) (n := (ph num den adj frac).make (frames ch A + frames ch x) - n) (by omega) (by rw [u3, hmake]; omega)
  generalize (ph num den adj frac).make (frames ch A + frames ch x) = m at *
  obtain ⟨v1, v2, v3, v4, v5⟩ := htk
  have hgm : (ph num den adj frac).gone m = ((ph num den adj frac).adv n).gone (m - n) + (ph num den adj frac).gone n := by
    have := (ph num den adj frac).gone_adv hok n (m - n)
    rwa [show n + (m - n) = m by omega] at this
  have hfm : (ph num den adj frac).A m % (den * 65536) = ((ph num den adj frac).adv n).A (m - n) % (den * 65536) := by
    have := (ph num den adj frac).frac_adv hok n (m - n)
    rwa [show n + (m - n) = m by omega] at this
  have g'0 := ((ph num den adj frac).adv n).gone_nonneg ((ph num den adj frac).adv_ok hok n) (show 0 ≤ m - n by omega)
  have hlA := lenN hA.b
  have hgoneN : goneS num den adj frac n ≤ (frames ch A).toNat := by unfold goneS; omega
  have hGS : goneS num den adj frac m = goneS num den adj frac n + goneS num den adj ((ph num den adj frac).A n % (den * 65536)) (m - n) := by
    unfold goneS
    rw [hadv, hgm]
    omega
  have hnext : nextR ch num den adj (pos + (ph num den adj frac).gone n) ((ph num den adj frac).A n % (den * 65536)) (A.drop (goneS num den adj frac n * ch.toNat) ++ x) (m - n) = nextR ch num den adj pos frac (A ++ x) m := by
    unfold nextR
    rw [hGS, hadv, hgm, hfm, show pos + (ph num den adj frac).gone n + ((ph num den adj frac).adv n).gone (m - n) = pos + (((ph num den adj frac).adv n).gone (m - n) + (ph num den adj frac).gone n) by omega]
    have hd : (A.drop (goneS num den adj frac n * ch.toNat) ++ x).drop (goneS num den adj ((ph num den adj frac).A n % (den * 65536)) (m - n) * ch.toNat) = (A ++ x).drop ((goneS num den adj frac n + goneS num den adj ((ph num den adj frac).A n % (den * 65536)) (m - n)) * ch.toNat) := by
      have e0 : (A ++ x).drop (goneS num den adj frac n * ch.toNat) = A.drop (goneS num den adj frac n * ch.toNat) ++ x := List.drop_append_of_le_length (by rw [hlA]; exact Nat.mul_le_mul_right _ hgoneN)
      rw [← e0, List.drop_drop, Nat.add_mul]
    rw [hd]
  refine ⟨outS ch num den adj ((ph num den adj frac).A n % (den * 65536)) (A.drop (goneS num den adj frac n * ch.toNat) ++ x) (m - n), by rw [u1, hmake, v1, hnext], ?_, hnle⟩
  have hlx := lenN hx
  obtain ⟨a1, a2⟩ := append_ok hA.b hx hl
  obtain ⟨nN, rfl⟩ : ∃ nN : Nat, n = nN := ⟨n.toNat, by omega⟩
  obtain ⟨mN, hmN⟩ : ∃ mN : Nat, m - nN = mN := ⟨(m - nN).toNat, by omega⟩
  have hm : m = ((nN + mN : Nat) : Int) := by omega
  have hop := out_pieces (ph num den adj frac) hok ch.toNat A x (frames ch A).toNat (frames ch x).toNat nN mN hlA hlx (by omega) (by rw [← hm]; omega)
  unfold outS
  rw [hmN, u3, t3, a2, hm, Int.toNat_natCast, Int.toNat_natCast, Int.toNat_natCast, show (frames ch A + frames ch x).toNat = (frames ch A).toNat + (frames ch x).toNat by omega, hop]
  congr 1
  rw [hadv]
  congr 1
  omega
end Go.Proofs.Ytbfkfobfhjgphaa.Sp
