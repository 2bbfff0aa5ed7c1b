/- Resamplers: what stays valid, and the resamplers that are made. -/
import Derived.Test.YtbfkfobfhjgphaaSpF
set_option linter.unusedVariables false
set_option linter.unusedSimpArgs false
namespace Go.Proofs.Ytbfkfobfhjgphaa.Sp
open Go Go.Pev Go.Snd Go.Proofs.Ytbfkfobfhjgphaa.Fn

theorem frames_mul {ch : Int} (hc : 1 ≤ ch) {d : List Int} {w : Int} (h : (d.length : Int) = w * ch) : frames ch d = w := by
  unfold frames
  rw [h, Int.mul_ediv_cancel _ (by omega)]
theorem BkOK.mk' {ch : Int} (c1 : 1 ≤ ch) (c2 : ch ≤ 8) {d : List Int} {w : Int} (h : (d.length : Int) = w * ch) (hw : w ≤ 65536) (hs : ∀ x ∈ d, isS x) : BkOK ch d ∧ frames ch d = w := by
  have hf := frames_mul c1 h
  refine ⟨⟨c1, c2, by rw [h, Int.mul_emod_left], ?_, hs⟩, hf⟩
  show frames ch d ≤ _
  omega
theorem lenN {ch : Int} {d : List Int} (h : BkOK ch d) : d.length = (frames ch d).toNat * ch.toNat := by
  have h1 := h.len
  have h2 := frames_nonneg (d := d) h.c1
  have c1 := h.c1
  have : ((d.length : Nat) : Int) = (((frames ch d).toNat * ch.toNat : Nat) : Int) := by
    rw [h1, Int.natCast_mul]; congr 1 <;> omega
  omega
theorem drop_ok {ch : Int} {d : List Int} (h : BkOK ch d) (g : Nat) : BkOK ch (d.drop (g * ch.toNat)) ∧ frames ch (d.drop (g * ch.toNat)) = max 0 (frames ch d - g) := by
  have h1 := lenN h
  have h2 := frames_nonneg (d := d) h.c1
  have c1 := h.c1
  have hl : frames ch d ≤ 65536 := h.l
  have hs : ∀ x ∈ d.drop (g * ch.toNat), isS x := fun x hx => h.s x (List.mem_of_mem_drop hx)
  refine BkOK.mk' h.c1 h.c2 ?_ (by omega) hs
  rw [List.length_drop, h1]
  by_cases hg : (g : Int) ≤ frames ch d
  · have e : (frames ch d).toNat * ch.toNat - g * ch.toNat = ((frames ch d).toNat - g) * ch.toNat := by rw [Nat.sub_mul]
    rw [e, show max 0 (frames ch d - g) = frames ch d - g by omega, Int.natCast_mul]
    congr 1 <;> omega
  · have : (frames ch d).toNat * ch.toNat ≤ g * ch.toNat := Nat.mul_le_mul_right _ (by omega)
    rw [show max 0 (frames ch d - g) = 0 by omega, Nat.sub_eq_zero_of_le this]
    simp
theorem append_ok {ch : Int} {a b : List Int} (ha : BkOK ch a) (hb : BkOK ch b) (hl : frames ch a + frames ch b ≤ 65536) : BkOK ch (a ++ b) ∧ frames ch (a ++ b) = frames ch a + frames ch b := by
  refine BkOK.mk' ha.c1 ha.c2 ?_ hl fun x hx => ?_
  · rw [List.length_append, Int.natCast_add, ha.len, hb.len, Int.add_mul]
  · rcases List.mem_append.1 hx with hx | hx
    · exact ha.s x hx
    · exact hb.s x hx
theorem nil_ok {ch : Int} (c1 : 1 ≤ ch) (c2 : ch ≤ 8) : BkOK ch [] ∧ frames ch [] = 0 := BkOK.mk' c1 c2 (by simp) (by omega) (by simp)
theorem out_ok {ch num den adj pos frac : Int} {rest : List Int} (h : RsOK ch num den adj pos frac rest) {n : Int} (h0 : 0 ≤ n) (h1 : n ≤ 65536) : BkOK ch (outS ch num den adj frac rest n) ∧ frames ch (outS ch num den adj frac rest n) = n := by
  refine BkOK.mk' h.b.c1 h.b.c2 ?_ h1 (out_isS _ h.p.ok _ _ h.b.s _ _)
  unfold outS
  rw [out_length, Int.natCast_mul]
  have := h.b.c1
  congr 1 <;> omega

/-- what is produced, when the position stays in range -/
theorem prodS_ok {ch num den adj pos frac : Int} {rest : List Int} (h : RsOK ch num den adj pos frac rest) {n : Int} (h0 : 0 ≤ n) (h1 : n ≤ 65536) (hp : pos + (ph num den adj frac).gone n ≤ 1125899906842624) :
    prodS ch num den adj pos frac rest n = ((ch, outS ch num den adj frac rest n), (ch, num, den, adj, pos + (ph num den adj frac).gone n, (ph num den adj frac).A n % (den * 65536), rest.drop (goneS num den adj frac n * ch.toNat)), 0) ∧
    RsOK ch num den adj (pos + (ph num den adj frac).gone n) ((ph num den adj frac).A n % (den * 65536)) (rest.drop (goneS num den adj frac n * ch.toNat)) ∧
    frames ch (rest.drop (goneS num den adj frac n * ch.toNat)) = max 0 (frames ch rest - (ph num den adj frac).gone n) := by
  have hck : checkS (phOK num den adj pos frac) n = 0 := (checkS_zero _ _).2 ⟨(phOK_iff _ _ _ _ _).2 h.p, h0, h1⟩
  have hadv : (advS num den adj pos frac n).2 = 0 := by unfold advS; rw [if_pos hck, if_neg (by omega)]
  obtain ⟨g1, g2⟩ := gone_bd h.p h0 h1
  obtain ⟨d1, d2⟩ := drop_ok h.b (goneS num den adj frac n)
  have hPpos : 0 < den * 65536 := by have := h.p.d1; omega
  have hf0 := Int.emod_nonneg ((ph num den adj frac).A n) (Int.ne_of_gt hPpos)
  have hf1 := Int.emod_lt_of_pos ((ph num den adj frac).A n) hPpos
  refine ⟨by unfold prodS; rw [if_pos hadv], ⟨⟨h.p.n1, h.p.d1, h.p.n2, h.p.d2, h.p.g, h.p.a1, h.p.a2, ?_, hp, hf0, hf1⟩, d1⟩, ?_⟩
  · have := h.p.p0; omega
  · rw [d2]
    unfold goneS
    congr 2
    omega
theorem prodS_bad {ch num den adj pos frac : Int} {rest : List Int} (h : RsOK ch num den adj pos frac rest) {n : Int} (h0 : 0 ≤ n) (h1 : n ≤ 65536) (hp : ¬ pos + (ph num den adj frac).gone n ≤ 1125899906842624) :
    prodS ch num den adj pos frac rest n = (zeroB, zeroR, 2) := by
  have hck : checkS (phOK num den adj pos frac) n = 0 := (checkS_zero _ _).2 ⟨(phOK_iff _ _ _ _ _).2 h.p, h0, h1⟩
  have hadv : (advS num den adj pos frac n).2 = 2 := by unfold advS; rw [if_pos hck, if_pos (by omega)]
  unfold prodS
  rw [hadv]
  simp [zeroB, zeroR]
/-- the next resampler behind n frames -/
def nextR (ch num den adj pos frac : Int) (rest : List Int) (n : Int) : RsT :=
  (ch, num, den, adj, pos + (ph num den adj frac).gone n, (ph num den adj frac).A n % (den * 65536), rest.drop (goneS num den adj frac n * ch.toNat))
/-- taking what can be taken -/
theorem takeS_ok {ch num den adj pos frac : Int} {rest : List Int} (h : RsOK ch num den adj pos frac rest) (hpos : pos ≤ 562949953421312) {n : Int} (h0 : 0 ≤ n) (h1 : n ≤ (ph num den adj frac).make (frames ch rest)) :
    takeS ch num den adj pos frac rest n = ((ch, outS ch num den adj frac rest n), nextR ch num den adj pos frac rest n, 0) ∧
    RsOK ch num den adj (pos + (ph num den adj frac).gone n) ((ph num den adj frac).A n % (den * 65536)) (rest.drop (goneS num den adj frac n * ch.toNat)) ∧
    frames ch (rest.drop (goneS num den adj frac n * ch.toNat)) = frames ch rest - (ph num den adj frac).gone n ∧ 0 ≤ (ph num den adj frac).gone n ∧ (ph num den adj frac).gone n ≤ frames ch rest := by
  have hm := (ph num den adj frac).make_le (frames ch rest)
  have w0 := frames_nonneg (d := rest) h.b.c1
  have w1 : frames ch rest ≤ 65536 := h.b.l
  have hneed := (ph num den adj frac).need_of_le_make h.p.ok w0 h0 h1
  have hg := (ph num den adj frac).gone_le_need h.p.ok h0
  have hg0 := (ph num den adj frac).gone_nonneg h.p.ok h0
  obtain ⟨e1, e2, e3⟩ := prodS_ok h h0 (by omega) (by omega)
  have hck : checkS (rsOK ch num den adj pos frac rest) n = 0 := (checkS_zero _ _).2 ⟨(rsOK_iff _ _ _ _ _ _ _).2 h, h0, by omega⟩
  refine ⟨?_, e2, by rw [e3]; omega, hg0, by omega⟩
  unfold takeS
  rw [if_pos hck, if_neg (by omega), e1]
  rfl
/-- converting a block -/
theorem convS_ok {ch num den adj pos frac : Int} {rest : List Int} (h : RsOK ch num den adj pos frac rest) (hpos : pos ≤ 562949953421312) {d : List Int} (hd : BkOK ch d) (hl : frames ch rest + frames ch d ≤ 65536) :
    convS ch num den adj pos frac rest ch d = takeS ch num den adj pos frac (rest ++ d) ((ph num den adj frac).make (frames ch rest + frames ch d)) ∧ RsOK ch num den adj pos frac (rest ++ d) ∧ frames ch (rest ++ d) = frames ch rest + frames ch d := by
  obtain ⟨a1, a2⟩ := append_ok h.b hd hl
  have hfeed : feedS ch num den adj pos frac rest ch d = ((ch, num, den, adj, pos, frac, rest ++ d), 0) := by
    unfold feedS
    rw [if_pos ⟨(rsOK_iff _ _ _ _ _ _ _).2 h, (bkOK_iff _ _).2 hd⟩, if_pos rfl, if_neg]
    have : ((rest.length : Int) + d.length) / ch = frames ch (rest ++ d) := by unfold frames; rw [List.length_append, Int.natCast_add]
    omega
  refine ⟨?_, ⟨h.p, a1⟩, a2⟩
  unfold convS
  rw [hfeed, if_pos rfl, a2]

/-! ### the resamplers that are made -/
structure MadeR (ch num den adj pos frac : Int) (rest : List Int) : Prop where
  ok : RsOK ch num den adj pos frac rest
  base : BaseOK num den
  small : pos + frames ch rest ≤ 22
theorem newS_ok {ch num den : Int} (c1 : 1 ≤ ch) (c2 : ch ≤ 8) (h : BaseOK num den) : newS ch num den = ((ch, num, den, 0, 0, 0, []), 0) ∧ RsOK ch num den 0 0 0 [] := by
  have hd1 := h.d1
  have : RsOK ch num den 0 0 0 [] := ⟨⟨h.n1, h.d1, h.n2, h.d2, h.g, by omega, by omega, by omega, by omega, by omega, by omega⟩, (nil_ok c1 c2).1⟩
  exact ⟨by unfold newS; rw [if_pos ((rsOK_iff _ _ _ _ _ _ _).2 this)], this⟩
theorem rs_adj {ch num den adj pos frac : Int} {rest : List Int} (h : RsOK ch num den adj pos frac rest) {a : Int} (a1 : -4096 ≤ a) (a2 : a ≤ 4096) : RsOK ch num den a pos frac rest :=
  ⟨⟨h.p.n1, h.p.d1, h.p.n2, h.p.d2, h.p.g, a1, a2, h.p.p0, h.p.p1, h.p.f0, h.p.f1⟩, h.b⟩
theorem adjs_ok {i : Int} (h0 : 0 ≤ i) (h1 : i < 6) : -4096 ≤ ([(0 : Int), (0 : Int), (5 : Int), (-5 : Int), (4096 : Int), (-4096 : Int)]).getD i.toNat 0 ∧ ([(0 : Int), (0 : Int), (5 : Int), (-5 : Int), (4096 : Int), (-4096 : Int)]).getD i.toNat 0 ≤ 4096 := by
  obtain ⟨n, rfl⟩ : ∃ n : Nat, i = n := ⟨i.toNat, by omega⟩
  rw [Int.toNat_natCast]
  match n, h1 with
  | 0, _ | 1, _ | 2, _ | 3, _ | 4, _ | 5, _ => simp
  | n + 6, h => omega
theorem loop_ex {S R : Type} (f : S → (S → Option R) → Option R) (Inv : S → Prop) (Q : Option R → Prop) (μ : S → Nat)
    (h : ∀ s next, Inv s → (∀ s', Inv s' → μ s' < μ s → Q (next s')) → Q (f s next)) : ∀ n s, Inv s → μ s < n → Q (loopC n f s)
  | 0, s, _, hμ => absurd hμ (Nat.not_lt_zero _)
  | n + 1, s, hs, hμ => h s (loopC n f) hs fun s' hs' hμ' => loop_ex f Inv Q μ h n s' hs' (by omega)
theorem s80 {k : Nat} (hk : Big k) {l : List Int} (h : D8 l) {ch : Int} (c1 : 1 ≤ ch) (c2 : ch ≤ 8) :
    ∃ num den adj pos frac rest l', f80 k (l, ch) = some ((ch, num, den, adj, pos, frac, rest), l') ∧ D8 l' ∧ MadeR ch num den adj pos frac rest := by
  obtain ⟨num, den, l1, e1, h1, hb⟩ := s48 hk h
  obtain ⟨n1, n2⟩ := newS_ok c1 c2 hb
  obtain ⟨r3, l3, e3, h3, a3, b3, _⟩ := s51 k h1 6
  obtain ⟨r4, l4, e4, h4, a4, b4, _⟩ := s51 k h3 3
  have b3 := b3 (by omega)
  have b4 := b4 (by omega)
  obtain ⟨j1, j2⟩ := adjs_ok a3 b3
  unfold f80
  have d1 : decide (r3 < (([(0 : Int), (0 : Int), (5 : Int), (-5 : Int), (4096 : Int), (-4096 : Int)]).length : Int)) = true := by simp; omega
  simp only [e1, s33 hk, n1, e3, e4, Option.bind_some, d1, a3, decide_true, Bool.and_self, cond_true]
  generalize ([(0 : Int), (0 : Int), (5 : Int), (-5 : Int), (4096 : Int), (-4096 : Int)]).getD r3.toNat 0 = adj at *
  refine loop_ex (L80_4 k (fun z8 => some z8.2)) (fun y => ∃ m pos frac rest l, y = (ch, m, (0, 0, 0, 0, 0, 0), (ch, num, den, adj, pos, frac, rest), l) ∧ 0 ≤ m ∧ m ≤ 2 ∧ D8 l ∧ RsOK ch num den adj pos frac rest ∧ pos + frames ch rest ≤ 22 - 11 * m)
    (fun o => ∃ num den adj pos frac rest l', o = some ((ch, num, den, adj, pos, frac, rest), l') ∧ D8 l' ∧ MadeR ch num den adj pos frac rest) (fun y => y.2.1.toNat) ?_ k _ ⟨r4, 0, 0, [], l4, rfl, a4, by omega, h4, rs_adj n2 j1 j2, by rw [(nil_ok c1 c2).2]; omega⟩ (hk.lt (by simp only; omega))
  rintro y next ⟨m, pos, frac, rest, l, rfl, m0, m1, hl, hr, hs⟩ hnext
  simp only at hnext
  unfold L80_4
  simp only [gt_iff_lt]
  by_cases hm : 0 < m
  · obtain ⟨r5, l5, e5, h5, a5, b5, _⟩ := s51 k hl 12
    have b5 := b5 (by omega)
    obtain ⟨w1, w2⟩ := wave_ok m c1 c2 a5 (by omega)
    have hlen := rs_len ((rsOK_iff _ _ _ _ _ _ _).2 hr)
    have wl := w1.len_le
    have hw : IntKind.wrap .i64 (m - 1) = m - 1 := w64 (by omega) (by omega)
    have q0 := frames_nonneg (d := rest) c1
    have p0 := hr.p.p0
    obtain ⟨v1, v2, v3⟩ := convS_ok hr (by omega) w1 (by omega)
    have v4 := v3 ▸ takeS_ok v2 (by omega) ((ph num den adj frac).make_nonneg (frames ch (rest ++ waveL m ch.toNat r5.toNat))) (Int.le_refl _)
    obtain ⟨v4, v5, v6, v7, v8⟩ := v4
    simp only [hm, decide_true, cond_true, e5, s24 hk m ch r5 (by omega) a5 (by omega), s40 hk _ _ _ _ _ _ _ _ _ (show rest.length ≤ 100000000000 by omega) (show (waveL m ch.toNat r5.toNat).length ≤ 100000000000 by omega), Option.bind_some, hw, v1, v4, beq_self_eq_true]
    exact hnext _ ⟨m - 1, _, _, _, l5, rfl, by omega, by omega, h5, v5, by rw [v6]; omega⟩ (by simp only; omega)
  · simp only [hm, decide_false, cond_false]
    exact ⟨num, den, adj, pos, frac, rest, l, rfl, hl, hr, hb, by omega⟩
theorem s23 {k : Nat} (hk : Big k) {l : List Int} (h : D8 l) :
    ∃ ch num den adj pos frac rest l', f23 k l = some ((ch, num, den, adj, pos, frac, rest), l') ∧ D8 l' ∧ MadeR ch num den adj pos frac rest ∧ ch ≤ 2 := by
  obtain ⟨r1, l1, e1, h1, a1, b1, _⟩ := s51 k h 2
  have b1 := b1 (by omega)
  have hw : IntKind.wrap .i64 (1 + r1) = 1 + r1 := w64 (by omega) (by omega)
  obtain ⟨num, den, adj, pos, frac, rest, l2, e2, h2, h3⟩ := s80 hk h1 (ch := 1 + r1) (by omega) (by omega)
  refine ⟨1 + r1, num, den, adj, pos, frac, rest, l2, ?_, h2, h3, by omega⟩
  unfold f23
  simp only [e1, Option.bind_some, hw, e2]
end Go.Proofs.Ytbfkfobfhjgphaa.Sp
