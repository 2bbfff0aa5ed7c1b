/- What bridges do, in plain words: new bridges, one push, one pull, the bridges that are made. -/
import Derived.Test.YtbfkfobfhjgphaaSpJ
set_option linter.unusedVariables false
set_option linter.unusedSimpArgs false
namespace Go.Proofs.Ytbfkfobfhjgphaa.Sp
open Go Go.Pev Go.Snd Go.Proofs.Ytbfkfobfhjgphaa.Fn

theorem same54 {k : Nat} (hk : Big k) (b : BrT) (hd : b.2.2.2.2.2.2.2.2.2.2.2.1.length ≤ 1000000000) : f54 k (b, b) = some true := by
  obtain ⟨cap, tgt, dead, gain, most, ch, num, den, adj, pos, frac, rest, lost, missed⟩ := b
  unfold f54
  simp [same27 hk (ch, num, den, adj, pos, frac, rest) hd]

def newBr (ch num den tgt dead gain most cap fill : Int) : BrT × Int :=
  if cap < 1 ∨ 65536 < cap ∨ fill < 0 ∨ cap < fill then (zeroBr, 2)
  else if rsOK ch num den 0 0 0 [] = true ∧ ctOK tgt dead gain most = true then ((cap, tgt, dead, gain, most, ch, num, den, 0, 0, 0, List.replicate (ch * fill).toNat 0, 0, 0), 0) else (zeroBr, 1)
theorem zeros_ok {ch fill : Int} (c1 : 1 ≤ ch) (c2 : ch ≤ 8) (h0 : 0 ≤ fill) (h1 : fill ≤ 65536) : BkOK ch (List.replicate (ch * fill).toNat 0) ∧ frames ch (List.replicate (ch * fill).toNat 0) = fill := by
  have := Int.mul_nonneg (show 0 ≤ ch by omega) h0
  refine BkOK.mk' c1 c2 (by rw [List.length_replicate, Int.mul_comm fill ch]; omega) h1 ?_
  intro x hx
  rw [(List.mem_replicate.1 hx).2]
  unfold isS; omega
theorem s61 {k : Nat} (hk : Big k) (ch num den tgt dead gain most cap fill : Int) : f61 k (ch, (num, den), (tgt, dead, gain, most), cap, fill) = some (newBr ch num den tgt dead gain most cap fill) := by
  unfold f61 newBr
  simp only [gt_iff_lt]
  by_cases h1 : cap < 1
  · simp [h1, zeroBr]
  by_cases h2 : 65536 < cap
  · simp [h1, h2, zeroBr]
  by_cases h3 : fill < 0
  · simp [h1, h2, h3, zeroBr]
  by_cases h4 : cap < fill
  · simp [h1, h2, h3, h4, zeroBr]
  simp only [h1, h2, h3, h4, decide_false, cond_false, or_self, if_false, s32 hk, Option.bind_some]
  unfold newS
  cases hr : rsOK ch num den 0 0 0 [] with
  | false => simp [zeroBr]
  | true =>
    simp only [if_true, bne_self_eq_false, cond_false, s106, Option.bind_some]
    cases hc : ctOK tgt dead gain most with
    | false => simp [zeroBr]
    | true =>
      have h := (rsOK_iff _ _ _ _ _ _ _).1 hr
      have c1 := h.b.c1
      have c2 := h.b.c2
      obtain ⟨z1, z2⟩ := zeros_ok c1 c2 (show 0 ≤ fill by omega) (by omega)
      have zl := z1.len_le
      simp only [Bool.not_true, cond_false, and_self, if_true]
      rw [s108 k c1 c2 (by omega) (by omega), Option.bind_some]
      simp only
      rw [s25 hk _ _ _ _ _ _ _ _ _ (by simp) (by omega), Option.bind_some]
      have hfeed : feedS ch num den 0 0 0 [] ch (List.replicate (ch * fill).toNat 0) = ((ch, num, den, 0, 0, 0, [] ++ List.replicate (ch * fill).toNat 0), 0) := by
        unfold feedS
        rw [if_pos ⟨hr, (bkOK_iff _ _).2 z1⟩, if_pos rfl, if_neg]
        unfold frames at z2
        rw [List.length_nil]
        have : ((0 : Nat) : Int) + ((List.replicate (ch * fill).toNat (0 : Int)).length : Int) = ((List.replicate (ch * fill).toNat (0 : Int)).length : Int) := by omega
        rw [this, z2]
        omega
      rw [hfeed]
      simp only [List.nil_append]
theorem s62 {k : Nat} (hk : Big k) (ch num den tgt dead gain most cap fill : Int) : f62 k (ch, (num, den), (tgt, dead, gain, most), cap, fill) = some (newBr ch num den tgt dead gain most cap fill) := by
  unfold f62 newBr
  simp only [gt_iff_lt]
  by_cases h1 : cap < 1
  · simp [h1, zeroBr]
  by_cases h2 : 65536 < cap
  · simp [h1, h2, zeroBr]
  by_cases h3 : fill < 0
  · simp [h1, h2, h3, zeroBr]
  by_cases h4 : cap < fill
  · simp [h1, h2, h3, h4, zeroBr]
  simp only [h1, h2, h3, h4, decide_false, cond_false, or_self, if_false, s33 hk, s107, Option.bind_some]
  unfold newS
  cases hc : ctOK tgt dead gain most with
  | false => simp [zeroBr]
  | true =>
    cases hr : rsOK ch num den 0 0 0 [] with
    | false => simp [zeroBr]
    | true =>
      have h := (rsOK_iff _ _ _ _ _ _ _).1 hr
      have c1 := h.b.c1
      have c2 := h.b.c2
      obtain ⟨b1, b2⟩ := mul_bd (show 0 ≤ ch by omega) c2 (show 0 ≤ fill by omega) (show fill ≤ 65536 by omega)
      have e : IntKind.wrap .i64 (ch * fill) = ch * fill := w64 (by omega) (by omega)
      have d1 : decide (0 ≤ ch * fill) = true := by simp only [decide_eq_true_eq]; omega
      have d2 : decide (ch * fill * ((4 : Nat) : Int) ≤ (maxBytes : Int)) = true := by unfold maxBytes; simp only [decide_eq_true_eq]; omega
      simp only [Bool.not_true, cond_false, if_true, bne_self_eq_false, e, d1, d2, Int.le_refl, decide_true, Bool.and_self, cond_true, and_self]
theorem newBr_ok {ch num den tgt dead gain most cap fill : Int} (c1 : 1 ≤ ch) (c2 : ch ≤ 8) (h : BaseOK num den) (hc : CtOK tgt dead gain most) (a1 : 1 ≤ cap) (a2 : cap ≤ 65536) (f0 : 0 ≤ fill) (f1 : fill ≤ cap) :
    newBr ch num den tgt dead gain most cap fill = ((cap, tgt, dead, gain, most, ch, num, den, 0, 0, 0, List.replicate (ch * fill).toNat 0, 0, 0), 0) ∧ BrOK cap tgt dead gain most ch num den 0 0 0 (List.replicate (ch * fill).toNat 0) 0 0 ∧ frames ch (List.replicate (ch * fill).toNat 0) = fill := by
  obtain ⟨n1, n2⟩ := newS_ok c1 c2 h
  obtain ⟨z1, z2⟩ := zeros_ok c1 c2 f0 (by omega)
  refine ⟨?_, ⟨⟨n2.p, z1⟩, hc, a1, a2, by rw [z2]; exact f1, by omega, by omega⟩, z2⟩
  unfold newBr
  rw [if_neg (by omega), if_pos ⟨(rsOK_iff _ _ _ _ _ _ _).2 n2, (ctOK_iff _ _ _ _).2 hc⟩]

theorem pushS_ok {cap tgt dead gain most ch num den adj pos frac : Int} {rest : List Int} {lost missed : Int} (h : BrOK cap tgt dead gain most ch num den adj pos frac rest lost missed) {xd : List Int} (hx : BkOK ch xd) (hl : lost ≤ 1000000000000000) :
    ∃ n : Nat, (n : Int) = min (frames ch xd) (cap - frames ch rest) ∧
      pushS cap tgt dead gain most ch num den adj pos frac rest lost missed ch xd = ((cap, tgt, dead, gain, most, ch, num, den, adj, pos, frac, rest ++ xd.take (n * ch.toNat), lost + (frames ch xd - n), missed), frames ch xd - n, 0) ∧
      BrOK cap tgt dead gain most ch num den adj pos frac (rest ++ xd.take (n * ch.toNat)) (lost + (frames ch xd - n)) missed ∧ frames ch (rest ++ xd.take (n * ch.toNat)) = frames ch rest + n := by
  have w0 := frames_nonneg (d := rest) h.r.b.c1
  have x0 := frames_nonneg (d := xd) h.r.b.c1
  have x1 : frames ch xd ≤ 65536 := hx.l
  have hw := h.w
  have hc1 := h.c1
  have hl0 := h.l0
  obtain ⟨n, hn⟩ : ∃ n : Nat, min (frames ch xd) (cap - frames ch rest) = n := ⟨(min (frames ch xd) (cap - frames ch rest)).toNat, by omega⟩
  obtain ⟨g1, g2, g3⟩ := feed_take h.r hx (n := n) (by omega) (by omega)
  refine ⟨n, hn.symm, ?_, ⟨g2, h.c, h.c0, h.c1, by rw [g3]; omega, by omega, h.m0⟩, g3⟩
  unfold pushS
  rw [if_pos ⟨(brOK_iff _ _ _ _ _ _ _ _ _ _ _ _ _ _).2 h, (bkOK_iff _ _).2 hx⟩, if_pos rfl, hn, Int.toNat_natCast, w64 (by omega) (by omega)]

theorem pullK_le (tgt dead gain most ch num den pos frac : Int) (rest : List Int) (n : Int) : pullK tgt dead gain most ch num den pos frac rest n ≤ n := by unfold pullK; omega
theorem pullK_nonneg (tgt dead gain most ch num den pos frac : Int) (rest : List Int) {n : Int} (h : 0 ≤ n) : 0 ≤ pullK tgt dead gain most ch num den pos frac rest n := by
  have := (ph num den (adjS tgt dead gain most (frames ch rest)) frac).make_nonneg (frames ch rest)
  unfold pullK; omega
theorem pullS_ok {cap tgt dead gain most ch num den adj pos frac : Int} {rest : List Int} {lost missed : Int} (h : BrOK cap tgt dead gain most ch num den adj pos frac rest lost missed) (hpos : pos ≤ 562949953421312) (hm : missed ≤ 1000000000000000) {n : Int} (h0 : 0 ≤ n) (h1 : n ≤ 65536) {K a : Int} (hK : K = pullK tgt dead gain most ch num den pos frac rest n) (ha : a = adjS tgt dead gain most (frames ch rest)) :
    pullS cap tgt dead gain most ch num den adj pos frac rest lost missed n = ((ch, outS ch num den a frac rest K ++ List.replicate ((n - K) * ch).toNat 0), n - K,
      (cap, tgt, dead, gain, most, ch, num, den, a, pos + (ph num den a frac).gone K, (ph num den a frac).A K % (den * 65536), rest.drop (goneS num den a frac K * ch.toNat), lost, missed + (n - K)), 0) ∧
    BrOK cap tgt dead gain most ch num den a (pos + (ph num den a frac).gone K) ((ph num den a frac).A K % (den * 65536)) (rest.drop (goneS num den a frac K * ch.toNat)) lost (missed + (n - K)) ∧
    frames ch (rest.drop (goneS num den a frac K * ch.toNat)) = frames ch rest - (ph num den a frac).gone K ∧ 0 ≤ (ph num den a frac).gone K ∧ (ph num den a frac).gone K ≤ frames ch rest ∧ 0 ≤ K ∧ K ≤ n ∧ K ≤ (ph num den a frac).make (frames ch rest) ∧ RsOK ch num den a pos frac rest := by
  have hK0 : 0 ≤ K := by rw [hK]; exact pullK_nonneg _ _ _ _ _ _ _ _ _ _ h0
  have hK1 : K ≤ n := by rw [hK]; exact pullK_le _ _ _ _ _ _ _ _ _ _ _
  have hK2 : K ≤ (ph num den a frac).make (frames ch rest) := by rw [hK, ha]; unfold pullK; omega
  have m1 := h.c.m1
  have hmiss := h.m0
  obtain ⟨a1, a2⟩ := adjS_bd h.c (frames ch rest)
  have hp := rs_adj h.r (a := a) (by rw [ha]; omega) (by rw [ha]; omega)
  obtain ⟨t1, t2, t3, t4, t5⟩ := takeS_ok hp hpos hK0 hK2
  have hw := h.w
  refine ⟨?_, ⟨t2, h.c, h.c0, h.c1, by rw [t3]; omega, h.l0, by omega⟩, t3, t4, t5, hK0, hK1, hK2, hp⟩
  have hT : pullT tgt dead gain most ch num den pos frac rest n = ((ch, outS ch num den a frac rest K), nextR ch num den a pos frac rest K, 0) := by
    unfold pullT
    rw [← hK, ← ha]
    exact t1
  unfold pullS
  rw [if_pos ((brOK_iff _ _ _ _ _ _ _ _ _ _ _ _ _ _).2 h), if_neg (by omega), if_neg (by omega), hT, ← hK, if_pos rfl, w64 (by omega) (by omega)]
  rfl
theorem pullS_bk {ch num den a pos frac : Int} {rest : List Int} {n K : Int} (hp : RsOK ch num den a pos frac rest) (hK0 : 0 ≤ K) (hK1 : K ≤ n) (h1 : n ≤ 65536) :
    BkOK ch (outS ch num den a frac rest K ++ List.replicate ((n - K) * ch).toNat 0) ∧ frames ch (outS ch num den a frac rest K ++ List.replicate ((n - K) * ch).toNat 0) = n := by
  obtain ⟨o1, o2⟩ := out_ok hp hK0 (by omega)
  obtain ⟨z1, z2⟩ := zeros_ok hp.b.c1 hp.b.c2 (show 0 ≤ n - K by omega) (by omega)
  rw [Int.mul_comm] at z1 z2
  obtain ⟨a1, a2⟩ := append_ok o1 z1 (by omega)
  exact ⟨a1, by omega⟩

/-! ### the bridges that are made -/
structure MadeBr (cap tgt dead gain most ch num den adj pos frac : Int) (rest : List Int) (lost missed : Int) : Prop where
  ok : BrOK cap tgt dead gain most ch num den adj pos frac rest lost missed
  base : BaseOK num den
  small : pos + frames ch rest ≤ 87
  cap1 : cap ≤ 60
  lost1 : lost ≤ 87
  missed1 : missed ≤ 87
theorem most_ok {i : Int} (h0 : 0 ≤ i) (h1 : i < 3) : 0 ≤ ([(0 : Int), (100 : Int), (4096 : Int)]).getD i.toNat 0 ∧ ([(0 : Int), (100 : Int), (4096 : Int)]).getD i.toNat 0 ≤ 4096 := by
  have : i = 0 ∨ i = 1 ∨ i = 2 := by omega
  rcases this with h | h | h <;> subst h <;> decide
theorem s50 {k : Nat} (hk : Big k) {l : List Int} (h : D8 l) :
    ∃ cap tgt dead gain most ch num den adj pos frac rest lost missed l', f50 k l = some ((cap, tgt, dead, gain, most, ch, num, den, adj, pos, frac, rest, lost, missed), l') ∧ D8 l' ∧ MadeBr cap tgt dead gain most ch num den adj pos frac rest lost missed := by
  obtain ⟨r1, l1, e1, h1, a1, b1, _⟩ := s51 k h 40
  obtain ⟨r2, l2, e2, h2, a2, b2, _⟩ := s51 k h1 6
  obtain ⟨r3, l3, e3, h3, a3, b3, _⟩ := s51 k h2 60
  obtain ⟨r4, l4, e4, h4, a4, b4, _⟩ := s51 k h3 3
  obtain ⟨r5, l5, e5, h5, a5, b5, _⟩ := s51 k h4 2
  obtain ⟨num, den, l6, e6, h6, hb⟩ := s48 hk h5
  obtain ⟨r7, l7, e7, h7, a7, b7, _⟩ := s51 k h6 60
  obtain ⟨r9, l9, e9, h9, a9, b9, _⟩ := s51 k h7 4
  have b1 := b1 (by omega)
  have b2 := b2 (by omega)
  have b3 := b3 (by omega)
  have b4 := b4 (by omega)
  have b5 := b5 (by omega)
  have b7 := b7 (by omega)
  have b9 := b9 (by omega)
  obtain ⟨j1, j2⟩ := most_ok a4 b4
  unfold f50
  have d1 : decide (r4 < (([(0 : Int), (100 : Int), (4096 : Int)]).length : Int)) = true := by simp; omega
  simp only [e1, e2, e3, e4, Option.bind_some, d1, a4, decide_true, Bool.and_self, cond_true, e5, e6, e7]
  generalize ([(0 : Int), (100 : Int), (4096 : Int)]).getD r4.toNat 0 = most at *
  rw [w64 (x := 1 + r3) (by omega) (by omega), w64 (x := 1 + r5) (by omega) (by omega), w64 (x := 1 + r7) (by omega) (by omega)]
  have hct : CtOK r1 r2 (1 + r3) most := ⟨a1, by omega, a2, by omega, by omega, by omega, j1, j2⟩
  obtain ⟨n1, n2, n3⟩ := newBr_ok (ch := 1 + r5) (cap := 1 + r7) (fill := 0) (by omega) (by omega) hb hct (by omega) (by omega) (by omega) (by omega)
  simp only [s62 hk, n1, Option.bind_some, e9]
  refine loop_ex (L50_4 k (fun z15 => some z15.2)) (fun y => ∃ m z adj pos frac rest lost missed l, y = (m, z, (1 + r7, r1, r2, 1 + r3, most, 1 + r5, num, den, adj, pos, frac, rest, lost, missed), l) ∧ 0 ≤ m ∧ m ≤ 3 ∧ D8 l ∧ BrOK (1 + r7) r1 r2 (1 + r3) most (1 + r5) num den adj pos frac rest lost missed ∧ pos + frames (1 + r5) rest ≤ 87 - 29 * m ∧ lost ≤ 87 - 29 * m ∧ missed ≤ 87 - 29 * m)
    (fun o => ∃ cap tgt dead gain most ch num den adj pos frac rest lost missed l', o = some ((cap, tgt, dead, gain, most, ch, num, den, adj, pos, frac, rest, lost, missed), l') ∧ D8 l' ∧ MadeBr cap tgt dead gain most ch num den adj pos frac rest lost missed) (fun y => y.1.toNat) ?_ k _ ⟨r9, _, 0, 0, 0, _, 0, 0, l9, rfl, a9, by omega, h9, n2, by rw [n3]; omega, by omega, by omega⟩ (hk.lt (by simp only; omega))
  rintro y next ⟨m, z, adj, pos, frac, rest, lost, missed, l, rfl, m0, m1, hl, hr, hs, hlo, hmi⟩ hnext
  simp only at hnext
  unfold L50_4
  simp only [gt_iff_lt]
  by_cases hm : 0 < m
  · obtain ⟨q5, l5, e5, h5, a5', b5', _⟩ := s51 k hl 30
    have b5' := b5' (by omega)
    obtain ⟨q6, l6, e6, h6, a6, b6, _⟩ := s51 k h5 12
    have b6 := b6 (by omega)
    obtain ⟨w1, w2⟩ := wave_ok m (ch := 1 + r5) (by omega) (by omega) a5' (by omega)
    have hlen := hr.r.b.len_le
    have wl := w1.len_le
    have hw : IntKind.wrap .i64 (m - 1) = m - 1 := w64 (by omega) (by omega)
    have q0 := frames_nonneg (d := rest) hr.r.b.c1
    have p0 := hr.r.p.p0
    have lo0 := hr.l0
    have mi0 := hr.m0
    obtain ⟨n, p1, p2, p3, p4⟩ := pushS_ok hr w1 (by omega)
    have hlen2 := p3.r.b.len_le
    obtain ⟨v1, v2, v3, v4, v5, v6, v7, v8, v9⟩ := pullS_ok p3 (by omega) (by omega) a6 (by omega) rfl rfl
    simp only [hm, decide_true, cond_true, e5, s24 hk m (1 + r5) q5 (by omega) a5' (by omega), s53 hk _ _ _ _ _ _ _ _ _ _ _ _ _ _ _ _ (show rest.length ≤ 1000000000000 by omega) (show (waveL m (1 + r5).toNat q5.toNat).length ≤ 1000000000000 by omega), Option.bind_some, p2, e6, s56 hk _ _ _ _ _ _ _ _ _ _ _ _ _ _ _ (show (rest ++ (waveL m (1 + r5).toNat q5.toNat).take (n * (1 + r5).toNat)).length ≤ 1000000000000 by omega), v1, beq_self_eq_true, hw]
    exact hnext _ ⟨m - 1, z, _, _, _, _, _, _, l6, rfl, by omega, by omega, h6, v2, by rw [v3]; omega, by omega, by omega⟩ (by simp only; omega)
  · simp only [hm, decide_false, cond_false]
    exact ⟨_, _, _, _, _, _, _, _, _, _, _, _, _, _, l, rfl, hl, hr, hb, by omega, by omega, by omega, by omega⟩

theorem sane19 : f49 1099511627776 () = some true := by kernel_rfl
end Go.Proofs.Ytbfkfobfhjgphaa.Sp
