/- The laws BridgeEqual and BridgeParts, in plain words. -/
import Derived.Test.YtbfkfobfhjgphaaSpK
import Derived.Test.YtbfkfobfhjgphaaLwD
set_option linter.unusedVariables false
set_option linter.unusedSimpArgs false
namespace Go.Proofs.Ytbfkfobfhjgphaa.Sp
open Go Go.Pev Go.Snd Go.Proofs.Ytbfkfobfhjgphaa.Fn

theorem adjS_at (tgt dead gain most : Int) (hd : 0 ≤ dead) (hm : 0 ≤ most) : adjS tgt dead gain most tgt = 0 := by
  unfold adjS
  rw [if_neg (by omega), show max 0 (tgt - tgt - dead) = 0 by omega, Int.zero_mul]
  omega
theorem adjS_zero (tgt dead gain fill : Int) (hg : 0 ≤ gain) : adjS tgt dead gain 0 fill = 0 := by
  have e1 := Int.mul_nonneg (show 0 ≤ max 0 (tgt - fill - dead) by omega) hg
  have e2 := Int.mul_nonneg (show 0 ≤ max 0 (fill - tgt - dead) by omega) hg
  unfold adjS
  split <;> omega

/-- BridgeEqual -/
theorem law12 {k : Nat} (hk : Big k) (hs : f49 k () = some true) (seeds : List Int) (hseeds : ∀ x ∈ seeds, 0 ≤ x ∧ x ≤ 255) (rounds : Int) (hr : 0 ≤ rounds ∧ rounds ≤ 255) : f12 k (seeds, rounds) = some true := by
  unfold f12
  rw [hs]
  simp only [Option.bind_some, Bool.not_true, cond_false]
  obtain ⟨l, e1, hl⟩ := s22 k hseeds
  obtain ⟨r3, l3, e3, h3, a3, b3, _⟩ := s51 k hl 12
  obtain ⟨r4, l4, e4, h4, a4, b4, _⟩ := s51 k h3 40
  obtain ⟨r5, l5, e5, h5, a5, b5, _⟩ := s51 k h4 2
  obtain ⟨r6, l6, e6, h6, a6, b6, _⟩ := s51 k h5 5
  obtain ⟨r7, l7, e7, h7, a7, b7, _⟩ := s51 k h6 99
  have b3 := b3 (by omega)
  have b4 := b4 (by omega)
  have b5 := b5 (by omega)
  have b6 := b6 (by omega)
  have b7 := b7 (by omega)
  simp only [e1, e3, e4, e5, e6, e7, Option.bind_some]
  rw [w64 (x := 4 + r3) (by omega) (by omega), w64 (x := 20 + r4) (by omega) (by omega), w64 (x := 1 + r5) (by omega) (by omega), w64 (x := 1 + r7) (by omega) (by omega), w64 (x := 20 + r4 + (4 + r3)) (by omega) (by omega)]
  obtain ⟨ch, hch⟩ : ∃ ch, 1 + r5 = ch := ⟨_, rfl⟩
  obtain ⟨tgt, htgt⟩ : ∃ t, 20 + r4 = t := ⟨_, rfl⟩
  obtain ⟨blk, hblk⟩ : ∃ t, 4 + r3 = t := ⟨_, rfl⟩
  obtain ⟨gain, hgain⟩ : ∃ t, 1 + r7 = t := ⟨_, rfl⟩
  rw [hch, htgt, hblk, hgain]
  have c1 : 1 ≤ ch := by omega
  have c2 : ch ≤ 8 := by omega
  obtain ⟨n1, n2, n3⟩ := newBr_ok (cap := tgt + blk) (fill := tgt) (tgt := tgt) (dead := r6) (gain := gain) (most := 1000) c1 c2 base_one ⟨by omega, by omega, by omega, by omega, by omega, by omega, by omega, by omega⟩ (by omega) (by omega) (by omega) (by omega)
  obtain ⟨z1, z2⟩ := zeros_ok c1 c2 (show 0 ≤ tgt by omega) (by omega)
  simp only [s61 hk, n1, Option.bind_some, bne_self_eq_false, cond_false, s63 k c1 c2 (show 0 ≤ tgt by omega) (show tgt ≤ 65536 by omega)]
  obtain ⟨m1, m2, m3⟩ := u8_mod hr (show (1 : Int) ≤ 12 by omega) (by omega)
  obtain ⟨Z, hZ⟩ : ∃ Z, List.replicate (ch * tgt).toNat (0 : Int) = Z := ⟨_, rfl⟩
  simp only [hZ]
  rw [hZ] at n2 n3 z1 z2
  obtain ⟨o1, o2⟩ := nil_ok c1 c2
  refine loopC_spec (L12_12 k _ _) (fun y => ∃ (i : Nat) (pos : Int) (rest G H : List Int) (l : List Int), y = (rounds, blk, ch, (i : Int), (tgt + blk, tgt, r6, gain, 1000, ch, 1, 1, 0, pos, 0, rest, 0, 0), (ch, G), (ch, H), l) ∧ (i : Int) ≤ rounds % 12 ∧ D8 l ∧ BrOK (tgt + blk) tgt r6 gain 1000 ch 1 1 0 pos 0 rest 0 0 ∧ frames ch rest = tgt ∧ G = H ++ rest ∧ BkOK ch H ∧ frames ch H ≤ 15 * i ∧ pos ≤ 15 * i) (fun _ => some true) (fun y => (rounds % 12 - y.2.2.2.1).toNat) ?_ k _ ⟨0, 0, Z, Z, [], l7, rfl, by omega, h7, n2, n3, rfl, o1, by omega, by omega⟩ (hk.lt (by simp only; omega))
  clear e7 h7 n1 n2 n3
  rintro y next ⟨i, pos, rest, G, H, l, rfl, hi, hl, hb, hf, hG, hH, hH2, hpos⟩ hnext
  simp only at hnext
  unfold L12_12
  simp only [m1]
  by_cases hlt : (i : Int) < rounds % 12
  · have d1 : decide ((i : Int) < rounds % 12) = true := by simp only [decide_eq_true_eq]; exact hlt
    have hw : IntKind.wrap .i64 ((i : Int) + 1) = ((i + 1 : Nat) : Int) := by rw [w64 (by omega) (by omega)]; omega
    obtain ⟨d, l', e, hl', hd, hdf⟩ := s43 hk hl c1 c2 (show 0 ≤ blk by omega) (by omega)
    have hrl := hb.r.b.len_le
    have hdl := hd.len_le
    have hHl := hH.len_le
    have p0 := hb.r.p.p0
    obtain ⟨v1, v2, v3, v4, v5, v6, v7, v8, v9⟩ := pullS_ok hb (by omega) (by omega) (show 0 ≤ blk by omega) (show blk ≤ 65536 by omega) rfl rfl
    have hadj : adjS tgt r6 gain 1000 (frames ch rest) = 0 := by rw [hf]; exact adjS_at _ _ _ _ (by omega) (by omega)
    have hK : pullK tgt r6 gain 1000 ch 1 1 pos 0 rest blk = blk := by
      unfold pullK
      rw [hadj, hf, unit_make (by omega) (by omega)]
      omega
    rw [hadj, hK] at v1 v2 v3
    have hg : (ph 1 1 0 0).gone blk = blk := unit_gone blk
    have hfr : (ph 1 1 0 0).A blk % (1 * 65536) = 0 := unit_frac blk
    have hgs : goneS 1 1 0 0 blk = blk.toNat := by unfold goneS; rw [hg]
    simp only [hg, hfr, hgs, Int.sub_self, Int.zero_mul, Int.add_zero] at v1 v2
    rw [hg, hgs, hf] at v3
    have hout : outS ch 1 1 0 0 rest blk = rest.take (blk.toNat * ch.toNat) := by
      unfold outS
      exact unit_out _ _ _ (lenN hb.r.b) _ (by rw [hf]; omega)
    rw [hout, Int.toNat_zero, List.replicate_zero, List.append_nil] at v1
    obtain ⟨n, q1, q2, q3, q4⟩ := pushS_ok v2 hd (by omega)
    rw [hdf, v3] at q1
    have hn : (n : Int) = blk := by omega
    rw [v3] at q4
    rw [hdf, hn, Int.sub_self, Int.add_zero] at q2 q3
    have htk : d.take (n * ch.toNat) = d := List.take_of_length_le (by rw [lenN hd, hdf, ← hn, Int.toNat_natCast]; exact Nat.le_refl _)
    rw [htk] at q2 q3 q4
    have hrd : (rest.drop (blk.toNat * ch.toNat)).length ≤ 1000000000000 := by rw [List.length_drop]; omega
    have hTk := take_ok hb.r.b (b := blk.toNat) (by rw [hf]; omega)
    have hHT := append_ok hH hTk.1 (by rw [hTk.2]; omega)
    have htl := hTk.1.len_le
    simp only [d1, cond_true, e, Option.bind_some, s55 hk _ _ _ _ _ _ _ _ _ _ _ _ _ _ _ (show rest.length ≤ 1000000000000 by omega), v1, s52 hk _ _ _ _ _ _ _ _ _ _ _ _ _ _ _ _ hrd (show d.length ≤ 1000000000000 by omega), q2, bne_self_eq_false, cond_false, s42 k _ _ _ _ (show G.length ≤ 100000000000 by rw [hG, List.length_append]; omega) (show d.length ≤ 100000000000 by omega), s42 k _ _ _ _ (show H.length ≤ 100000000000 by omega) (show (rest.take (blk.toNat * ch.toNat)).length ≤ 100000000000 by omega), hw]
    refine hnext _ ⟨i + 1, _, _, _, _, l', rfl, by omega, hl', q3, by rw [q4]; omega, ?_, hHT.1, by rw [hHT.2, hTk.2]; omega, by omega⟩ (by simp only; omega)
    rw [hG]
    simp only [List.append_assoc]
    rw [← List.append_assoc (rest.take _), List.take_append_drop]
  · have d1 : decide ((i : Int) < rounds % 12) = false := by simp only [decide_eq_false_iff_not]; exact hlt
    have hGo := append_ok hH hb.r.b (by rw [hf]; omega)
    rw [← hG] at hGo
    have hHn := frames_nonneg (d := H) c1
    simp only [d1, cond_false]
    unfold f64
    simp only [s47' hk hH, s47' hk hGo.1, s83 hk _ _ (show H.length ≤ 1000000000000 by have := hH.len_le; omega), (bkOK_iff _ _).2 hH, Option.bind_some, cond_true]
    have d2 : decide (frames ch H ≤ frames ch G) = true := by rw [hGo.2, hf]; simp only [decide_eq_true_eq]; omega
    have h97 := s97 k hGo.1 0 (frames ch H).toNat (Nat.zero_le _) (by rw [hGo.2, hf]; omega)
    rw [show ((0 : Nat) : Int) = 0 from rfl, show (((frames ch H).toNat : Nat) : Int) = frames ch H by omega, Nat.zero_mul, List.drop_zero] at h97
    have htk : G.take ((frames ch H).toNat * ch.toNat) = H := by rw [hG, ← lenN hH]; exact List.take_left
    rw [htk] at h97
    simp only [d2, cond_true, h97, Option.bind_some]
    rw [same38 hk _ (by simp only; have := hH.len_le; omega), Option.bind_some, Option.bind_some]
theorem plain12 (x : argsI [.val false (.sl (.int .u8)), .val false (.int .u8)]) (h : WFAs _ x) : f12 fuel x = some true := by
  obtain ⟨seeds, r⟩ := x
  exact law12 big_fuel sane19 seeds (D8_of h.1) r (u8_of h.2)

/-- Two pulls give what one gives, where nothing is corrected. -/
theorem pull_parts {cap tgt dead gain ch num den adj pos frac : Int} {rest : List Int} {lost missed : Int} (h : BrOK cap tgt dead gain 0 ch num den adj pos frac rest lost missed) (hpos : pos ≤ 281474976710656) (hm : missed ≤ 100000000000000) {n m : Int} (n0 : 0 ≤ n) (m0 : 0 ≤ m) (h1 : n + m ≤ 1000) (hmk : (ph num den 0 frac).make (frames ch rest) < 65536) :
    ∃ (o1 o2 : List Int) (x1 x2 : Int) (adj1 pos1 frac1 : Int) (rest1 : List Int) (missed1 : Int) (q : BrT),
      pullS cap tgt dead gain 0 ch num den adj pos frac rest lost missed n = ((ch, o1), x1, (cap, tgt, dead, gain, 0, ch, num, den, adj1, pos1, frac1, rest1, lost, missed1), 0) ∧
      pullS cap tgt dead gain 0 ch num den adj1 pos1 frac1 rest1 lost missed1 m = ((ch, o2), x2, q, 0) ∧
      ∃ o, pullS cap tgt dead gain 0 ch num den adj pos frac rest lost missed (n + m) = ((ch, o), x1 + x2, q, 0) ∧ (x1 = 0 → o = o1 ++ o2) ∧ 0 ≤ x1 ∧ x1 ≤ n ∧ 0 ≤ x2 ∧ x2 ≤ m ∧ rest1.length ≤ rest.length ∧ o1.length ≤ 1000000 ∧ o2.length ≤ 1000000 ∧ o.length ≤ 1000000 ∧ q.2.2.2.2.2.2.2.2.2.2.2.1.length ≤ rest.length := by
  have g0 := h.c.g0
  have hmi := h.m0
  have hok := (rs_adj h.r (a := 0) (by omega) (by omega)).p.ok
  have w0 := frames_nonneg (d := rest) h.r.b.c1
  have w1 : frames ch rest ≤ 65536 := h.r.b.l
  have c1 := h.r.b.c1
  obtain ⟨v1, v2, v3, v4, v5, v6, v7, v8, v9⟩ := pullS_ok h (by omega) (by omega) n0 (show n ≤ 65536 by omega) rfl (adjS_zero tgt dead gain (frames ch rest) (by omega)).symm
  obtain ⟨K, hK⟩ : ∃ K, pullK tgt dead gain 0 ch num den pos frac rest n = K := ⟨_, rfl⟩
  rw [hK] at v1 v2 v3 v4 v5 v6 v7 v8
  have hKe : K = min ((ph num den 0 frac).make (frames ch rest)) n := by rw [← hK]; unfold pullK; rw [adjS_zero _ _ _ _ (by omega)]
  obtain ⟨y1, y2, y3, y4, y5, y6, y7, y8, y9⟩ := pullS_ok v2 (by omega) (by omega) m0 (show m ≤ 65536 by omega) rfl (adjS_zero tgt dead gain _ (by omega)).symm
  obtain ⟨K2, hK2⟩ : ∃ K2, pullK tgt dead gain 0 ch num den (pos + (ph num den 0 frac).gone K) ((ph num den 0 frac).A K % (den * 65536)) (rest.drop (goneS num den 0 frac K * ch.toNat)) m = K2 := ⟨_, rfl⟩
  rw [hK2] at y1 y2 y3 y4 y5 y6 y7 y8
  have hadv : ph num den 0 ((ph num den 0 frac).A K % (den * 65536)) = (ph num den 0 frac).adv K := rfl
  have hneedK : (ph num den 0 frac).need K ≤ frames ch rest := (ph num den 0 frac).need_of_le_make hok w0 v6 v8
  have hmake2 : ((ph num den 0 frac).adv K).make (frames ch rest - (ph num den 0 frac).gone K) = (ph num den 0 frac).make (frames ch rest) - K :=
    (ph num den 0 frac).make_adv hok w0 v6 hneedK (Int.le_refl _) hmk
  have hK2e : K2 = min ((ph num den 0 frac).make (frames ch rest) - K) m := by rw [← hK2]; unfold pullK; rw [adjS_zero _ _ _ _ (by omega), hadv, v3, hmake2]
  obtain ⟨t1, t2, t3, t4, t5, t6, t7, t8, t9⟩ := pullS_ok h (by omega) (by omega) (show 0 ≤ n + m by omega) (show n + m ≤ 65536 by omega) rfl (adjS_zero tgt dead gain (frames ch rest) (by omega)).symm
  have hM0 := (ph num den 0 frac).make_nonneg (frames ch rest)
  have hKs : pullK tgt dead gain 0 ch num den pos frac rest (n + m) = K + K2 := by
    unfold pullK; rw [adjS_zero _ _ _ _ (by omega), hKe, hK2e]; omega
  rw [hKs] at t1 t2 t3 t4 t5 t6 t7 t8
  have hg := (ph num den 0 frac).gone_adv hok K K2
  have hf := (ph num den 0 frac).frac_adv hok K K2
  have hP : (ph num den 0 frac).P = den * 65536 := rfl
  rw [hP] at hf
  have g2 := ((ph num den 0 frac).adv K).gone_nonneg ((ph num den 0 frac).adv_ok hok K) y6
  have hgs : goneS num den 0 frac (K + K2) = goneS num den 0 frac K + goneS num den 0 ((ph num den 0 frac).A K % (den * 65536)) K2 := by
    unfold goneS; rw [hg, hadv]; omega
  have hlr := h.r.b.len_le
  have hb1 := (pullS_bk v9 v6 v7 (show n ≤ 65536 by omega)).1.len_le
  have hb2 := (pullS_bk y9 y6 y7 (show m ≤ 65536 by omega)).1.len_le
  have hb3 := (pullS_bk t9 t6 t7 (show n + m ≤ 65536 by omega)).1.len_le
  have hq : (cap, tgt, dead, gain, (0 : Int), ch, num, den, (0 : Int), pos + (ph num den 0 frac).gone (K + K2), (ph num den 0 frac).A (K + K2) % (den * 65536), rest.drop (goneS num den 0 frac (K + K2) * ch.toNat), lost, missed + (n + m - (K + K2))) = (cap, tgt, dead, gain, (0 : Int), ch, num, den, (0 : Int), pos + (ph num den 0 frac).gone K + (ph num den 0 ((ph num den 0 frac).A K % (den * 65536))).gone K2, (ph num den 0 ((ph num den 0 frac).A K % (den * 65536))).A K2 % (den * 65536), (rest.drop (goneS num den 0 frac K * ch.toNat)).drop (goneS num den 0 ((ph num den 0 frac).A K % (den * 65536)) K2 * ch.toNat), lost, missed + (n - K) + (m - K2)) := by
    rw [hgs, hg, hf, hadv, List.drop_drop, Nat.add_mul]
    rw [show pos + (((ph num den 0 frac).adv K).gone K2 + (ph num den 0 frac).gone K) = pos + (ph num den 0 frac).gone K + ((ph num den 0 frac).adv K).gone K2 by omega, show missed + (n + m - (K + K2)) = missed + (n - K) + (m - K2) by omega]
  refine ⟨_, _, _, _, _, _, _, _, _, _, v1, y1, outS ch num den 0 frac rest (K + K2) ++ List.replicate ((n + m - (K + K2)) * ch).toNat 0, ?_, ?_, by omega, by omega, by omega, by omega, ?_, ?_, ?_, ?_, ?_⟩
  · rw [t1, hq, show n + m - (K + K2) = n - K + (m - K2) by omega]
  · intro hx
    have hKn : K = n := by omega
    obtain ⟨nN, hnN⟩ : ∃ nN : Nat, K = nN := ⟨K.toNat, by omega⟩
    obtain ⟨mN, hmN⟩ : ∃ mN : Nat, K2 = mN := ⟨K2.toNat, by omega⟩
    have hneedT : (ph num den 0 frac).need (K + K2) ≤ frames ch rest := (ph num den 0 frac).need_of_le_make hok w0 t6 t8
    have hop := out_pieces (ph num den 0 frac) hok ch.toNat rest [] (frames ch rest).toNat 0 nN mN (lenN h.r.b) (by simp) (by rw [← hnN]; omega) (by rw [Int.natCast_add, ← hnN, ← hmN]; omega)
    rw [List.append_nil, List.append_nil, Nat.add_zero] at hop
    have e1 : outS ch num den 0 frac rest (K + K2) = outS ch num den 0 frac rest K ++ outS ch num den 0 ((ph num den 0 frac).A K % (den * 65536)) (rest.drop (goneS num den 0 frac K * ch.toNat)) K2 := by
      unfold outS
      rw [hadv, show (K + K2).toNat = nN + mN by omega, show K.toNat = nN by omega, show K2.toNat = mN by omega, hop, v3]
      unfold goneS
      rw [hnN]
      congr 1
      congr 1
      rw [hnN] at v4 v5
      omega
    rw [e1, hx, Int.zero_mul, Int.toNat_zero, List.replicate_zero, List.append_nil, List.append_assoc, show n + m - (K + K2) = m - K2 by omega]
  · rw [List.length_drop]; omega
  · omega
  · omega
  · omega
  · simp only [List.length_drop]; omega

/-- BridgeParts -/
theorem law13 {k : Nat} (hk : Big k) (hs : f49 k () = some true) (seeds at_ : List Int) (hseeds : ∀ x ∈ seeds, 0 ≤ x ∧ x ≤ 255) (hat : ∀ x ∈ at_, 0 ≤ x ∧ x ≤ 255) (n m : Int) (hn : 0 ≤ n ∧ n ≤ 255) (hm' : 0 ≤ m ∧ m ≤ 255) : f13 k (seeds, at_, n, m) = some true := by
  unfold f13
  rw [hs]
  simp only [Option.bind_some, Bool.not_true, cond_false, gt_iff_lt]
  by_cases hal : (8 : Int) < (at_.length : Int)
  · simp [hal]
  simp only [hal, decide_false, cond_false]
  obtain ⟨l, e1, hl⟩ := s22 k hseeds
  obtain ⟨cap, tgt, dead, gain, most, ch, num, den, adj, pos, frac, rest, lost, missed, l', e2, _, hm⟩ := s50 hk hl
  have c1 := hm.ok.r.b.c1
  have c2 := hm.ok.r.b.c2
  have hb0 : BrOK cap tgt dead gain 0 ch num den adj pos frac rest lost missed := ⟨hm.ok.r, ⟨hm.ok.c.t0, hm.ok.c.t1, hm.ok.c.d0, hm.ok.c.d1, hm.ok.c.g0, hm.ok.c.g1, by omega, by omega⟩, hm.ok.c0, hm.ok.c1, hm.ok.w, hm.ok.l0, hm.ok.m0⟩
  have hrl := hb0.r.b.len_le
  have w0 := frames_nonneg (d := rest) c1
  have hw := hb0.w
  have p0 := hb0.r.p.p0
  have lo0 := hb0.l0
  have mi0 := hb0.m0
  have sm := hm.small
  have lo1 := hm.lost1
  have mi1 := hm.missed1
  have cp := hm.cap1
  obtain ⟨m1, m2, m3⟩ := u8_mod hn (show (1 : Int) ≤ 30 by omega) (by omega)
  obtain ⟨n1, n2, n3⟩ := u8_mod hn (show (1 : Int) ≤ 20 by omega) (by omega)
  obtain ⟨k1, k2, k3⟩ := u8_mod hm' (show (1 : Int) ≤ 20 by omega) (by omega)
  obtain ⟨x1, x2⟩ := wave_ok 9 c1 c2 m2 (show n % 30 ≤ 65536 by omega)
  have xl := x1.len_le
  have hxlen := x1.len
  rw [x2] at hxlen
  simp only [e1, e2, Option.bind_some, m1, s24 hk 9 ch (n % 30) (by omega) m2 (by omega)]
  obtain ⟨d, hd⟩ : ∃ d, waveL 9 ch.toNat (n % 30).toNat = d := ⟨_, rfl⟩
  simp only [hd]
  rw [hd] at x1 x2 xl hxlen
  obtain ⟨t, q1, q2, q3, q4⟩ := pushS_ok hb0 x1 (by omega)
  rw [x2] at q1 q2 q3
  obtain ⟨ps, e3, hps, hpl⟩ := s41 hk x1 at_ hat (by omega)
  simp only [s52 hk _ _ _ _ _ _ _ _ _ _ _ _ _ _ _ _ (show rest.length ≤ 1000000000000 by omega) (show d.length ≤ 1000000000000 by omega), q2, e3, Option.bind_some]
  have hflen : (((ps.map (·.2)).flatten.length : Int) = (n % 30) * ch) := by rw [hps.flat]; exact hxlen
  have hpre := pieces_prefix c1 c2 hps.all (W := n % 30) (by omega)
  obtain ⟨A, hA⟩ : ∃ A : BrT, (cap, tgt, dead, gain, (0 : Int), ch, num, den, adj, pos, frac, rest ++ d.take (t * ch.toNat), lost + (n % 30 - (t : Int)), missed) = A := ⟨_, rfl⟩
  simp only [hA]
  refine loopC_spec (L13_11 k _ _) (fun y => ∃ (i : Nat) (X : List Int) (ti : Nat), y = (n, m, n % 30 - (t : Int), 0, frames ch X - (ti : Int), ps, (ps.length : Int), (i : Int), A, (cap, tgt, dead, gain, 0, ch, num, den, adj, pos, frac, rest ++ d.take (ti * ch.toNat), lost + (frames ch X - (ti : Int)), missed)) ∧ i ≤ ps.length ∧ X = ((ps.map (·.2)).take i).flatten ∧ (ti : Int) = min (frames ch X) (cap - frames ch rest))
    (fun _ => some true) (fun y => (ps.length - y.2.2.2.2.2.2.2.1).toNat) ?_ k _ ⟨0, [], 0, ?_, by omega, by simp, ?_⟩ (hk.lt (by simp only; omega))
  · rintro y next ⟨i, X, ti, rfl, hi, hX, hti⟩ hnext
    simp only at hnext
    unfold L13_11
    simp only
    obtain ⟨pi1, pi2⟩ := hpre i hi hflen
    rw [← hX] at pi1 pi2
    have q0 := frames_nonneg (d := X) c1
    by_cases hlt : i < ps.length
    · have d1 : decide ((i : Int) < (ps.length : Int)) = true := by simp; omega
      have d2 : decide ((0 : Int) ≤ (i : Int)) = true := by simp
      have hwi : IntKind.wrap .i64 ((i : Int) + 1) = ((i + 1 : Nat) : Int) := by rw [w64 (by omega) (by omega)]; omega
      simp only [d1, d2, Bool.and_self, cond_true, Int.toNat_natCast, hwi]
      have hp := hps.all _ (getD_mem' (e := ((0 : Int), [])) hlt)
      obtain ⟨pi3, pi4⟩ := hpre (i + 1) (by omega) hflen
      have hft := flat_take hlt ((0 : Int), [])
      obtain ⟨p, hpe⟩ : ∃ p : BkT, ps.getD i ((0 : Int), []) = p := ⟨_, rfl⟩
      rw [hpe] at hp hft
      obtain ⟨pc, pd⟩ := p
      obtain ⟨hpc, hpd⟩ := hp
      simp only at hpc hpd hft
      subst hpc
      simp only [hpe]
      obtain ⟨Y, hY⟩ : ∃ Y : List Int, ((ps.map (·.2)).take (i + 1)).flatten = Y := ⟨_, rfl⟩
      rw [← hX, hY] at hft
      rw [hY] at pi3 pi4
      have hsum : frames pc X + frames pc pd = frames pc Y := by
        have z1 := pi1.len
        have z2 := hpd.len
        have z3 := pi3.len
        rw [hft, List.length_append, Int.natCast_add, z1, z2, ← Int.add_mul, ← hft] at z3
        exact Int.eq_of_mul_eq_mul_right (show pc ≠ 0 by omega) z3
      have hx0 := frames_nonneg (d := pd) c1
      -- the bridge so far
      have hY2 : ∃ R, d = Y ++ R := by
        refine ⟨((ps.map (·.2)).drop (i + 1)).flatten, ?_⟩
        rw [← hps.flat, ← hY, ← List.flatten_append, List.take_append_drop]
      obtain ⟨R, hR⟩ := hY2
      have hXl := lenN pi1
      have hpdl := lenN hpd
      have htk := take_ok x1 (b := ti) (by rw [x2]; omega)
      have hap := append_ok hb0.r.b htk.1 (by rw [htk.2]; omega)
      rw [htk.2] at hap
      have hbi : BrOK cap tgt dead gain 0 pc num den adj pos frac (rest ++ d.take (ti * pc.toNat)) (lost + (frames pc X - (ti : Int))) missed := ⟨⟨hb0.r.p, hap.1⟩, hb0.c, hb0.c0, hb0.c1, by rw [hap.2]; omega, by omega, hb0.m0⟩
      obtain ⟨v, v1, v2, v3, v4⟩ := pushS_ok hbi hpd (by omega)
      rw [hap.2] at v1
      have hil := hbi.r.b.len_le
      have hpl' := hpd.len_le
      rw [s52 hk _ _ _ _ _ _ _ _ _ _ _ _ _ _ _ _ (by omega) (by omega), v2, Option.bind_some]
      simp only [bne_self_eq_false, cond_false]
      rw [w64 (by omega) (by omega)]
      have hcat : d.take (ti * pc.toNat) ++ pd.take (v * pc.toNat) = d.take ((ti + v) * pc.toNat) := by
        by_cases hv : v = 0
        · rw [hv]; simp
        · have htx : ti = (frames pc X).toNat := by omega
          have e1 : d.take (ti * pc.toNat) = X := by rw [hR, hft, List.append_assoc, htx, ← hXl]; exact List.take_left
          have e2 : d.take ((ti + v) * pc.toNat) = X ++ (pd ++ R).take (v * pc.toNat) := by
            rw [hR, hft, List.append_assoc, Nat.add_mul, htx, ← hXl]
            rw [List.take_append, List.take_of_length_le (by omega), Nat.add_sub_cancel_left]
          rw [e1, e2, List.take_append_of_le_length]
          rw [hpdl]
          exact Nat.mul_le_mul_right _ (by omega)
      rw [List.append_assoc, hcat, show lost + (frames pc X - (ti : Int)) + (frames pc pd - (v : Int)) = lost + (frames pc Y - ((ti + v : Nat) : Int)) by omega, show frames pc X - (ti : Int) + (frames pc pd - (v : Int)) = frames pc Y - ((ti + v : Nat) : Int) by omega]
      exact hnext _ ⟨i + 1, Y, ti + v, rfl, by omega, hY.symm, by omega⟩ (by simp only; omega)
    · have : i = ps.length := by omega
      subst this
      have d1 : decide ((ps.length : Int) < (ps.length : Int)) = false := by simp
      have hXd : X = d := by rw [hX, List.take_of_length_le (by simp), hps.flat]
      subst hXd
      rw [x2] at hti ⊢
      have htt : ti = t := by omega
      subst htt
      simp only [d1, cond_false]
      subst hA
      have hsm := make_small (rs_adj q3.r (a := 0) (by omega) (by omega)).p (w := frames ch (rest ++ X.take (ti * ch.toNat))) (frames_nonneg c1) (show _ ≤ (60 : Int) by have := q3.w; omega) (show (0 : Int) ≤ 768 by omega) hm.base.r1
      obtain ⟨o1, o2, y1, y2, adj1, pos1, frac1, rest1, missed1, Q, z1, z2, o, z3, z4, z5, z6, z7, z8, z9, z10, z11, z12, z13⟩ := pull_parts q3 (by omega) (by omega) n2 k2 (by omega) (by omega)
      have hql := q3.r.b.len_le
      rw [n1, k1, w64 (x := n % 20 + m % 20) (by omega) (by omega), s55 hk _ _ _ _ _ _ _ _ _ _ _ _ _ _ _ (by omega), z3, Option.bind_some, s55 hk _ _ _ _ _ _ _ _ _ _ _ _ _ _ _ (by omega), z1, Option.bind_some]
      simp only
      rw [s55 hk _ _ _ _ _ _ _ _ _ _ _ _ _ _ _ (by omega), z2, Option.bind_some]
      simp only [beq_self_eq_true, cond_true]
      rw [same54 hk _ (by simp only; omega), Option.bind_some, w64 (by omega) (by omega)]
      simp only [beq_self_eq_true, cond_true]
      rw [same54 hk _ (by omega), Option.bind_some]
      simp only [cond_true]
      by_cases hy : 0 < y1
      · have : decide (y1 > 0) = true := by simp only [decide_eq_true_eq]; exact hy
        simp only [this, cond_true]
      · have : decide (y1 > 0) = false := by simp only [decide_eq_false_iff_not]; exact hy
        simp only [this, cond_false]
        rw [s42 k _ _ _ _ (by omega) (by omega), Option.bind_some, z4 (by omega), same38 hk _ (by simp only [List.length_append]; omega), Option.bind_some]
  · simp [(nil_ok c1 c2).2]
  · rw [(nil_ok c1 c2).2]; omega
theorem plain13 (x : argsI [.val false (.sl (.int .u8)), .val false (.sl (.int .u8)), .val false (.int .u8), .val false (.int .u8)]) (h : WFAs _ x) : f13 fuel x = some true := by
  obtain ⟨seeds, at_, n, m⟩ := x
  exact law13 big_fuel sane19 seeds at_ (D8_of h.1) (D8_of h.2.1) n m (u8_of h.2.2.1) (u8_of h.2.2.2)
end Go.Proofs.Ytbfkfobfhjgphaa.Sp
