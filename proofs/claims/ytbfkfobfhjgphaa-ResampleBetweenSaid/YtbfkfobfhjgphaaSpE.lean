/- What the reference's resampler does, in plain words: the same as the program's. Comparisons of blocks and resamplers. -/
import Derived.Test.YtbfkfobfhjgphaaSpD
set_option linter.unusedVariables false
set_option linter.unusedSimpArgs false
namespace Go.Proofs.Ytbfkfobfhjgphaa.Sp
open Go Go.Pev Go.Snd Go.Proofs.Ytbfkfobfhjgphaa.Fn

def passS (ch num den adj pos frac : Int) (rest : List Int) (n : Int) : RsT × Int :=
  if (advS num den adj pos frac n).2 = 0 then
    ((ch, num, den, adj, pos + (ph num den adj frac).gone n, (ph num den adj frac).A n % (den * 65536), rest.drop (goneS num den adj frac n * ch.toNat)), 0)
  else (zeroR, (advS num den adj pos frac n).2)
theorem advS_eq {num den adj pos frac n : Int} (h : PhOK num den adj pos frac) (h0 : 0 ≤ n) (h1 : n ≤ 65536) (he : (advS num den adj pos frac n).2 = 0) :
    advS num den adj pos frac n = ((num, den, adj, pos + (ph num den adj frac).gone n, (ph num den adj frac).A n % (den * 65536)), 0) := by
  have hck : checkS (phOK num den adj pos frac) n = 0 := (checkS_zero _ _).2 ⟨(phOK_iff _ _ _ _ _).2 h, h0, h1⟩
  unfold advS at he ⊢
  rw [if_pos hck] at he ⊢
  split
  · rename_i hh; rw [if_pos hh] at he; simp at he
  · rfl
theorem s94 {k : Nat} (hk : Big k) {ch num den adj pos frac : Int} {rest : List Int} (h : RsOK ch num den adj pos frac rest) {n : Int} (h0 : 0 ≤ n) (h1 : n ≤ 65536) : f94 k ((ch, num, den, adj, pos, frac, rest), n) = some (passS ch num den adj pos frac rest n) := by
  unfold f94 passS
  simp only [s144 hk, Option.bind_some]
  by_cases he : (advS num den adj pos frac n).2 = 0
  · have hl := rs_len ((rsOK_iff _ _ _ _ _ _ _).2 h)
    have hw : waiting ch num den adj pos frac rest = frames ch rest := by unfold waiting; rw [if_pos ((rsOK_iff _ _ _ _ _ _ _).2 h)]
    have c1 := h.b.c1
    have c2 := h.b.c2
    obtain ⟨g1, g2⟩ := gone_bd h.p h0 h1
    have w0 := frames_nonneg (d := rest) h.b.c1
    have w1 : frames ch rest ≤ 65536 := h.b.l
    have hlen := h.b.len
    have p0 := h.p.p0
    have p1 := h.p.p1
    rw [advS_eq h.p h0 h1 he]
    have e3 : pos + (ph num den adj frac).gone n - pos = (ph num den adj frac).gone n := by omega
    have e4 : IntKind.wrap .i64 ((ph num den adj frac).gone n) = (ph num den adj frac).gone n := w64 (by omega) (by omega)
    simp only [bne_self_eq_false, cond_false, if_true, s31 hk _ _ _ _ _ _ _ (show rest.length ≤ 1000000000000 by omega), hw, Option.bind_some, e3, e4]
    obtain ⟨cN, rfl⟩ : ∃ cN : Nat, ch = cN := ⟨ch.toNat, by omega⟩
    obtain ⟨G, hG⟩ : ∃ G : Nat, (ph num den adj frac).gone n = G := ⟨((ph num den adj frac).gone n).toNat, by omega⟩
    obtain ⟨wN, hwN⟩ : ∃ wN : Nat, frames cN rest = wN := ⟨(frames cN rest).toNat, by omega⟩
    have hg : goneS num den adj frac n = G := by unfold goneS; rw [hG]; omega
    rw [hwN] at hlen w1
    have hr : rest.length = wN * cN := by
      have : ((rest.length : Nat) : Int) = ((wN * cN : Nat) : Int) := by rw [hlen]; simp
      omega
    simp only [hG, hwN, hg]
    have hmin : (if (wN : Int) < (G : Int) then (wN : Int) else (G : Int)) = ((min G wN : Nat) : Int) := by split <;> omega
    have hm1 : min G wN * cN ≤ wN * cN := Nat.mul_le_mul_right _ (by omega)
    have e5 : IntKind.wrap .i64 (((min G wN : Nat) : Int) * (cN : Int)) = ((min G wN * cN : Nat) : Int) := by
      rw [← Int.natCast_mul]
      exact w64 (by omega) (by omega)
    simp only [hmin, e5]
    have d1 : decide ((0 : Int) ≤ ((min G wN * cN : Nat) : Int)) = true := by simp only [decide_eq_true_eq]; omega
    have d2 : decide (((min G wN * cN : Nat) : Int) ≤ (rest.length : Int)) = true := by simp only [decide_eq_true_eq]; omega
    have htk : rest.take ((rest.length : Int)).toNat = rest := List.take_of_length_le (by omega)
    have hdr : rest.drop ((min G wN * cN : Nat) : Int).toNat = rest.drop (G * cN) := by
      rw [Int.toNat_natCast]
      rcases Nat.lt_or_ge wN G with hh | hh
      · have := Nat.mul_le_mul_right cN (show wN ≤ G by omega)
        rw [show min G wN = wN by omega, List.drop_of_length_le (by omega), List.drop_of_length_le (by omega)]
      · rw [show min G wN = G by omega]
    simp only [d1, d2, Bool.and_self, Int.le_refl, decide_true, cond_true, htk, hdr]
    rw [maxB (by simp; omega), cond_true]
    simp
  · have : ((advS num den adj pos frac n).2 != 0) = true := by simpa using he
    rw [if_neg he]
    simp only [this, cond_true]
    rfl

theorem inner95 {k : Nat} (hk : Big k) {R : Type} (K0 : (Int × Int × Int × (Int × Int × Int × Int × Int × Int × List (Int)) × Int × Int × List (Int)) → Option R) {cN : Nat} {num den adj pos frac : Int} {rest : List Int} (h : RsOK cN num den adj pos frac rest) {wN : Nat} (hr : rest.length = wN * cN)
    {f : Int} (hf : 0 ≤ f) (hf' : f ≤ den * 65536) (j1 j2 : Nat) (hj1 : j1 < wN) (hj2 : j2 < wN) (n w i : Int) (z c : Int) (data : List Int) (hd : data.length ≤ 100000000000) :
    loopC k (L95_10 k K0) (n, w, i, f, (j1 : Int) * cN, (j2 : Int) * cN, 0, ((cN : Int), num, den, adj, pos, frac, rest), z, c, data) =
      K0 (n, w, i, ((cN : Int), num, den, adj, pos, frac, rest), z, c, data ++ (List.range cN).map fun m => ip (smp cN rest j1 m) (smp cN rest j2 m) f (den * 65536)) := by
  have hlen := rs_len ((rsOK_iff _ _ _ _ _ _ _).2 h)
  have c1 := h.b.c1
  have c2 := h.b.c2
  have hPpos : 0 < den * 65536 := by have := h.p.d1; omega
  have hPle : den * 65536 ≤ 50331648000 := by have := h.p.d2; omega
  have hend : ∀ j m, j < wN → m < cN → j * cN + m < rest.length := by
    intro j m hj hm
    rw [hr]
    calc j * cN + m < j * cN + cN := by omega
      _ = (j + 1) * cN := by rw [Nat.add_mul, Nat.one_mul]
      _ ≤ wN * cN := Nat.mul_le_mul_right _ hj
  refine (loopC_spec (L95_10 k K0) (fun y => ∃ m : Nat, ∃ e : List Int, y = (n, w, i, f, (j1 : Int) * cN, (j2 : Int) * cN, (m : Int), ((cN : Int), num, den, adj, pos, frac, rest), z, c, e) ∧ m ≤ cN ∧ e.length ≤ 100000000000 + m)
    (fun y => K0 (n, w, i, ((cN : Int), num, den, adj, pos, frac, rest), z, c, y.2.2.2.2.2.2.2.2.2.2 ++ (List.range' y.2.2.2.2.2.2.1.toNat (cN - y.2.2.2.2.2.2.1.toNat)).map fun m => ip (smp cN rest j1 m) (smp cN rest j2 m) f (den * 65536))) (fun y => (cN - y.2.2.2.2.2.2.1).toNat) ?_ k _ ⟨0, data, rfl, Nat.zero_le _, by omega⟩ (hk.lt (by simp; omega))).trans (by simp [List.range_eq_range'])
  rintro y next ⟨m, e, rfl, hm, he⟩ hn
  simp only at hn
  have em : ((m : Int)).toNat = m := by omega
  unfold L95_10
  simp only [em]
  by_cases hlt : m < cN
  · have x1 := hend j1 m hj1 hlt
    have x2 := hend j2 m hj2 hlt
    have e1 : IntKind.wrap .i64 ((j1 : Int) * cN + m) = ((j1 * cN + m : Nat) : Int) := by
      rw [show (j1 : Int) * cN + m = ((j1 * cN + m : Nat) : Int) by simp]
      exact w64 (by omega) (by omega)
    have e2 : IntKind.wrap .i64 ((j2 : Int) * cN + m) = ((j2 * cN + m : Nat) : Int) := by
      rw [show (j2 : Int) * cN + m = ((j2 * cN + m : Nat) : Int) by simp]
      exact w64 (by omega) (by omega)
    have d1 : decide ((m : Int) < (cN : Int)) = true := by simp; omega
    have d2 : decide ((0 : Int) ≤ ((j1 * cN + m : Nat) : Int)) = true := by simp only [decide_eq_true_eq]; omega
    have d3 : decide (((j1 * cN + m : Nat) : Int) < (rest.length : Int)) = true := by simp only [decide_eq_true_eq]; omega
    have d4 : decide ((0 : Int) ≤ ((j2 * cN + m : Nat) : Int)) = true := by simp only [decide_eq_true_eq]; omega
    have d5 : decide (((j2 * cN + m : Nat) : Int) < (rest.length : Int)) = true := by simp only [decide_eq_true_eq]; omega
    have hw : IntKind.wrap .i64 ((m : Int) + 1) = ((m + 1 : Nat) : Int) := by rw [w64 (by omega) (by omega)]; omega
    simp only [d1, e1, e2, d2, d3, d4, d5, cond_true, Bool.and_self, s100 k _ _ _ _ _ h.p.d1 h.p.d2, Option.bind_some, Int.toNat_natCast, hw]
    rw [s145 k (h.b.s _ (getD_mem x1)) (h.b.s _ (getD_mem x2)) hPpos hPle hf hf', Option.bind_some, maxB (by simp; omega), cond_true]
    rw [hn _ ⟨m + 1, _, rfl, by omega, by simp; omega⟩ (by simp only; omega)]
    have em' : (((m + 1 : Nat) : Int)).toNat = m + 1 := by omega
    simp only [em']
    rw [show cN - m = (cN - (m + 1)) + 1 by omega, List.range'_succ, List.map_cons, List.append_assoc]
    rfl
  · have : m = cN := by omega
    subst this
    have d1 : decide ((m : Int) < (m : Int)) = false := by simp
    simp only [d1, cond_false, Nat.sub_self, List.range'_zero, List.map_nil, List.append_nil]

theorem s95 {k : Nat} (hk : Big k) {ch num den adj pos frac : Int} {rest : List Int} (h : RsOK ch num den adj pos frac rest) {n : Int} (h0 : 0 ≤ n) (h1 : n ≤ 65536) (hn : n = 0 ∨ 1 ≤ frames ch rest) :
    f95 k ((ch, num, den, adj, pos, frac, rest), n) = some (ch, outS ch num den adj frac rest n) := by
  have hl := rs_len ((rsOK_iff _ _ _ _ _ _ _).2 h)
  have hw : waiting ch num den adj pos frac rest = frames ch rest := by unfold waiting; rw [if_pos ((rsOK_iff _ _ _ _ _ _ _).2 h)]
  have c1 := h.b.c1
  have c2 := h.b.c2
  have w0 := frames_nonneg (d := rest) h.b.c1
  have w1 : frames ch rest ≤ 65536 := h.b.l
  have hlen := h.b.len
  have p0 := h.p.p0
  have p1 := h.p.p1
  have hp := (phOK_iff _ _ _ _ _).2 h.p
  unfold f95
  simp only [s31 hk _ _ _ _ _ _ _ (show rest.length ≤ 1000000000000 by omega), hw, Option.bind_some]
  obtain ⟨cN, rfl⟩ : ∃ cN : Nat, ch = cN := ⟨ch.toNat, by omega⟩
  obtain ⟨nN, rfl⟩ : ∃ nN : Nat, n = nN := ⟨n.toNat, by omega⟩
  obtain ⟨wN, hwN⟩ : ∃ wN : Nat, frames cN rest = wN := ⟨(frames cN rest).toNat, by omega⟩
  rw [hwN] at hlen w1 hn
  have hr : rest.length = wN * cN := by
    have : ((rest.length : Nat) : Int) = ((wN * cN : Nat) : Int) := by rw [hlen]; simp
    omega
  have ec : ((cN : Int)).toNat = cN := by omega
  have ew : ((wN : Int)).toNat = wN := by omega
  have en : ((nN : Int)).toNat = nN := by omega
  simp only [hwN]
  refine (loopC_spec (L95_4 k _) (fun y => ∃ i : Nat, ∃ e : List Int, y = ((nN : Int), (wN : Int), (i : Int), ((cN : Int), num, den, adj, pos, frac, rest), 0, (cN : Int), e) ∧ i ≤ nN ∧ e.length = i * cN)
    (fun y => some ((cN : Int), y.2.2.2.2.2.2 ++ (List.range' y.2.2.1.toNat (nN - y.2.2.1.toNat)).flatMap (fr (ph num den adj frac) cN rest wN))) (fun y => (nN - y.2.2.1).toNat) ?_ k _ ⟨0, [], rfl, Nat.zero_le _, by simp⟩ (hk.lt (by simp; omega))).trans ?_
  · rintro y next ⟨i, e, rfl, hi, hel⟩ hnext
    simp only at hnext
    have ei : ((i : Int)).toNat = i := by omega
    unfold L95_4
    simp only [ei]
    by_cases hlt : i < nN
    · have c3 : decide ((i : Int) < (nN : Int)) = true := by simp; omega
      have hck' : checkS (phOK num den adj pos frac) i = 0 := (checkS_zero _ _).2 ⟨hp, by omega, by omega⟩
      have hat : atS num den adj pos frac i = (pos + (ph num den adj frac).gone i, (ph num den adj frac).A i % (den * 65536), 0) := by unfold atS; rw [if_pos hck']
      obtain ⟨g3, g4⟩ := gone_bd h.p (show (0 : Int) ≤ i by omega) (by omega)
      have e3 : pos + (ph num den adj frac).gone i - pos = (ph num den adj frac).gone i := by omega
      have e4 : IntKind.wrap .i64 ((ph num den adj frac).gone i) = (ph num den adj frac).gone i := w64 (by omega) (by omega)
      have e5 : IntKind.wrap .i64 ((ph num den adj frac).gone i + 1) = (ph num den adj frac).gone i + 1 := w64 (by omega) (by omega)
      have e6 : IntKind.wrap .i64 ((wN : Int) - 1) = (wN : Int) - 1 := w64 (by omega) (by omega)
      have hPpos : 0 < den * 65536 := by have := h.p.d1; omega
      have hf0 := Int.emod_nonneg ((ph num den adj frac).A i) (Int.ne_of_gt hPpos)
      have hf1 := Int.emod_lt_of_pos ((ph num den adj frac).A i) hPpos
      obtain ⟨G, hG⟩ : ∃ G : Nat, (ph num den adj frac).gone i = G := ⟨((ph num den adj frac).gone i).toNat, by omega⟩
      have hm1 : (if (wN : Int) - 1 < (G : Int) then (wN : Int) - 1 else (G : Int)) = ((min G (wN - 1) : Nat) : Int) := by split <;> omega
      have hm2 : (if (wN : Int) - 1 < (G : Int) + 1 then (wN : Int) - 1 else (G : Int) + 1) = ((min (G + 1) (wN - 1) : Nat) : Int) := by split <;> omega
      have hb1 : min G (wN - 1) * cN ≤ wN * cN := Nat.mul_le_mul_right _ (by omega)
      have hb2 : min (G + 1) (wN - 1) * cN ≤ wN * cN := Nat.mul_le_mul_right _ (by omega)
      have e7 : IntKind.wrap .i64 (((min G (wN - 1) : Nat) : Int) * (cN : Int)) = ((min G (wN - 1) : Nat) : Int) * (cN : Int) := by
        rw [← Int.natCast_mul]; exact w64 (by omega) (by omega)
      have e8 : IntKind.wrap .i64 (((min (G + 1) (wN - 1) : Nat) : Int) * (cN : Int)) = ((min (G + 1) (wN - 1) : Nat) : Int) * (cN : Int) := by
        rw [← Int.natCast_mul]; exact w64 (by omega) (by omega)
      simp only [c3, cond_true, s46 hk, hat, Option.bind_some, e3, e4, e5, e6]
      simp only [hG, hm1, hm2, e7, e8]
      rw [inner95 hk _ h hr hf0 (by omega) _ _ (by omega) (by omega) _ _ _ _ _ _ (by
        rw [hel]
        have : i * cN ≤ 65536 * 8 := Nat.mul_le_mul (by omega) (by omega)
        omega)]
      simp only
      have hw' : IntKind.wrap .i64 ((i : Int) + 1) = ((i + 1 : Nat) : Int) := by rw [w64 (by omega) (by omega)]; omega
      rw [hw']
      have hfr : ((List.range cN).map fun m => ip (smp cN rest (min G (wN - 1)) m) (smp cN rest (min (G + 1) (wN - 1)) m) ((ph num den adj frac).A i % (den * 65536)) (den * 65536)) = fr (ph num den adj frac) cN rest wN i := by
        unfold fr
        rw [hG, Int.toNat_natCast]
        rfl
      rw [hfr, hnext _ ⟨i + 1, e ++ fr (ph num den adj frac) cN rest wN i, rfl, by omega, by rw [List.length_append, hel, fr_length, Nat.add_mul, Nat.one_mul]⟩ (by simp only; omega)]
      have ei' : (((i + 1 : Nat) : Int)).toNat = i + 1 := by omega
      simp only [ei']
      rw [show nN - i = (nN - (i + 1)) + 1 by omega, List.range'_succ, List.flatMap_cons, List.append_assoc]
    · have : i = nN := by omega
      subst this
      have c3 : decide ((i : Int) < (i : Int)) = false := by simp
      simp only [c3, cond_false, Nat.sub_self, List.range'_zero, List.flatMap_nil, List.append_nil]
  · simp only [outS, hwN, ec, ew, en, out, Int.toNat_zero, Int.toNat_natCast, Nat.sub_zero, List.nil_append, List.range_eq_range']
theorem prodS_eq (ch num den adj pos frac : Int) (rest : List Int) (n : Int) : prodS ch num den adj pos frac rest n = if (passS ch num den adj pos frac rest n).2 = 0 then ((ch, outS ch num den adj frac rest n), (passS ch num den adj pos frac rest n).1, 0) else (zeroB, zeroR, (passS ch num den adj pos frac rest n).2) := by
  unfold prodS passS
  by_cases he : (advS num den adj pos frac n).2 = 0
  · simp [he]
  · simp [he, zeroB, zeroR]
theorem s35 {k : Nat} (hk : Big k) (ch num den adj pos frac : Int) (rest : List Int) (hd : rest.length ≤ 1000000000000) (n : Int) : f35 k ((ch, num, den, adj, pos, frac, rest), n) = some (takeS ch num den adj pos frac rest n) := by
  unfold f35 takeS
  rw [s29 hk _ _ _ _ _ _ _ hd, Option.bind_some]
  cases hr : rsOK ch num den adj pos frac rest with
  | false => simp [checkS, zeroB, zeroR]
  | true =>
    have h := (rsOK_iff _ _ _ _ _ _ _).1 hr
    have hw : waiting ch num den adj pos frac rest = frames ch rest := by unfold waiting; rw [if_pos hr]
    have hc : checkS (phOK num den adj pos frac) n = checkS true n := by rw [(phOK_iff _ _ _ _ _).2 h.p]
    simp only [Bool.not_true, cond_false, s93 hk, Option.bind_some]
    unfold needS
    rw [hc]
    by_cases he : checkS true n = 0
    · obtain ⟨_, h0, h1⟩ := (checkS_zero _ _).1 he
      simp only [he, if_true, bne_self_eq_false, cond_false, s31 hk _ _ _ _ _ _ _ hd, hw, Option.bind_some, gt_iff_lt]
      by_cases hs : frames ch rest < (ph num den adj frac).need n
      · simp [hs, zeroB, zeroR]
      · simp only [hs, decide_false, cond_false, if_false]
        rw [s94 hk h h0 h1, Option.bind_some, s95 hk h h0 h1 (need_frames h.p h0 (by omega)), Option.bind_some, prodS_eq]
        by_cases hp : (passS ch num den adj pos frac rest n).2 = 0
        · simp [hp]
        · have : ((passS ch num den adj pos frac rest n).2 != 0) = true := by simpa using hp
          simp [hp, this, zeroB, zeroR]
    · have : (checkS true n != 0) = true := by simpa using he
      simp [he, this, zeroB, zeroR]
theorem s40 {k : Nat} (hk : Big k) (ch num den adj pos frac : Int) (rest : List Int) (bc : Int) (bd : List Int) (h1 : rest.length ≤ 100000000000) (h2 : bd.length ≤ 100000000000) :
    f40 k ((ch, num, den, adj, pos, frac, rest), bc, bd) = some (convS ch num den adj pos frac rest bc bd) := by
  unfold f40 convS
  rw [s26 hk _ _ _ _ _ _ _ _ _ (by omega) (by omega), Option.bind_some]
  by_cases he : (feedS ch num den adj pos frac rest bc bd).2 = 0
  · obtain ⟨e, h, _⟩ := feedS_ok he
    have hl := rs_len ((rsOK_iff _ _ _ _ _ _ _).2 h)
    have w0 := frames_nonneg (d := rest ++ bd) h.b.c1
    have w1 : frames ch (rest ++ bd) ≤ 65536 := h.b.l
    have hw : waiting ch num den adj pos frac (rest ++ bd) = frames ch (rest ++ bd) := by unfold waiting; rw [if_pos ((rsOK_iff _ _ _ _ _ _ _).2 h)]
    have hm : makeS num den adj pos frac (frames ch (rest ++ bd)) = ((ph num den adj frac).make (frames ch (rest ++ bd)), 0) := by
      unfold makeS
      rw [if_pos ((phOK_iff _ _ _ _ _).2 h.p), if_neg (by omega)]
    simp only [e, bne_self_eq_false, cond_false, if_true, s31 hk _ _ _ _ _ _ _ (show (rest ++ bd).length ≤ 1000000000000 by omega), hw, s45 hk, hm, Option.bind_some]
    rw [s35 hk _ _ _ _ _ _ _ (by omega), Option.bind_some]
  · have e2 : ((feedS ch num den adj pos frac rest bc bd).2 != 0) = true := by simpa using he
    rw [if_neg he]
    simp only [e2, cond_true]
    rfl
theorem s37 {k : Nat} (hk : Big k) (ch num den adj pos frac : Int) (rest : List Int) (hd : rest.length ≤ 1000000000000) (n : Int) : f37 k ((ch, num, den, adj, pos, frac, rest), n) = some (finS ch num den adj pos frac rest n) := by
  unfold f37 finS
  rw [s29 hk _ _ _ _ _ _ _ hd, Option.bind_some]
  cases hr : rsOK ch num den adj pos frac rest with
  | false => simp [checkS, zeroB, zeroR]
  | true =>
    have h := (rsOK_iff _ _ _ _ _ _ _).1 hr
    have hw : waiting ch num den adj pos frac rest = frames ch rest := by unfold waiting; rw [if_pos hr]
    by_cases h2 : n < 0
    · simp [checkS, h2, zeroB, zeroR]
    by_cases h3 : 65536 < n
    · simp [checkS, h2, h3, zeroB, zeroR]
    have hck : checkS true n = 0 := (checkS_zero _ _).2 ⟨rfl, by omega, by omega⟩
    have w0 := frames_nonneg (d := rest) h.b.c1
    have hp := (phOK_iff _ _ _ _ _).2 h.p
    have p0 := h.p.p0
    have p1 := h.p.p1
    simp only [Bool.not_true, cond_false, h2, decide_false, gt_iff_lt, h3, hck, if_true, s31 hk _ _ _ _ _ _ _ hd, hw, Option.bind_some]
    have hl0 := (ph num den adj frac).left_nonneg h.p.ok (frames ch rest)
    have hlf := left_frames (ph num den adj frac) h.p.ok w0
    have hfin : ∀ c : Int, c = min n ((ph num den adj frac).left (frames ch rest)) → (Option.bind (f94 k ((ch, num, den, adj, pos, frac, rest), c)) fun r5 =>
        bif (r5.2 != (0 : Int)) then some (((0 : Int), []), ((0 : Int), (0 : Int), (0 : Int), (0 : Int), (0 : Int), (0 : Int), []), r5.2)
        else Option.bind (f95 k ((ch, num, den, adj, pos, frac, rest), c)) fun r6 => some (r6, r5.1, (0 : Int))) = some (prodS ch num den adj pos frac rest (min n ((ph num den adj frac).left (frames ch rest)))) := by
      rintro c rfl
      rw [s94 hk h (by omega) (by omega), Option.bind_some, s95 hk h (by omega) (by omega) (by omega), Option.bind_some, prodS_eq]
      by_cases hp : (passS ch num den adj pos frac rest (min n ((ph num den adj frac).left (frames ch rest)))).2 = 0
      · simp [hp]
      · have : ((passS ch num den adj pos frac rest (min n ((ph num den adj frac).left (frames ch rest)))).2 != 0) = true := by simpa using hp
        simp [hp, this, zeroB, zeroR]
    refine loopC_spec (L37_6 k _) (fun y => ∃ c : Int, y = (n, c, frames ch rest, (ch, num, den, adj, pos, frac, rest), 0, 0, 0, 0, 0, 0, 0) ∧ 0 ≤ c ∧ c ≤ n ∧ c ≤ (ph num den adj frac).left (frames ch rest)) (fun _ => some (prodS ch num den adj pos frac rest (min n ((ph num den adj frac).left (frames ch rest))))) (fun y => (n - y.2.1).toNat) ?_ k _ ⟨0, rfl, by omega, by omega, by omega⟩ (hk.lt (by simp; omega))
    rintro y next ⟨c, rfl, q0, q1, q2⟩ hnext
    simp only at hnext
    unfold L37_6
    simp only
    by_cases hlt : c < n
    · have hck' : checkS (phOK num den adj pos frac) c = 0 := (checkS_zero _ _).2 ⟨hp, by omega, by omega⟩
      have hat : atS num den adj pos frac c = (pos + (ph num den adj frac).gone c, (ph num den adj frac).A c % (den * 65536), 0) := by unfold atS; rw [if_pos hck']
      obtain ⟨g3, g4⟩ := gone_bd h.p q0 (by omega)
      have e3 : pos + (ph num den adj frac).gone c - pos = (ph num den adj frac).gone c := by omega
      have e4 : IntKind.wrap .i64 ((ph num den adj frac).gone c) = (ph num den adj frac).gone c := w64 (by omega) (by omega)
      have e5 : IntKind.wrap .i64 (c + 1) = c + 1 := w64 (by omega) (by omega)
      have hll := (ph num den adj frac).lt_left h.p.ok (w := frames ch rest) q0
      simp only [hlt, decide_true, cond_true, s46 hk, hat, Option.bind_some, e3, e4, e5, ge_iff_le]
      by_cases hb : frames ch rest ≤ (ph num den adj frac).gone c
      · simp only [hb, decide_true, cond_true]
        exact hfin c (by omega)
      · simp only [hb, decide_false, cond_false]
        exact hnext _ ⟨c + 1, rfl, by omega, by omega, by omega⟩ (by simp only; omega)
    · simp only [hlt, decide_false, cond_false]
      exact hfin c (by omega)

/-! ### comparisons -/
theorem same_loop {k : Nat} (hk : Big k) (d : List Int) (hd : d.length ≤ 1000000000) : f84 k (d, d) = some true := by
  unfold f84
  simp only [bne_self_eq_false, cond_false]
  refine loopC_spec (L84_4 k _ _) (fun y => ∃ j : Nat, y = (d, d, (d.length : Int), (j : Int)) ∧ j ≤ d.length) (fun _ => some true) (fun y => (d.length - y.2.2.2).toNat) ?_ k _ ⟨0, rfl, by omega⟩ (hk.lt (by simp; omega))
  rintro y next ⟨j, rfl, hj⟩ hn
  simp only at hn
  unfold L84_4
  simp only
  by_cases hlt : j < d.length
  · have d1 : decide ((j : Int) < (d.length : Int)) = true := by simp; omega
    have d2 : decide ((0 : Int) ≤ (j : Int)) = true := by simp
    have hw : IntKind.wrap .i64 ((j : Int) + 1) = ((j + 1 : Nat) : Int) := by rw [w64 (by omega) (by omega)]; omega
    simp only [d1, d2, cond_true, Bool.and_self, bne_self_eq_false, cond_false, hw]
    exact hn _ ⟨j + 1, rfl, by omega⟩ (by simp only; omega)
  · have : j = d.length := by omega
    subst this
    have d1 : decide ((d.length : Int) < (d.length : Int)) = false := by simp
    simp only [d1, cond_false]
theorem same27 {k : Nat} (hk : Big k) (r : RsT) (hd : r.2.2.2.2.2.2.length ≤ 1000000000) : f27 k (r, r) = some true := by
  obtain ⟨ch, num, den, adj, pos, frac, rest⟩ := r
  unfold f27
  simp [same_loop hk rest hd]
theorem same38 {k : Nat} (hk : Big k) (b : BkT) (hd : b.2.length ≤ 1000000000) : f38 k (b, b) = some true := by
  obtain ⟨ch, d⟩ := b
  unfold f38
  simp [same_loop hk d hd]
end Go.Proofs.Ytbfkfobfhjgphaa.Sp
