/- What the program's resampler computes, in plain words: frames, and what is produced. -/
import Derived.Test.YtbfkfobfhjgphaaSpB
set_option linter.unusedVariables false
set_option linter.unusedSimpArgs false
namespace Go.Proofs.Ytbfkfobfhjgphaa.Sp
open Go Go.Pev Go.Snd Go.Proofs.Ytbfkfobfhjgphaa.Fn

theorem mul_sample {a g : Int} (ha : isS a) (h0 : 0 ≤ g) (h1 : g ≤ 50331648000) : -422212490354688000 ≤ a * g ∧ a * g ≤ 422212490354688000 := by
  obtain ⟨a1, a2⟩ := ha
  have e1 := Int.mul_le_mul_of_nonneg_right a1 h0
  have e2 := Int.mul_le_mul_of_nonneg_right a2 h0
  omega
/-- the sample between two samples, as the code computes it -/
theorem between_calc {a b f P : Int} (ha : isS a) (hb : isS b) (hP : 0 < P) (hP' : P ≤ 50331648000) (hf : 0 ≤ f) (hf' : f ≤ P) :
    IntKind.wrap .i64 (IntKind.wrap .i64 (IntKind.wrap .i64 (IntKind.wrap .i64 a * IntKind.wrap .i64 (P - f)) + IntKind.wrap .i64 (IntKind.wrap .i64 b * f)) + IntKind.wrap .i64 (Int.tdiv P 2)) = a * (P - f) + b * f + P / 2 ∧
    (decide (Int.tmod (a * (P - f) + b * f + P / 2) P < 0) = true → IntKind.wrap .i32 (IntKind.wrap .i64 (IntKind.wrap .i64 (Int.tdiv (a * (P - f) + b * f + P / 2) P) - 1)) = ip a b f P) ∧
    (decide (Int.tmod (a * (P - f) + b * f + P / 2) P < 0) = false → IntKind.wrap .i32 (IntKind.wrap .i64 (Int.tdiv (a * (P - f) + b * f + P / 2) P)) = ip a b f P) := by
  obtain ⟨m1, m2⟩ := mul_sample ha (show 0 ≤ P - f by omega) (by omega)
  obtain ⟨m3, m4⟩ := mul_sample hb hf (by omega)
  have ha' := ha
  have hb' := hb
  obtain ⟨a1, a2⟩ := ha
  obtain ⟨b1, b2⟩ := hb
  have e1 : IntKind.wrap .i64 a = a := w64 (by omega) (by omega)
  have e2 : IntKind.wrap .i64 b = b := w64 (by omega) (by omega)
  have e3 : IntKind.wrap .i64 (P - f) = P - f := w64 (by omega) (by omega)
  have e4 : Int.tdiv P 2 = P / 2 := tdiv_pos (by omega)
  have hfl := floor_fix (a * (P - f) + b * f + P / 2) P hP
  have hip : (a * (P - f) + b * f + P / 2) / P = ip a b f P := rfl
  have g1 := ip_ge a b f P (-8388608) hP hf hf' a1 b1
  have g2 := ip_le a b f P 8388607 hP hf hf' a2 b2
  refine ⟨?_, fun h => ?_, fun h => ?_⟩
  · rw [e1, e2, e3, e4, w64 (x := a * (P - f)) (by omega) (by omega), w64 (x := b * f) (by omega) (by omega), w64 (x := P / 2) (by omega) (by omega), w64 (x := a * (P - f) + b * f) (by omega) (by omega), w64 (by omega) (by omega)]
  · simp only [decide_eq_true_eq] at h
    rw [if_pos h, hip] at hfl
    rw [w64 (x := Int.tdiv _ _) (by omega) (by omega), hfl, w64 (by omega) (by omega), w32 (by omega) (by omega)]
  · simp only [decide_eq_false_iff_not] at h
    rw [if_neg h, hip] at hfl
    rw [hfl, w64 (by omega) (by omega), w32 (by omega) (by omega)]
theorem s145 (k : Nat) {a b f P : Int} (ha : isS a) (hb : isS b) (hP : 0 < P) (hP' : P ≤ 50331648000) (hf : 0 ≤ f) (hf' : f ≤ P) : f145 k (a, b, f, P) = some (ip a b f P) := by
  unfold f145
  obtain ⟨h1, h2, h3⟩ := between_calc ha hb hP hP' hf hf'
  have h0 : (P == 0) = false := by simp; omega
  simp only [h0, h1, cond_false]
  cases hd : decide (Int.tmod (a * (P - f) + b * f + P / 2) P < 0) with
  | true => simp only [cond_true, h2 hd]
  | false => simp only [cond_false, h3 hd]

theorem maxB {n : Nat} (h : n ≤ 1000000000000) : (decide (n * 4 ≤ maxBytes) && decide (n ≤ 9223372036854775807)) = true := by
  unfold maxBytes
  simp only [Bool.and_eq_true, decide_eq_true_eq]
  omega
theorem getD_mem {d : List Int} {i : Nat} (h : i < d.length) : d.getD i 0 ∈ d := by
  rw [getD_lt d i h]; exact List.getElem_mem h
theorem zip_drop {α : Type} (g : Int → Int → α) (a b : List Int) (i : Nat) (ha : i < a.length) (hb : i < b.length) : List.zipWith g (a.drop i) (b.drop i) = g (a.getD i 0) (b.getD i 0) :: List.zipWith g (a.drop (i + 1)) (b.drop (i + 1)) := by
  rw [List.drop_eq_getElem_cons ha, List.drop_eq_getElem_cons hb, List.zipWith_cons_cons, getD_lt a i ha, getD_lt b i hb]

theorem inner92 {k : Nat} (hk : Big k) {R : Type} (K0 : (Int × Int × Int × (Int × Int × Int × Int × Int × Int × List (Int)) × Int × (Int × Int × Int × Int × Int × Int) × (Int × Int × Int × Int × Int) × Int × List (Int)) → Option R) {P f : Int} (hP : 0 < P) (hP' : P ≤ 50331648000) (hf : 0 ≤ f) (hf' : f ≤ P)
    (a b : List Int) (ha : ∀ x ∈ a, isS x) (hb : ∀ x ∈ b, isS x) (hl : b.length = a.length) (hm : a.length ≤ 100) (n i : Int) (r : Int × Int × Int × Int × Int × Int × List (Int)) (z : Int) (s6 : Int × Int × Int × Int × Int × Int) (s5 : Int × Int × Int × Int × Int) (c : Int) (data : List Int) (hd : data.length ≤ 100000000000) :
    loopC k (L92_13 k K0) (P, f, a, b, n, i, (a.length : Int), 0, r, z, s6, s5, c, data) = K0 (P, n, i, r, z, s6, s5, c, data ++ List.zipWith (fun x y => ip x y f P) a b) := by
  refine (loopC_spec (L92_13 k K0) (fun y => ∃ j : Nat, ∃ e : List Int, y = (P, f, a, b, n, i, (a.length : Int), (j : Int), r, z, s6, s5, c, e) ∧ j ≤ a.length ∧ e.length ≤ 100000000000 + j)
    (fun y => K0 (P, n, i, r, z, s6, s5, c, y.2.2.2.2.2.2.2.2.2.2.2.2.2 ++ List.zipWith (fun x y => ip x y f P) (a.drop y.2.2.2.2.2.2.2.1.toNat) (b.drop y.2.2.2.2.2.2.2.1.toNat))) (fun y => (a.length - y.2.2.2.2.2.2.2.1).toNat) ?_ k _ ⟨0, data, rfl, Nat.zero_le _, by omega⟩ (hk.lt (by simp; omega))).trans (by simp)
  rintro y next ⟨j, e, rfl, hj, he⟩ hn
  simp only at hn
  have ej : ((j : Int)).toNat = j := by omega
  unfold L92_13
  simp only [ej]
  by_cases hlt : j < a.length
  · have h0 : (P == 0) = false := by simp; omega
    have c1 : decide ((j : Int) < (a.length : Int)) = true := by simp; omega
    have c2 : decide ((j : Int) < (b.length : Int)) = true := by simp; omega
    have c3 : decide ((0 : Int) ≤ (j : Int)) = true := by simp
    obtain ⟨h1, h2, h3⟩ := between_calc (ha _ (getD_mem hlt)) (hb _ (getD_mem (show j < b.length by omega))) hP hP' hf hf'
    have hw : IntKind.wrap .i64 ((j : Int) + 1) = ((j + 1 : Nat) : Int) := by rw [w64 (by omega) (by omega)]; omega
    have key : ∀ x : Int, x = ip (a.getD j 0) (b.getD j 0) f P → next (P, f, a, b, n, i, (a.length : Int), ((j + 1 : Nat) : Int), r, z, s6, s5, c, e ++ [x]) = K0 (P, n, i, r, z, s6, s5, c, e ++ List.zipWith (fun x y => ip x y f P) (a.drop j) (b.drop j)) := by
      intro x hx
      rw [hn _ ⟨j + 1, e ++ [x], rfl, by omega, by simp; omega⟩ (by simp only; omega)]
      have ej' : (((j + 1 : Nat) : Int)).toNat = j + 1 := by omega
      simp only [ej']
      rw [zip_drop _ a b j hlt (by omega), hx, List.append_assoc]
      rfl
    simp only [c1, c2, c3, cond_true, Bool.and_self, h0, cond_false, h1, hw]
    cases hd : decide (Int.tmod (a.getD j 0 * (P - f) + b.getD j 0 * f + P / 2) P < 0) with
    | true =>
      simp only [cond_true]
      rw [maxB (by simp; omega)]
      exact key _ (h2 hd)
    | false =>
      simp only [cond_false]
      rw [maxB (by simp; omega)]
      exact key _ (h3 hd)
  · have : j = a.length := by omega
    subst this
    have c1 : decide ((a.length : Int) < (a.length : Int)) = false := by simp
    have : b.drop a.length = [] := List.drop_of_length_le (by omega)
    simp only [c1, cond_false, List.drop_length, this, List.zipWith_nil_left, List.append_nil]

/-- frame j of what waits -/
def frameL (c : Nat) (rest : List Int) (j : Nat) : List Int := (List.range c).map (smp c rest j)
theorem frameL_eq (c : Nat) (rest : List Int) (j w : Nat) (hr : rest.length = w * c) (hj : j < w) : (rest.take (j * c + c)).drop (j * c) = frameL c rest j := by
  have hle : j * c + c ≤ rest.length := by
    rw [hr]
    calc j * c + c = (j + 1) * c := by rw [Nat.add_mul, Nat.one_mul]
      _ ≤ w * c := Nat.mul_le_mul_right _ hj
  apply List.ext_getElem
  · simp [frameL]; omega
  · intro m h1 h2
    simp only [frameL, List.getElem_map, List.getElem_range, List.getElem_drop, List.getElem_take, smp]
    have : m < c := by simpa [frameL] using h2
    rw [getD_lt _ _ (by omega)]
theorem frameL_isS (c : Nat) (rest : List Int) (j : Nat) (h : ∀ x ∈ rest, isS x) : ∀ x ∈ frameL c rest j, isS x := by
  intro x hx
  obtain ⟨m, _, rfl⟩ := List.mem_map.1 hx
  exact smp_isS c rest h j m
theorem zip_frames (c : Nat) (rest : List Int) (i j : Nat) (g : Int → Int → Int) : List.zipWith g (frameL c rest i) (frameL c rest j) = (List.range c).map fun m => g (smp c rest i m) (smp c rest j m) := by
  unfold frameL
  rw [List.zipWith_map, List.zipWith_self]

theorem s142 (k : Nat) {ch num den adj pos frac : Int} {rest : List Int} (h : BkOK ch rest) (hw : 1 ≤ frames ch rest) {q : Int} (h0 : 0 ≤ q) (h1 : q ≤ 9007199254740992) :
    f142 k ((ch, num, den, adj, pos, frac, rest), q) = some (frameL ch.toNat rest (min q.toNat ((frames ch rest).toNat - 1))) := by
  unfold f142
  have c1 := h.c1
  have c2 := h.c2
  have hl := h.len
  have hle : frames ch rest ≤ 65536 := h.l
  obtain ⟨b1, b2⟩ := mul_bd h0 h1 (show 0 ≤ ch by omega) c2
  obtain ⟨b3, b4⟩ := mul_bd (show 0 ≤ frames ch rest by omega) hle (show 0 ≤ ch by omega) c2
  have b5 := Int.mul_le_mul_of_nonneg_right hw (show 0 ≤ ch by omega)
  have e1 : IntKind.wrap .i64 ((rest.length : Int) - ch) = (rest.length : Int) - ch := w64 (by omega) (by omega)
  have e2 : IntKind.wrap .i64 (q * ch) = q * ch := w64 (by omega) (by omega)
  obtain ⟨cN, rfl⟩ : ∃ cN : Nat, ch = cN := ⟨ch.toNat, by omega⟩
  obtain ⟨wN, hwN⟩ : ∃ wN : Nat, frames cN rest = wN := ⟨(frames cN rest).toNat, by omega⟩
  obtain ⟨qN, rfl⟩ : ∃ qN : Nat, q = qN := ⟨q.toNat, by omega⟩
  rw [hwN] at hl hw hle b3 b4 b5
  have hr : rest.length = wN * cN := by
    have : ((rest.length : Nat) : Int) = ((wN * cN : Nat) : Int) := by rw [hl]; simp
    omega
  have hat : (if (rest.length : Int) - (cN : Int) < (qN : Int) * (cN : Int) then (rest.length : Int) - (cN : Int) else (qN : Int) * (cN : Int)) = ((min qN (wN - 1) * cN : Nat) : Int) := by
    have m1 : ((wN - 1) * cN + cN : Nat) = wN * cN := by
      have : wN = (wN - 1) + 1 := by omega
      calc (wN - 1) * cN + cN = ((wN - 1) + 1) * cN := by rw [Nat.add_mul, Nat.one_mul]
        _ = wN * cN := by rw [← this]
    have m2 : (rest.length : Int) - (cN : Int) = (((wN - 1) * cN : Nat) : Int) := by rw [hr]; omega
    have m3 : (qN : Int) * (cN : Int) = ((qN * cN : Nat) : Int) := by simp
    rw [m2, m3]
    rcases Nat.lt_or_ge qN (wN - 1) with hh | hh
    · have := Nat.mul_le_mul_right cN (show qN ≤ wN - 1 by omega)
      rw [show min qN (wN - 1) = qN by omega, if_neg (by omega)]
    · have := Nat.mul_le_mul_right cN hh
      rw [show min qN (wN - 1) = wN - 1 by omega]
      split <;> omega
  have hmin : min qN (wN - 1) < wN := by omega
  have hend : min qN (wN - 1) * cN + cN ≤ wN * cN := by
    calc min qN (wN - 1) * cN + cN = (min qN (wN - 1) + 1) * cN := by rw [Nat.add_mul, Nat.one_mul]
      _ ≤ wN * cN := Nat.mul_le_mul_right _ hmin
  simp only [e1, e2, hat]
  have e3 : IntKind.wrap .i64 (((min qN (wN - 1) * cN : Nat) : Int) + (cN : Int)) = ((min qN (wN - 1) * cN + cN : Nat) : Int) := by
    rw [w64 (by omega) (by omega)]; omega
  simp only [e3]
  generalize hAt : min qN (wN - 1) * cN = A at *
  have d1 : decide ((0 : Int) ≤ (A : Int)) = true := by simp
  have d2 : decide ((A : Int) ≤ ((A + cN : Nat) : Int)) = true := by simp only [decide_eq_true_eq]; omega
  have d3 : decide (((A + cN : Nat) : Int) ≤ ((A + cN : Nat) : Int)) = true := by simp
  have d4 : decide (((A + cN : Nat) : Int) ≤ (rest.length : Int)) = true := by simp only [decide_eq_true_eq]; omega
  simp only [d1, d2, d3, d4, Bool.and_self, cond_true]
  rw [show ((A + cN : Nat) : Int).toNat = A + cN by omega, show ((A : Nat) : Int).toNat = A by omega, show ((cN : Nat) : Int).toNat = cN by omega, show ((qN : Nat) : Int).toNat = qN by omega, hwN, show ((wN : Nat) : Int).toNat = wN by omega, ← hAt, frameL_eq cN rest _ wN hr hmin]

/-- what n output frames are, and the resampler after them -/
def outS (ch num den adj frac : Int) (rest : List Int) (n : Int) : List Int := out (ph num den adj frac) ch.toNat rest (frames ch rest).toNat n.toNat
def goneS (num den adj frac n : Int) : Nat := ((ph num den adj frac).gone n).toNat
def prodS (ch num den adj pos frac : Int) (rest : List Int) (n : Int) : (Int × List Int) × (Int × Int × Int × Int × Int × Int × List Int) × Int :=
  if (advS num den adj pos frac n).2 = 0 then
    ((ch, outS ch num den adj frac rest n), (ch, num, den, adj, pos + (ph num den adj frac).gone n, (ph num den adj frac).A n % (den * 65536), rest.drop (goneS num den adj frac n * ch.toNat)), 0)
  else ((0, []), (0, 0, 0, 0, 0, 0, []), (advS num den adj pos frac n).2)

theorem s92 {k : Nat} (hk : Big k) {ch num den adj pos frac : Int} {rest : List Int} (h : RsOK ch num den adj pos frac rest) {n : Int} (h0 : 0 ≤ n) (h1 : n ≤ 65536) (hn : n = 0 ∨ 1 ≤ frames ch rest) :
    f92 k ((ch, num, den, adj, pos, frac, rest), n) = some (prodS ch num den adj pos frac rest n) := by
  unfold f92 prodS
  simp only [s140 hk, Option.bind_some]
  by_cases he : (advS num den adj pos frac n).2 = 0
  · have c1 := h.b.c1
    have c2 := h.b.c2
    have hp := (phOK_iff _ _ _ _ _).2 h.p
    obtain ⟨b1, b2⟩ := mul_bd h0 h1 (show 0 ≤ ch by omega) c2
    obtain ⟨g1, g2⟩ := gone_bd h.p h0 h1
    have p0 := h.p.p0
    have p1 := h.p.p1
    have hck : checkS (phOK num den adj pos frac) n = 0 := (checkS_zero _ _).2 ⟨hp, h0, h1⟩
    have hadv : advS num den adj pos frac n = ((num, den, adj, pos + (ph num den adj frac).gone n, (ph num den adj frac).A n % (den * 65536)), 0) := by
      unfold advS at he ⊢
      rw [if_pos hck] at he ⊢
      split
      · rename_i hh; rw [if_pos hh] at he; simp at he
      · rfl
    have e1 : IntKind.wrap .i64 (n * ch) = n * ch := w64 (by omega) (by omega)
    have e2 : IntKind.wrap .i64 (den * 65536) = den * 65536 := w64 (by have := h.p.d1; omega) (by have := h.p.d2; omega)
    have d1 : decide (n * ch * ((4 : Nat) : Int) ≤ (maxBytes : Int)) = true := by unfold maxBytes; simp only [decide_eq_true_eq]; omega
    have d2 : decide ((0 : Int) ≤ n * ch) = true := by simp only [decide_eq_true_eq]; omega
    simp only [hadv, if_true, bne_self_eq_false, cond_false, e1, e2, d1, d2, Bool.and_self, Bool.and_true, Int.le_refl, decide_true, cond_true]
    obtain ⟨cN, rfl⟩ : ∃ cN : Nat, ch = cN := ⟨ch.toNat, by omega⟩
    obtain ⟨nN, rfl⟩ : ∃ nN : Nat, n = nN := ⟨n.toNat, by omega⟩
    obtain ⟨wN, hwN⟩ : ∃ wN : Nat, frames cN rest = wN := ⟨(frames cN rest).toNat, by have := frames_nonneg (d := rest) h.b.c1; omega⟩
    have hlen := h.b.len
    have hle : frames cN rest ≤ 65536 := h.b.l
    rw [hwN] at hlen hle hn
    have hr : rest.length = wN * cN := by
      have : ((rest.length : Nat) : Int) = ((wN * cN : Nat) : Int) := by rw [hlen]; simp
      omega
    have ec : ((cN : Int)).toNat = cN := by omega
    have ew : ((wN : Int)).toNat = wN := by omega
    have en : ((nN : Int)).toNat = nN := by omega
    refine (loopC_spec (L92_7 k _) (fun y => ∃ i : Nat, ∃ e : List Int, y = (den * 65536, (nN : Int), (i : Int), ((cN : Int), num, den, adj, pos, frac, rest), 0, (0, 0, 0, 0, 0, 0), (num, den, adj, pos + (ph num den adj frac).gone nN, (ph num den adj frac).A nN % (den * 65536)), (cN : Int), e) ∧ i ≤ nN ∧ e.length = i * cN)
      (fun y => some (((cN : Int), y.2.2.2.2.2.2.2.2 ++ (List.range' y.2.2.1.toNat (nN - y.2.2.1.toNat)).flatMap (fr (ph num den adj frac) cN rest wN)), ((cN : Int), num, den, adj, pos + (ph num den adj frac).gone nN, (ph num den adj frac).A nN % (den * 65536), rest.drop (goneS num den adj frac nN * cN)), 0)) (fun y => (nN - y.2.2.1).toNat) ?_ k _ ⟨0, [], rfl, Nat.zero_le _, by simp⟩ (hk.lt (by simp; omega))).trans ?_
    · rintro y next ⟨i, e, rfl, hi, hel⟩ hnext
      simp only at hnext
      have ei : ((i : Int)).toNat = i := by omega
      unfold L92_7
      simp only [ei]
      by_cases hlt : i < nN
      · have c3 : decide ((i : Int) < (nN : Int)) = true := by simp; omega
        have hck' : checkS (phOK num den adj pos frac) i = 0 := (checkS_zero _ _).2 ⟨hp, by omega, by omega⟩
        have hat : atS num den adj pos frac i = (pos + (ph num den adj frac).gone i, (ph num den adj frac).A i % (den * 65536), 0) := by unfold atS; rw [if_pos hck']
        obtain ⟨g3, g4⟩ := gone_bd h.p (show (0 : Int) ≤ i by omega) (by omega)
        have e3 : pos + (ph num den adj frac).gone i - pos = (ph num den adj frac).gone i := by omega
        have e4 : IntKind.wrap .i64 ((ph num den adj frac).gone i) = (ph num den adj frac).gone i := w64 (by omega) (by omega)
        have e5 : IntKind.wrap .i64 ((ph num den adj frac).gone i + 1) = (ph num den adj frac).gone i + 1 := w64 (by omega) (by omega)
        have hw1 : 1 ≤ frames cN rest := by rw [hwN]; omega
        have hPpos : 0 < den * 65536 := by have := h.p.d1; omega
        have hPle : den * 65536 ≤ 50331648000 := by have := h.p.d2; omega
        have hf0 := Int.emod_nonneg ((ph num den adj frac).A i) (Int.ne_of_gt hPpos)
        have hf1 := Int.emod_lt_of_pos ((ph num den adj frac).A i) hPpos
        simp only [c3, cond_true, s141 hk, hat, Option.bind_some, e3, e4, e5]
        rw [s142 k h.b hw1 g3 (by omega), s142 k h.b hw1 (show 0 ≤ (ph num den adj frac).gone i + 1 by omega) (by omega)]
        simp only [Option.bind_some, hwN, ec, ew]
        rw [inner92 hk _ hPpos hPle hf0 (by omega) _ _ (frameL_isS cN rest _ h.b.s) (frameL_isS cN rest _ h.b.s) (by simp [frameL]) (by simp [frameL]; omega) _ _ _ _ _ _ _ _ (by
          rw [hel]
          have : i * cN ≤ 65536 * 8 := Nat.mul_le_mul (by omega) (by omega)
          omega)]
        simp only
        have hw' : IntKind.wrap .i64 ((i : Int) + 1) = ((i + 1 : Nat) : Int) := by rw [w64 (by omega) (by omega)]; omega
        rw [hw', zip_frames]
        have hfr : ((List.range cN).map fun m => ip (smp cN rest (min ((ph num den adj frac).gone i).toNat (wN - 1)) m) (smp cN rest (min ((ph num den adj frac).gone i + 1).toNat (wN - 1)) m) ((ph num den adj frac).A i % (den * 65536)) (den * 65536)) = fr (ph num den adj frac) cN rest wN i := by
          unfold fr
          rw [show ((ph num den adj frac).gone i + 1).toNat = ((ph num den adj frac).gone i).toNat + 1 by omega]
          rfl
        rw [hfr, hnext _ ⟨i + 1, e ++ fr (ph num den adj frac) cN rest wN i, rfl, by omega, by rw [List.length_append, hel, fr_length, Nat.add_mul, Nat.one_mul]⟩ (by simp only; omega)]
        have ei' : (((i + 1 : Nat) : Int)).toNat = i + 1 := by omega
        simp only [ei']
        rw [show nN - i = (nN - (i + 1)) + 1 by omega, List.range'_succ, List.flatMap_cons, List.append_assoc]
      · have : i = nN := by omega
        subst this
        have c3 : decide ((i : Int) < (i : Int)) = false := by simp
        have e3 : pos + (ph num den adj frac).gone i - pos = (ph num den adj frac).gone i := by omega
        have e4 : IntKind.wrap .i64 ((ph num den adj frac).gone i) = (ph num den adj frac).gone i := w64 (by omega) (by omega)
        obtain ⟨q1, q2⟩ := mul_bd g1 g2 (show (0 : Int) ≤ cN by omega) c2
        have e5 : IntKind.wrap .i64 ((ph num den adj frac).gone i * cN) = (ph num den adj frac).gone i * cN := w64 (by omega) (by omega)
        simp only [c3, cond_false, e3, e4, e5, Nat.sub_self, List.range'_zero, List.flatMap_nil, List.append_nil]
        have hG : ((ph num den adj frac).gone i * cN).toNat = goneS num den adj frac i * cN := by
          unfold goneS
          obtain ⟨G, hG⟩ : ∃ G : Nat, (ph num den adj frac).gone i = G := ⟨((ph num den adj frac).gone i).toNat, by omega⟩
          rw [hG, ← Int.natCast_mul]
          simp only [Int.toNat_natCast]
        have hdrop : rest.drop (if (ph num den adj frac).gone i * cN < (rest.length : Int) then (ph num den adj frac).gone i * cN else (rest.length : Int)).toNat = rest.drop (goneS num den adj frac i * cN) := by
          split
          · rw [hG]
          · rw [← hG, List.drop_of_length_le (by omega), List.drop_of_length_le (by omega)]
        have d3 : (decide (0 ≤ if (ph num den adj frac).gone i * cN < (rest.length : Int) then (ph num den adj frac).gone i * cN else (rest.length : Int)) && decide ((if (ph num den adj frac).gone i * cN < (rest.length : Int) then (ph num den adj frac).gone i * cN else (rest.length : Int)) ≤ (rest.length : Int))) = true := by
          simp only [Bool.and_eq_true, decide_eq_true_eq]
          split <;> omega
        have htk : rest.take ((rest.length : Int)).toNat = rest := List.take_of_length_le (by omega)
        simp only [d3, cond_true, htk, hdrop]
        have hcl : f143 k (rest.drop (goneS num den adj frac i * cN)) = some (rest.drop (goneS num den adj frac i * cN)) := by
          unfold f143
          have hl := rs_len ((rsOK_iff _ _ _ _ _ _ _).2 h)
          have hb : (decide ((rest.drop (goneS num den adj frac i * cN)).length * 4 ≤ maxBytes) && decide ((rest.drop (goneS num den adj frac i * cN)).length ≤ maxLen)) = true := by
            unfold maxBytes maxLen
            simp only [Bool.and_eq_true, decide_eq_true_eq, List.length_drop]
            omega
          rw [hb, cond_true]
        rw [hcl, Option.bind_some]
    · simp only [outS, hwN, ec, ew, en, out, Int.toNat_zero, Int.toNat_natCast, Nat.sub_zero, List.nil_append, List.range_eq_range']
  · have : ((advS num den adj pos frac n).2 != 0) = true := by simpa using he
    rw [if_neg he]
    simp only [this, cond_true]
end Go.Proofs.Ytbfkfobfhjgphaa.Sp
