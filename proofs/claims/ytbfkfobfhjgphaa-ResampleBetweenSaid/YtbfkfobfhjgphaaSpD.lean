/- What the program's resampler does, in plain words: feeding, taking, converting, finishing; and the reference's. -/
import Derived.Test.YtbfkfobfhjgphaaSpC
set_option linter.unusedVariables false
set_option linter.unusedSimpArgs false
namespace Go.Proofs.Ytbfkfobfhjgphaa.Sp
open Go Go.Pev Go.Snd Go.Proofs.Ytbfkfobfhjgphaa.Fn

abbrev RsT := Int × Int × Int × Int × Int × Int × List Int
abbrev BkT := Int × List Int
def zeroR : RsT := (0, 0, 0, 0, 0, 0, [])
def zeroB : BkT := (0, [])

noncomputable def takeS (ch num den adj pos frac : Int) (rest : List Int) (n : Int) : BkT × RsT × Int :=
  if checkS (rsOK ch num den adj pos frac rest) n = 0 then
    if frames ch rest < (ph num den adj frac).need n then (zeroB, zeroR, 4) else prodS ch num den adj pos frac rest n
  else (zeroB, zeroR, checkS (rsOK ch num den adj pos frac rest) n)
theorem check_ph {ch num den adj pos frac : Int} {rest : List Int} {n : Int} (h : checkS (rsOK ch num den adj pos frac rest) n = 0) : RsOK ch num den adj pos frac rest ∧ 0 ≤ n ∧ n ≤ 65536 ∧ checkS (phOK num den adj pos frac) n = 0 := by
  obtain ⟨h1, h2, h3⟩ := (checkS_zero _ _).1 h
  have h4 := (rsOK_iff _ _ _ _ _ _ _).1 h1
  exact ⟨h4, h2, h3, (checkS_zero _ _).2 ⟨(phOK_iff _ _ _ _ _).2 h4.p, h2, h3⟩⟩
theorem ch_ne {ch : Int} (h : 1 ≤ ch) : (ch == 0) = false := by simp; omega
theorem need_frames {num den adj pos frac : Int} (h : PhOK num den adj pos frac) {n w : Int} (h0 : 0 ≤ n) (hn : (ph num den adj frac).need n ≤ w) : n = 0 ∨ 1 ≤ w := by
  by_cases hz : n = 0
  · exact .inl hz
  · right
    rw [(ph num den adj frac).need_eq hz] at hn
    have := (ph num den adj frac).gone_nonneg h.ok (show 0 ≤ n - 1 by omega)
    omega
theorem s34 {k : Nat} (hk : Big k) (ch num den adj pos frac : Int) (rest : List Int) (hd : rest.length ≤ 1000000000000) (n : Int) : f34 k ((ch, num, den, adj, pos, frac, rest), n) = some (takeS ch num den adj pos frac rest n) := by
  unfold f34 takeS
  rw [s90 hk _ _ _ _ _ _ _ hd, Option.bind_some]
  by_cases he : checkS (rsOK ch num den adj pos frac rest) n = 0
  · obtain ⟨h, h0, h1, h2⟩ := check_ph he
    have hn : needS num den adj pos frac n = ((ph num den adj frac).need n, 0) := by unfold needS; rw [if_pos h2]
    rw [he]
    simp only [bne_self_eq_false, cond_false, if_true, s91 hk, hn, Option.bind_some, ch_ne h.b.c1, w_frames h.b, gt_iff_lt]
    by_cases hs : frames ch rest < (ph num den adj frac).need n
    · simp [hs, zeroB, zeroR]
    · simp only [hs, decide_false, cond_false, if_false]
      rw [s92 hk h h0 h1 (need_frames h.p h0 (by omega)), Option.bind_some]
  · have e2 : (checkS (rsOK ch num den adj pos frac rest) n != 0) = true := by simpa using he
    rw [if_neg he]
    simp only [e2, cond_true]
    rfl
noncomputable def finS (ch num den adj pos frac : Int) (rest : List Int) (n : Int) : BkT × RsT × Int :=
  if checkS (rsOK ch num den adj pos frac rest) n = 0 then prodS ch num den adj pos frac rest (min n ((ph num den adj frac).left (frames ch rest)))
  else (zeroB, zeroR, checkS (rsOK ch num den adj pos frac rest) n)
theorem left_frames (p : Ph) (h : p.OK) {w : Int} (hw : 0 ≤ w) : p.left w = 0 ∨ 1 ≤ w := by
  unfold Ph.left
  split
  · rename_i hh
    right
    have := h.hP
    have := h.hF
    by_cases h1 : 0 < w
    · omega
    · have : w = 0 := by omega
      subst this
      omega
  · exact .inl rfl
theorem s36 {k : Nat} (hk : Big k) (ch num den adj pos frac : Int) (rest : List Int) (hd : rest.length ≤ 1000000000000) (n : Int) : f36 k ((ch, num, den, adj, pos, frac, rest), n) = some (finS ch num den adj pos frac rest n) := by
  unfold f36 finS
  rw [s90 hk _ _ _ _ _ _ _ hd, Option.bind_some]
  by_cases he : checkS (rsOK ch num den adj pos frac rest) n = 0
  · obtain ⟨h, h0, h1, h2⟩ := check_ph he
    have d1 := h.p.d1
    have d2 := h.p.d2
    have f0 := h.p.f0
    have f1 := h.p.f1
    have w0 := frames_nonneg (d := rest) h.b.c1
    have w1 : frames ch rest ≤ 65536 := h.b.l
    obtain ⟨m1, m2⟩ := mul_bd w0 w1 (show 0 ≤ den * 65536 by omega) (show den * 65536 ≤ 50331648000 by omega)
    have n1 := h.p.n1
    have n2 := h.p.n2
    have a1 := h.p.a1
    have a2 := h.p.a2
    obtain ⟨m3, m4⟩ := mul_bd (show 0 ≤ num by omega) n2 (show 0 ≤ 65536 + adj by omega) (show 65536 + adj ≤ 69632 by omega)
    have hS := h.p.ok.hS
    have eS : (ph num den adj frac).S = num * (65536 + adj) := rfl
    have eP : (ph num den adj frac).P = den * 65536 := rfl
    have eF : (ph num den adj frac).F = frac := rfl
    have e1 : IntKind.wrap .i64 (den * 65536) = den * 65536 := w64 (by omega) (by omega)
    have e2 : IntKind.wrap .i64 (65536 + adj) = 65536 + adj := w64 (by omega) (by omega)
    have e3 : IntKind.wrap .i64 (num * (65536 + adj)) = num * (65536 + adj) := w64 (by omega) (by omega)
    have e4 : IntKind.wrap .i64 (frames ch rest * (den * 65536)) = frames ch rest * (den * 65536) := w64 (by omega) (by omega)
    have e5 : IntKind.wrap .i64 (frames ch rest * (den * 65536) - frac) = frames ch rest * (den * 65536) - frac := w64 (by omega) (by omega)
    have e6 : IntKind.wrap .i64 (frames ch rest * (den * 65536) - frac + num * (65536 + adj)) = frames ch rest * (den * 65536) - frac + num * (65536 + adj) := w64 (by omega) (by omega)
    have e7 : IntKind.wrap .i64 (frames ch rest * (den * 65536) - frac + num * (65536 + adj) - 1) = frames ch rest * (den * 65536) - frac + num * (65536 + adj) - 1 := w64 (by omega) (by omega)
    have hS0 : (num * (65536 + adj) == 0) = false := by simp only [beq_eq_false_iff_ne]; omega
    rw [he]
    simp only [bne_self_eq_false, cond_false, if_true, ch_ne h.b.c1, w_frames h.b, gt_iff_lt, e1, e2, e3, e4, e5, e6, e7, hS0]
    have hleft : (ph num den adj frac).left (frames ch rest) = if 0 < frames ch rest * (den * 65536) - frac then (frames ch rest * (den * 65536) - frac + num * (65536 + adj) - 1) / (num * (65536 + adj)) else 0 := rfl
    by_cases hp : 0 < frames ch rest * (den * 65536) - frac
    · have t0 : 0 ≤ frames ch rest * (den * 65536) - frac + num * (65536 + adj) - 1 := by omega
      have t1 : 0 ≤ (frames ch rest * (den * 65536) - frac + num * (65536 + adj) - 1) / (num * (65536 + adj)) := Int.ediv_nonneg t0 m3
      have t2 : (frames ch rest * (den * 65536) - frac + num * (65536 + adj) - 1) / (num * (65536 + adj)) ≤ frames ch rest * (den * 65536) - frac + num * (65536 + adj) - 1 := Int.ediv_le_self _ t0
      simp only [hp, decide_true, cond_true, tdiv_pos t0]
      rw [w64 (by omega) (by omega)]
      rw [if_pos hp] at hleft
      rw [← hleft] at t1 ⊢
      have hmin : (if (ph num den adj frac).left (frames ch rest) < n then (ph num den adj frac).left (frames ch rest) else n) = min n ((ph num den adj frac).left (frames ch rest)) := by
        split <;> omega
      rw [hmin]
      have hlf := left_frames (ph num den adj frac) h.p.ok w0
      rw [s92 hk h (by omega) (by omega) (by omega), Option.bind_some]
    · rw [if_neg hp] at hleft
      simp only [hp, decide_false, cond_false]
      rw [hleft, show min n 0 = 0 by omega, s92 hk h (by omega) (by omega) (.inl rfl), Option.bind_some]
  · have e2 : (checkS (rsOK ch num den adj pos frac rest) n != 0) = true := by simpa using he
    rw [if_neg he]
    simp only [e2, cond_true]
    rfl

/-! ### feeding -/
theorem s82 {k : Nat} (hk : Big k) (a b : List Int) (ha : a.length ≤ 100000000000) (hb : b.length ≤ 100000000000) : f82 k [a, b] = some (a ++ b) := by
  unfold f82
  obtain ⟨k, rfl⟩ : ∃ j, k = j + 3 := ⟨k - 3, by unfold Big at hk; omega⟩
  have w0 : IntKind.wrap .i64 (a.length : Int) = a.length := w64 (by omega) (by omega)
  have w1 : IntKind.wrap .i64 (1 : Int) = 1 := w64 (by omega) (by omega)
  have w2 : IntKind.wrap .i64 ((a.length : Int) + b.length) = a.length + b.length := w64 (by omega) (by omega)
  have w3 : IntKind.wrap .i64 (2 : Int) = 2 := w64 (by omega) (by omega)
  have n1 : ¬ ((a.length : Int) < 0) := by omega
  have n2 : ¬ ((a.length : Int) + b.length < 0) := by omega
  have hf : f133 (k + 3) ((), (a.length : Int) + b.length) = some [] := by
    unfold f133 maxBytes
    have : (decide (0 ≤ (a.length : Int) + b.length) && decide (((a.length : Int) + b.length).toNat * 4 ≤ 140737488355328)) = true := by
      simp only [Bool.and_eq_true, decide_eq_true_eq]
      omega
    simp only [this, cond_true]
  have m1 := maxB (show a.length ≤ 1000000000000 by omega)
  have m2 := maxB (show a.length + b.length ≤ 1000000000000 by omega)
  have t1 : ∀ {R : Type} (K0 : (List (List Int) × Int) → Option R) next, L82_3 (k + 3) K0 ([a, b], 0, [a, b], 2, 0) next = next ([a, b], (a.length : Int), [a, b], 2, 1) := by
    intro R K0 next; unfold L82_3; simp [w0, w1, n1]
  have t2 : ∀ {R : Type} (K0 : (List (List Int) × Int) → Option R) next, L82_3 (k + 3) K0 ([a, b], (a.length : Int), [a, b], 2, 1) next = next ([a, b], (a.length : Int) + b.length, [a, b], 2, 2) := by
    intro R K0 next; unfold L82_3; simp [w2, w3, n2]
  have t3 : ∀ {R : Type} (K0 : (List (List Int) × Int) → Option R) next, L82_3 (k + 3) K0 ([a, b], (a.length : Int) + b.length, [a, b], 2, 2) next = K0 ([a, b], (a.length : Int) + b.length) := by
    intro R K0 next; unfold L82_3; simp
  have t4 : ∀ {R : Type} (K0 : List Int → Option R) next, L82_11 (k + 3) K0 ([a, b], 2, 0, []) next = next ([a, b], 2, 1, a) := by
    intro R K0 next; unfold L82_11
    simp only [List.length_cons, List.length_nil]
    simp [w1]
    rw [m1, cond_true]
  have t5 : ∀ {R : Type} (K0 : List Int → Option R) next, L82_11 (k + 3) K0 ([a, b], 2, 1, a) next = next ([a, b], 2, 2, a ++ b) := by
    intro R K0 next; unfold L82_11
    simp only [List.length_cons, List.length_nil]
    simp [w3]
    rw [m2, cond_true]
  have t6 : ∀ {R : Type} (K0 : List Int → Option R) next, L82_11 (k + 3) K0 ([a, b], 2, 2, a ++ b) next = K0 (a ++ b) := by
    intro R K0 next; unfold L82_11; simp
  show L82_3 (k + 3) _ ([a, b], 0, [a, b], 2, 0) (loopC (k + 2) _) = _
  rw [t1]
  show L82_3 (k + 3) _ _ (loopC (k + 1) _) = _
  rw [t2]
  show L82_3 (k + 3) _ _ (loopC k _) = _
  rw [t3]
  simp only [hf, Option.bind_some]
  show L82_11 (k + 3) _ ([a, b], 2, 0, []) (loopC (k + 2) _) = _
  rw [t4]
  show L82_11 (k + 3) _ _ (loopC (k + 1) _) = _
  rw [t5]
  show L82_11 (k + 3) _ _ (loopC k _) = _
  rw [t6]

def feedS (ch num den adj pos frac : Int) (rest : List Int) (bc : Int) (bd : List Int) : RsT × Int :=
  if rsOK ch num den adj pos frac rest = true ∧ bkOK bc bd = true then
    if bc = ch then
      if 65536 < ((rest.length : Int) + bd.length) / ch then (zeroR, 3) else ((ch, num, den, adj, pos, frac, rest ++ bd), 0)
    else (zeroR, 11)
  else (zeroR, 1)
theorem s25 {k : Nat} (hk : Big k) (ch num den adj pos frac : Int) (rest : List Int) (bc : Int) (bd : List Int) (h1 : rest.length ≤ 1000000000000) (h2 : bd.length ≤ 1000000000000) :
    f25 k ((ch, num, den, adj, pos, frac, rest), bc, bd) = some (feedS ch num den adj pos frac rest bc bd) := by
  unfold f25 feedS
  simp only [s28 hk _ _ _ _ _ _ _ h1, s81 hk _ _ h2, Option.bind_some]
  cases hr : rsOK ch num den adj pos frac rest with
  | false => simp [zeroR]
  | true =>
    cases hb : bkOK bc bd with
    | false => simp [zeroR]
    | true =>
      have h := ((rsOK_iff _ _ _ _ _ _ _).1 hr).b
      have l1 := h.len_le
      have l2 := ((bkOK_iff _ _).1 hb).len_le
      simp only [Bool.not_true, cond_false, and_self, if_true]
      by_cases hc : bc = ch
      · subst hc
        have e0 : (0 : Int) ≤ (rest.length : Int) + bd.length := by omega
        have e1 := Int.ediv_nonneg e0 (show 0 ≤ bc by have := h.c1; omega)
        have e2 := Int.ediv_le_self bc e0
        simp only [bne_self_eq_false, cond_false, ch_ne h.c1, if_true]
        rw [w64 (x := (rest.length : Int) + bd.length) (by omega) (by omega), tdiv_pos e0, w64 (by omega) (by omega)]
        by_cases hh : 65536 < ((rest.length : Int) + bd.length) / bc
        · simp [hh, zeroR]
        · simp only [gt_iff_lt, hh, decide_false, cond_false, if_false]
          rw [s82 hk _ _ (by omega) (by omega), Option.bind_some]
      · have : (bc != ch) = true := by simpa using hc
        simp [this, hc, zeroR]
theorem feedS_ok {ch num den adj pos frac : Int} {rest : List Int} {bc : Int} {bd : List Int} (h : (feedS ch num den adj pos frac rest bc bd).2 = 0) :
    feedS ch num den adj pos frac rest bc bd = ((ch, num, den, adj, pos, frac, rest ++ bd), 0) ∧ RsOK ch num den adj pos frac (rest ++ bd) ∧ RsOK ch num den adj pos frac rest ∧ BkOK ch bd ∧ bc = ch := by
  unfold feedS at h ⊢
  split at h
  · rename_i h0
    rw [if_pos h0]
    split at h
    · rename_i h1
      rw [if_pos h1]
      split at h
      · simp at h
      · rename_i h2
        rw [if_neg h2]
        subst h1
        have a := (rsOK_iff _ _ _ _ _ _ _).1 h0.1
        have b := (bkOK_iff _ _).1 h0.2
        refine ⟨rfl, ⟨a.p, ⟨a.b.c1, a.b.c2, ?_, ?_, fun x hx => ?_⟩⟩, a, b, rfl⟩
        · rw [List.length_append, Int.natCast_add, Int.add_emod, a.b.m, b.m]; simp
        · rw [List.length_append, Int.natCast_add]; omega
        · rcases List.mem_append.1 hx with hx | hx
          · exact a.b.s x hx
          · exact b.s x hx
    · simp at h
  · simp at h
noncomputable def convS (ch num den adj pos frac : Int) (rest : List Int) (bc : Int) (bd : List Int) : BkT × RsT × Int :=
  if (feedS ch num den adj pos frac rest bc bd).2 = 0 then
    takeS ch num den adj pos frac (rest ++ bd) ((ph num den adj frac).make (frames ch (rest ++ bd)))
  else (zeroB, zeroR, (feedS ch num den adj pos frac rest bc bd).2)
theorem s39 {k : Nat} (hk : Big k) (ch num den adj pos frac : Int) (rest : List Int) (bc : Int) (bd : List Int) (h1 : rest.length ≤ 100000000000) (h2 : bd.length ≤ 100000000000) :
    f39 k ((ch, num, den, adj, pos, frac, rest), bc, bd) = some (convS ch num den adj pos frac rest bc bd) := by
  unfold f39 convS
  rw [s25 hk _ _ _ _ _ _ _ _ _ (by omega) (by omega), Option.bind_some]
  by_cases he : (feedS ch num den adj pos frac rest bc bd).2 = 0
  · obtain ⟨e, h, _⟩ := feedS_ok he
    have w0 := frames_nonneg (d := rest ++ bd) h.b.c1
    have w1 : frames ch (rest ++ bd) ≤ 65536 := h.b.l
    have hm : makeS num den adj pos frac (frames ch (rest ++ bd)) = ((ph num den adj frac).make (frames ch (rest ++ bd)), 0) := by
      unfold makeS
      rw [if_pos ((phOK_iff _ _ _ _ _).2 h.p), if_neg (by omega)]
    simp only [e, bne_self_eq_false, cond_false, ch_ne h.b.c1, if_true, w_frames h.b, s96 hk, hm, Option.bind_some]
    rw [s34 hk _ _ _ _ _ _ _ (by simp; omega), Option.bind_some]
  · have e2 : ((feedS ch num den adj pos frac rest bc bd).2 != 0) = true := by simpa using he
    rw [if_neg he]
    simp only [e2, cond_true]
    rfl

/-! ### the reference -/
theorem s29 {k : Nat} (hk : Big k) (ch num den adj pos frac : Int) (rest : List Int) (hd : rest.length ≤ 1000000000000) : f29 k (ch, num, den, adj, pos, frac, rest) = some (rsOK ch num den adj pos frac rest) := by
  unfold f29 rsOK f88
  simp only [s87 hk, s83 hk _ _ hd, Option.bind_some]
  cases phOK num den adj pos frac <;> simp
theorem s31 {k : Nat} (hk : Big k) (ch num den adj pos frac : Int) (rest : List Int) (hd : rest.length ≤ 1000000000000) : f31 k (ch, num, den, adj, pos, frac, rest) = some (waiting ch num den adj pos frac rest) := by
  unfold f31 waiting
  rw [s29 hk _ _ _ _ _ _ _ hd]
  simp only [Option.bind_some]
  cases hv : rsOK ch num den adj pos frac rest with
  | false => simp
  | true =>
    have h := ((rsOK_iff _ _ _ _ _ _ _).1 hv).b
    simp only [Bool.not_true, cond_false, ch_ne h.c1, if_true, w_frames h]
theorem s33 {k : Nat} (hk : Big k) (ch num den : Int) : f33 k (ch, num, den) = some (newS ch num den) := by
  unfold f33 newS
  simp only [s29 hk _ _ _ _ _ _ [] (by simp), Option.bind_some]
  cases rsOK ch num den 0 0 0 [] <;> simp
theorem s26 {k : Nat} (hk : Big k) (ch num den adj pos frac : Int) (rest : List Int) (bc : Int) (bd : List Int) (h1 : rest.length ≤ 1000000000000) (h2 : bd.length ≤ 1000000000000) :
    f26 k ((ch, num, den, adj, pos, frac, rest), bc, bd) = some (feedS ch num den adj pos frac rest bc bd) := by
  unfold f26 feedS
  simp only [s29 hk _ _ _ _ _ _ _ h1, s83 hk _ _ h2, Option.bind_some]
  cases hr : rsOK ch num den adj pos frac rest with
  | false => simp [zeroR]
  | true =>
    cases hb : bkOK bc bd with
    | false => simp [zeroR]
    | true =>
      have h := ((rsOK_iff _ _ _ _ _ _ _).1 hr).b
      have l1 := h.len_le
      have l2 := ((bkOK_iff _ _).1 hb).len_le
      simp only [Bool.not_true, cond_false, and_self, if_true]
      by_cases hc : bc = ch
      · subst hc
        have e0 : (0 : Int) ≤ (rest.length : Int) + bd.length := by omega
        have e1 := Int.ediv_nonneg e0 (show 0 ≤ bc by have := h.c1; omega)
        have e2 := Int.ediv_le_self bc e0
        simp only [bne_self_eq_false, cond_false, ch_ne h.c1, if_true]
        rw [w64 (x := (rest.length : Int) + bd.length) (by omega) (by omega), tdiv_pos e0, w64 (by omega) (by omega)]
        by_cases hh : 65536 < ((rest.length : Int) + bd.length) / bc
        · simp [hh, zeroR]
        · simp only [gt_iff_lt, hh, decide_false, cond_false, if_false]
          rw [maxB (show rest.length ≤ 1000000000000 by omega), maxB (show rest.length + bd.length ≤ 1000000000000 by omega)]
          rfl
      · have : (bc != ch) = true := by simpa using hc
        simp [this, hc, zeroR]
end Go.Proofs.Ytbfkfobfhjgphaa.Sp
