/- What bridges do, in plain words: the program's and the reference's are the same. -/
import Derived.Test.YtbfkfobfhjgphaaSpH
import Derived.Test.YtbfkfobfhjgphaaFnD2
set_option linter.unusedVariables false
set_option linter.unusedSimpArgs false
namespace Go.Proofs.Ytbfkfobfhjgphaa.Sp
open Go Go.Pev Go.Snd Go.Proofs.Ytbfkfobfhjgphaa.Fn

def ctOK (tgt dead gain most : Int) : Bool := decide (0 ≤ tgt) && decide (tgt ≤ 65536) && decide (0 ≤ dead) && decide (dead ≤ 65536) && decide (1 ≤ gain) && decide (gain ≤ 4096) && decide (0 ≤ most) && decide (most ≤ 4096)
structure CtOK (tgt dead gain most : Int) : Prop where
  t0 : 0 ≤ tgt
  t1 : tgt ≤ 65536
  d0 : 0 ≤ dead
  d1 : dead ≤ 65536
  g0 : 1 ≤ gain
  g1 : gain ≤ 4096
  m0 : 0 ≤ most
  m1 : most ≤ 4096
theorem ctOK_iff (tgt dead gain most : Int) : ctOK tgt dead gain most = true ↔ CtOK tgt dead gain most := by
  unfold ctOK
  simp only [Bool.and_eq_true, decide_eq_true_eq]
  exact ⟨fun ⟨⟨⟨⟨⟨⟨⟨a, b⟩, c⟩, d⟩, e⟩, f⟩, g⟩, h⟩ => ⟨a, b, c, d, e, f, g, h⟩, fun ⟨a, b, c, d, e, f, g, h⟩ => ⟨⟨⟨⟨⟨⟨⟨a, b⟩, c⟩, d⟩, e⟩, f⟩, g⟩, h⟩⟩
theorem s106 (k : Nat) (tgt dead gain most : Int) : f106 k (tgt, dead, gain, most) = some (ctOK tgt dead gain most) := by
  unfold f106 ctOK
  simp only [ge_iff_le]
  by_cases h1 : 0 ≤ tgt <;> simp only [h1, decide_true, decide_false, cond_true, cond_false, Bool.false_and, Bool.true_and]
  by_cases h2 : tgt ≤ 65536 <;> simp only [h2, decide_true, decide_false, cond_true, cond_false, Bool.false_and, Bool.true_and]
  by_cases h3 : 0 ≤ dead <;> simp only [h3, decide_true, decide_false, cond_true, cond_false, Bool.false_and, Bool.true_and]
  by_cases h4 : dead ≤ 65536 <;> simp only [h4, decide_true, decide_false, cond_true, cond_false, Bool.false_and, Bool.true_and]
  by_cases h5 : 1 ≤ gain <;> simp only [h5, decide_true, decide_false, cond_true, cond_false, Bool.false_and, Bool.true_and]
  by_cases h6 : gain ≤ 4096 <;> simp only [h6, decide_true, decide_false, cond_true, cond_false, Bool.false_and, Bool.true_and]
  by_cases h7 : 0 ≤ most <;> simp only [h7, decide_true, decide_false, cond_true, cond_false, Bool.false_and, Bool.true_and]
theorem s107 (k : Nat) (tgt dead gain most : Int) : f107 k (tgt, dead, gain, most) = some (ctOK tgt dead gain most) := s106 k tgt dead gain most

abbrev BrT := Int × Int × Int × Int × Int × Int × Int × Int × Int × Int × Int × List Int × Int × Int
def zeroBr : BrT := (0, 0, 0, 0, 0, 0, 0, 0, 0, 0, 0, [], 0, 0)
def brOK (cap tgt dead gain most ch num den adj pos frac : Int) (rest : List Int) (lost missed : Int) : Bool :=
  rsOK ch num den adj pos frac rest && ctOK tgt dead gain most && decide (1 ≤ cap) && decide (cap ≤ 65536) && decide (waiting ch num den adj pos frac rest ≤ cap) && decide (0 ≤ lost) && decide (0 ≤ missed)
structure BrOK (cap tgt dead gain most ch num den adj pos frac : Int) (rest : List Int) (lost missed : Int) : Prop where
  r : RsOK ch num den adj pos frac rest
  c : CtOK tgt dead gain most
  c0 : 1 ≤ cap
  c1 : cap ≤ 65536
  w : frames ch rest ≤ cap
  l0 : 0 ≤ lost
  m0 : 0 ≤ missed
theorem waiting_eq' {ch num den adj pos frac : Int} {rest : List Int} (h : RsOK ch num den adj pos frac rest) : waiting ch num den adj pos frac rest = frames ch rest := by
  unfold waiting; rw [if_pos ((rsOK_iff _ _ _ _ _ _ _).2 h)]
theorem brOK_iff (cap tgt dead gain most ch num den adj pos frac : Int) (rest : List Int) (lost missed : Int) : brOK cap tgt dead gain most ch num den adj pos frac rest lost missed = true ↔ BrOK cap tgt dead gain most ch num den adj pos frac rest lost missed := by
  unfold brOK
  simp only [Bool.and_eq_true, decide_eq_true_eq, rsOK_iff, ctOK_iff]
  exact ⟨fun ⟨⟨⟨⟨⟨⟨a, b⟩, c⟩, d⟩, e⟩, f⟩, g⟩ => ⟨a, b, c, d, by rw [waiting_eq' a] at e; exact e, f, g⟩, fun ⟨a, b, c, d, e, f, g⟩ => ⟨⟨⟨⟨⟨⟨a, b⟩, c⟩, d⟩, by rw [waiting_eq' a]; exact e⟩, f⟩, g⟩⟩
theorem s57 {k : Nat} (hk : Big k) (cap tgt dead gain most ch num den adj pos frac : Int) (rest : List Int) (lost missed : Int) (hd : rest.length ≤ 1000000000000) : f57 k (cap, tgt, dead, gain, most, ch, num, den, adj, pos, frac, rest, lost, missed) = some (brOK cap tgt dead gain most ch num den adj pos frac rest lost missed) := by
  unfold f57 brOK
  simp only [s28 hk _ _ _ _ _ _ _ hd, s30 hk _ _ _ _ _ _ _ hd, s106, Option.bind_some, ge_iff_le]
  cases rsOK ch num den adj pos frac rest <;> simp only [cond_true, cond_false, Bool.false_and, Bool.true_and]
  cases ctOK tgt dead gain most <;> simp only [cond_true, cond_false, Bool.false_and, Bool.true_and]
  by_cases h1 : 1 ≤ cap <;> simp only [h1, decide_true, decide_false, cond_true, cond_false, Bool.false_and, Bool.true_and]
  by_cases h2 : cap ≤ 65536 <;> simp only [h2, decide_true, decide_false, cond_true, cond_false, Bool.false_and, Bool.true_and]
  by_cases h3 : waiting ch num den adj pos frac rest ≤ cap <;> simp only [h3, decide_true, decide_false, cond_true, cond_false, Bool.false_and, Bool.true_and]
  by_cases h4 : 0 ≤ lost <;> simp only [h4, decide_true, decide_false, cond_true, cond_false, Bool.false_and, Bool.true_and]
theorem s58 {k : Nat} (hk : Big k) (cap tgt dead gain most ch num den adj pos frac : Int) (rest : List Int) (lost missed : Int) (hd : rest.length ≤ 1000000000000) : f58 k (cap, tgt, dead, gain, most, ch, num, den, adj, pos, frac, rest, lost, missed) = some (brOK cap tgt dead gain most ch num den adj pos frac rest lost missed) := by
  unfold f58 brOK
  simp only [s29 hk _ _ _ _ _ _ _ hd, s31 hk _ _ _ _ _ _ _ hd, s107, Option.bind_some, ge_iff_le]
  cases rsOK ch num den adj pos frac rest <;> simp only [cond_true, cond_false, Bool.false_and, Bool.true_and]
  cases ctOK tgt dead gain most <;> simp only [cond_true, cond_false, Bool.false_and, Bool.true_and]
  by_cases h1 : 1 ≤ cap <;> simp only [h1, decide_true, decide_false, cond_true, cond_false, Bool.false_and, Bool.true_and]
  by_cases h2 : cap ≤ 65536 <;> simp only [h2, decide_true, decide_false, cond_true, cond_false, Bool.false_and, Bool.true_and]
  by_cases h3 : waiting ch num den adj pos frac rest ≤ cap <;> simp only [h3, decide_true, decide_false, cond_true, cond_false, Bool.false_and, Bool.true_and]
  by_cases h4 : 0 ≤ lost <;> simp only [h4, decide_true, decide_false, cond_true, cond_false, Bool.false_and, Bool.true_and]
def fillS (cap tgt dead gain most ch num den adj pos frac : Int) (rest : List Int) (lost missed : Int) : Int := if brOK cap tgt dead gain most ch num den adj pos frac rest lost missed = true then frames ch rest else 0
theorem s59 {k : Nat} (hk : Big k) (cap tgt dead gain most ch num den adj pos frac : Int) (rest : List Int) (lost missed : Int) (hd : rest.length ≤ 1000000000000) : f59 k (cap, tgt, dead, gain, most, ch, num, den, adj, pos, frac, rest, lost, missed) = some (fillS cap tgt dead gain most ch num den adj pos frac rest lost missed) := by
  unfold f59 fillS
  rw [s57 hk _ _ _ _ _ _ _ _ _ _ _ _ _ _ hd, Option.bind_some]
  cases hb : brOK cap tgt dead gain most ch num den adj pos frac rest lost missed with
  | false => simp
  | true =>
    simp only [Bool.not_true, cond_false, s30 hk _ _ _ _ _ _ _ hd, Option.bind_some, waiting_eq' ((brOK_iff _ _ _ _ _ _ _ _ _ _ _ _ _ _).1 hb).r, if_true]
theorem s60 {k : Nat} (hk : Big k) (cap tgt dead gain most ch num den adj pos frac : Int) (rest : List Int) (lost missed : Int) (hd : rest.length ≤ 1000000000000) : f60 k (cap, tgt, dead, gain, most, ch, num, den, adj, pos, frac, rest, lost, missed) = some (fillS cap tgt dead gain most ch num den adj pos frac rest lost missed) := by
  unfold f60 fillS
  rw [s58 hk _ _ _ _ _ _ _ _ _ _ _ _ _ _ hd, Option.bind_some]
  cases hb : brOK cap tgt dead gain most ch num den adj pos frac rest lost missed with
  | false => simp
  | true =>
    simp only [Bool.not_true, cond_false, s31 hk _ _ _ _ _ _ _ hd, Option.bind_some, waiting_eq' ((brOK_iff _ _ _ _ _ _ _ _ _ _ _ _ _ _).1 hb).r, if_true]

/-! ### the control -/
def adjS (tgt dead gain most fill : Int) : Int := if fill < tgt then -(min most (max 0 (tgt - fill - dead) * gain)) else min most (max 0 (fill - tgt - dead) * gain)
theorem adjS_bd {tgt dead gain most : Int} (h : CtOK tgt dead gain most) (fill : Int) : -most ≤ adjS tgt dead gain most fill ∧ adjS tgt dead gain most fill ≤ most := by
  have g0 := h.g0
  have m0 := h.m0
  have e1 := Int.mul_nonneg (show 0 ≤ max 0 (tgt - fill - dead) by omega) (show 0 ≤ gain by omega)
  have e2 := Int.mul_nonneg (show 0 ≤ max 0 (fill - tgt - dead) by omega) (show 0 ≤ gain by omega)
  unfold adjS
  split <;> omega
theorem s149 (k : Nat) {tgt dead gain most : Int} (h : CtOK tgt dead gain most) {d : Int} (h0 : 0 ≤ d) (h1 : d ≤ 4294967296) : f149 k (d, tgt, dead, gain, most) = some (min most (max 0 (d - dead) * gain), tgt, dead, gain, most) := by
  unfold f149
  have a1 := h.d0
  have a2 := h.d1
  have a3 := h.g0
  have a4 := h.g1
  have e1 : IntKind.wrap .i64 (d - dead) = d - dead := w64 (by omega) (by omega)
  have e2 : (if d - dead > 0 then d - dead else 0) = max 0 (d - dead) := by split <;> omega
  obtain ⟨b1, b2⟩ := mul_bd (show 0 ≤ max 0 (d - dead) by omega) (show max 0 (d - dead) ≤ 4294967296 by omega) (show 0 ≤ gain by omega) a4
  have e3 : IntKind.wrap .i64 (max 0 (d - dead) * gain) = max 0 (d - dead) * gain := w64 (by omega) (by omega)
  simp only [e1, e2, e3]
  congr 2
  split <;> omega
theorem s103 (k : Nat) {tgt dead gain most : Int} (h : CtOK tgt dead gain most) {fill : Int} (h0 : 0 ≤ fill) (h1 : fill ≤ 65536) : f103 k ((tgt, dead, gain, most), fill) = some (adjS tgt dead gain most fill) := by
  unfold f103 adjS
  have t0 := h.t0
  have t1 := h.t1
  have m0 := h.m0
  have m1 := h.m1
  have g0 := h.g0
  have e1 : ¬ fill < 0 := by omega
  have e2 : ¬ fill > 2147483647 := by omega
  simp only [s106, (ctOK_iff _ _ _ _).2 h, Option.bind_some, Bool.not_true, cond_false, e1, e2, decide_false]
  by_cases hlt : fill < tgt
  · have e3 : IntKind.wrap .i64 (tgt - fill) = tgt - fill := w64 (by omega) (by omega)
    simp only [hlt, decide_true, cond_true, if_true, e3, s149 k h (show 0 ≤ tgt - fill by omega) (by omega), Option.bind_some]
    have e4 := Int.mul_nonneg (show 0 ≤ max 0 (tgt - fill - dead) by omega) (show 0 ≤ gain by omega)
    rw [w64 (by omega) (by omega)]
    congr 1
    omega
  · have e3 : IntKind.wrap .i64 (fill - tgt) = fill - tgt := w64 (by omega) (by omega)
    simp only [hlt, decide_false, cond_false, if_false, e3, s149 k h (show 0 ≤ fill - tgt by omega) (by omega), Option.bind_some]
theorem s105 (k : Nat) {tgt dead gain most : Int} (h : CtOK tgt dead gain most) {fill : Int} (h0 : 0 ≤ fill) (h1 : fill ≤ 65536) : f105 k ((tgt, dead, gain, most), fill) = some (adjS tgt dead gain most fill) := by
  unfold f105 adjS
  have t0 := h.t0
  have t1 := h.t1
  have d0 := h.d0
  have d1 := h.d1
  have m0 := h.m0
  have m1 := h.m1
  have g0 := h.g0
  have g1 := h.g1
  have e1 : ¬ fill < 0 := by omega
  have e2 : ¬ fill > 2147483647 := by omega
  have e3 : IntKind.wrap .i64 (fill - tgt) = fill - tgt := w64 (by omega) (by omega)
  have e4 : IntKind.wrap .i64 (0 - dead) = 0 - dead := w64 (by omega) (by omega)
  have e5 : IntKind.wrap .i64 (0 - (fill - tgt)) = 0 - (fill - tgt) := w64 (by omega) (by omega)
  have e6 : IntKind.wrap .i64 (fill - tgt - dead) = fill - tgt - dead := w64 (by omega) (by omega)
  have e7 : IntKind.wrap .i64 (0 - (fill - tgt) - dead) = 0 - (fill - tgt) - dead := w64 (by omega) (by omega)
  simp only [s107, (ctOK_iff _ _ _ _).2 h, Option.bind_some, Bool.not_true, cond_false, e1, e2, decide_false, e3, e4, e5, e6, e7, gt_iff_lt]
  by_cases hu : dead < fill - tgt
  · obtain ⟨b1, b2⟩ := mul_bd (show 0 ≤ fill - tgt - dead by omega) (show fill - tgt - dead ≤ 65536 by omega) (show 0 ≤ gain by omega) g1
    have hmin : ∀ X : Int, (if X < most then X else most) = min most X := by intro X; split <;> omega
    simp only [hu, decide_true, cond_true, hmin]
    rw [w64 (by omega) (by omega), if_neg (by omega), show max 0 (fill - tgt - dead) = fill - tgt - dead by omega]
  · simp only [hu, decide_false, cond_false]
    by_cases hl : fill - tgt < 0 - dead
    · obtain ⟨b1, b2⟩ := mul_bd (show 0 ≤ 0 - (fill - tgt) - dead by omega) (show 0 - (fill - tgt) - dead ≤ 65536 by omega) (show 0 ≤ gain by omega) g1
      have hmin : ∀ X : Int, (if X < most then X else most) = min most X := by intro X; split <;> omega
      simp only [hl, decide_true, cond_true, hmin]
      rw [w64 (x := (0 - (fill - tgt) - dead) * gain) (by omega) (by omega), if_pos (by omega), show max 0 (tgt - fill - dead) = 0 - (fill - tgt) - dead by omega]
      generalize (0 - (fill - tgt) - dead) * gain = X at *
      rw [w64 (by omega) (by omega)]
      congr 1
      omega
    · simp only [hl, decide_false, cond_false]
      congr 1
      split
      · rw [show max 0 (tgt - fill - dead) = 0 by omega, Int.zero_mul]; omega
      · rw [show max 0 (fill - tgt - dead) = 0 by omega, Int.zero_mul]; omega
theorem s102 {k : Nat} (hk : Big k) {num den adj pos frac a : Int} (h : PhOK num den adj pos frac) (a1 : -4096 ≤ a) (a2 : a ≤ 4096) : f102 k ((num, den, adj, pos, frac), a) = some ((num, den, a, pos, frac), 0) := by
  unfold f102
  simp only [s85 hk, (phOK_iff _ _ _ _ _).2 h, s136, Option.bind_some, Bool.not_true, cond_false]
  have : (decide (-4096 ≤ a) && decide (a ≤ 4096)) = true := by simp only [Bool.and_eq_true, decide_eq_true_eq]; omega
  rw [this]
  rfl
theorem s104 {k : Nat} (hk : Big k) {num den adj pos frac a : Int} (h : PhOK num den adj pos frac) (a1 : -4096 ≤ a) (a2 : a ≤ 4096) : f104 k ((num, den, adj, pos, frac), a) = some ((num, den, a, pos, frac), 0) := by
  unfold f104
  have e1 : ¬ a < -4096 := by omega
  have e2 : ¬ a > 4096 := by omega
  simp only [s87 hk, (phOK_iff _ _ _ _ _).2 h, Option.bind_some, Bool.not_true, cond_false, e1, e2, decide_false]

/-! ### pushing -/
def pushS (cap tgt dead gain most ch num den adj pos frac : Int) (rest : List Int) (lost missed : Int) (xc : Int) (xd : List Int) : BrT × Int × Int :=
  if brOK cap tgt dead gain most ch num den adj pos frac rest lost missed = true ∧ bkOK xc xd = true then
    if xc = ch then
      ((cap, tgt, dead, gain, most, ch, num, den, adj, pos, frac, rest ++ xd.take ((min (frames ch xd) (cap - frames ch rest)).toNat * ch.toNat), IntKind.wrap .i64 (lost + (frames ch xd - min (frames ch xd) (cap - frames ch rest))), missed), frames ch xd - min (frames ch xd) (cap - frames ch rest), 0)
    else (zeroBr, 0, 11)
  else (zeroBr, 0, 1)
theorem feed_take {ch num den adj pos frac : Int} {rest xd : List Int} (h : RsOK ch num den adj pos frac rest) (hx : BkOK ch xd) {n : Nat} (hn : (n : Int) ≤ frames ch xd) (hl : frames ch rest + n ≤ 65536) :
    feedS ch num den adj pos frac rest ch (xd.take (n * ch.toNat)) = ((ch, num, den, adj, pos, frac, rest ++ xd.take (n * ch.toNat)), 0) ∧ RsOK ch num den adj pos frac (rest ++ xd.take (n * ch.toNat)) ∧ frames ch (rest ++ xd.take (n * ch.toNat)) = frames ch rest + n := by
  obtain ⟨t1, t2⟩ := take_ok hx hn
  obtain ⟨a1, a2⟩ := append_ok h.b t1 (by omega)
  refine ⟨?_, ⟨h.p, a1⟩, by rw [a2, t2]⟩
  unfold feedS
  rw [if_pos ⟨(rsOK_iff _ _ _ _ _ _ _).2 h, (bkOK_iff _ _).2 t1⟩, if_pos rfl, if_neg]
  have : ((rest.length : Int) + (xd.take (n * ch.toNat)).length) / ch = frames ch (rest ++ xd.take (n * ch.toNat)) := by unfold frames; rw [List.length_append, Int.natCast_add]
  omega
theorem s52 {k : Nat} (hk : Big k) (cap tgt dead gain most ch num den adj pos frac : Int) (rest : List Int) (lost missed : Int) (xc : Int) (xd : List Int) (hd : rest.length ≤ 1000000000000) (hx : xd.length ≤ 1000000000000) :
    f52 k ((cap, tgt, dead, gain, most, ch, num, den, adj, pos, frac, rest, lost, missed), xc, xd) = some (pushS cap tgt dead gain most ch num den adj pos frac rest lost missed xc xd) := by
  unfold f52 pushS
  simp only [s57 hk _ _ _ _ _ _ _ _ _ _ _ _ _ _ hd, s81 hk _ _ hx, Option.bind_some]
  cases hb : brOK cap tgt dead gain most ch num den adj pos frac rest lost missed with
  | false => simp [zeroBr]
  | true =>
    cases hv : bkOK xc xd with
    | false => simp [zeroBr]
    | true =>
      have h := (brOK_iff _ _ _ _ _ _ _ _ _ _ _ _ _ _).1 hb
      have hxk := (bkOK_iff _ _).1 hv
      simp only [Bool.not_true, cond_false, and_self, if_true]
      by_cases hc : xc = ch
      · subst hc
        have w0 := frames_nonneg (d := rest) h.r.b.c1
        have x0 := frames_nonneg (d := xd) h.r.b.c1
        have x1 : frames xc xd ≤ 65536 := hxk.l
        have hw := h.w
        have hc1 := h.c1
        have c1 := h.r.b.c1
        have c2 := h.r.b.c2
        have hxl := hxk.len_le
        have hxn := lenN hxk
        have e1 : IntKind.wrap .i64 (cap - frames xc rest) = cap - frames xc rest := w64 (by omega) (by omega)
        simp only [bne_self_eq_false, cond_false, ch_ne c1, s30 hk _ _ _ _ _ _ _ hd, waiting_eq' h.r, Option.bind_some, w_frames hxk, e1, if_true]
        have hmin : (if cap - frames xc rest < frames xc xd then cap - frames xc rest else frames xc xd) = min (frames xc xd) (cap - frames xc rest) := by split <;> omega
        simp only [hmin]
        obtain ⟨n, hn⟩ : ∃ n : Nat, min (frames xc xd) (cap - frames xc rest) = n := ⟨(min (frames xc xd) (cap - frames xc rest)).toNat, by omega⟩
        obtain ⟨c, hcN⟩ : ∃ c : Nat, xc = c := ⟨xc.toNat, by omega⟩
        simp only [hn, Int.toNat_natCast]
        have e2 : IntKind.wrap .i64 ((n : Int) * xc) = ((n * xc.toNat : Nat) : Int) := by
          have e0 : (n : Int) * xc = ((n * xc.toNat : Nat) : Int) := by rw [Int.natCast_mul]; congr 1; omega
          have : n * xc.toNat ≤ (frames xc xd).toNat * xc.toNat := Nat.mul_le_mul_right _ (by omega)
          rw [e0]
          exact w64 (by omega) (by omega)
        have e3 : n * xc.toNat ≤ (frames xc xd).toNat * xc.toNat := Nat.mul_le_mul_right _ (by omega)
        have d1 : decide ((0 : Int) ≤ ((n * xc.toNat : Nat) : Int)) = true := by simp only [decide_eq_true_eq]; omega
        have d2 : decide (((n * xc.toNat : Nat) : Int) ≤ (xd.length : Int)) = true := by simp only [decide_eq_true_eq]; omega
        have e4 : IntKind.wrap .i64 (frames xc xd - (n : Int)) = frames xc xd - n := w64 (by omega) (by omega)
        obtain ⟨g1, g2, g3⟩ := feed_take h.r hxk (n := n) (by omega) (by omega)
        simp only [e2, d1, d2, e4, Int.le_refl, decide_true, Bool.and_self, cond_true, Int.toNat_natCast, Int.toNat_zero, List.drop_zero]
        rw [s25 hk _ _ _ _ _ _ _ _ _ hd (by rw [List.length_take]; omega), g1, Option.bind_some]
      · have : (xc != ch) = true := by simpa using hc
        simp [this, hc, zeroBr]
theorem s53 {k : Nat} (hk : Big k) (cap tgt dead gain most ch num den adj pos frac : Int) (rest : List Int) (lost missed : Int) (xc : Int) (xd : List Int) (hd : rest.length ≤ 1000000000000) (hx : xd.length ≤ 1000000000000) :
    f53 k ((cap, tgt, dead, gain, most, ch, num, den, adj, pos, frac, rest, lost, missed), xc, xd) = some (pushS cap tgt dead gain most ch num den adj pos frac rest lost missed xc xd) := by
  unfold f53 pushS
  simp only [s58 hk _ _ _ _ _ _ _ _ _ _ _ _ _ _ hd, s83 hk _ _ hx, Option.bind_some]
  cases hb : brOK cap tgt dead gain most ch num den adj pos frac rest lost missed with
  | false => simp [zeroBr]
  | true =>
    cases hv : bkOK xc xd with
    | false => simp [zeroBr]
    | true =>
      have h := (brOK_iff _ _ _ _ _ _ _ _ _ _ _ _ _ _).1 hb
      have hxk := (bkOK_iff _ _).1 hv
      simp only [Bool.not_true, cond_false, and_self, if_true]
      by_cases hc : xc = ch
      · subst hc
        have w0 := frames_nonneg (d := rest) h.r.b.c1
        have x0 := frames_nonneg (d := xd) h.r.b.c1
        have x1 : frames xc xd ≤ 65536 := hxk.l
        have hw := h.w
        have hc1 := h.c1
        have hfill : fillS cap tgt dead gain most xc num den adj pos frac rest lost missed = frames xc rest := by unfold fillS; rw [if_pos hb]
        have e1 : IntKind.wrap .i64 (cap - frames xc rest) = cap - frames xc rest := w64 (by omega) (by omega)
        simp only [bne_self_eq_false, cond_false, s47' hk hxk, s60 hk _ _ _ _ _ _ _ _ _ _ _ _ _ _ hd, hfill, Option.bind_some, e1, if_true]
        have hmin : (if cap - frames xc rest < frames xc xd then cap - frames xc rest else frames xc xd) = min (frames xc xd) (cap - frames xc rest) := by split <;> omega
        simp only [hmin]
        obtain ⟨n, hn⟩ : ∃ n : Nat, min (frames xc xd) (cap - frames xc rest) = n := ⟨(min (frames xc xd) (cap - frames xc rest)).toNat, by omega⟩
        have e4 : IntKind.wrap .i64 (frames xc xd - (n : Int)) = frames xc xd - n := w64 (by omega) (by omega)
        obtain ⟨g1, g2, g3⟩ := feed_take h.r hxk (n := n) (by omega) (by omega)
        simp only [hn, Int.toNat_natCast, e4]
        have h97 := s97 k hxk 0 n (Nat.zero_le _) (by omega)
        simp only [Nat.zero_mul, List.drop_zero] at h97
        rw [show ((0 : Nat) : Int) = 0 from rfl] at h97
        rw [h97, Option.bind_some, s26 hk _ _ _ _ _ _ _ _ _ hd (by rw [List.length_take]; omega), g1, Option.bind_some]
      · have : (xc != ch) = true := by simpa using hc
        simp [this, hc, zeroBr]

/-! ### pulling -/
noncomputable def pullK (tgt dead gain most ch num den pos frac : Int) (rest : List Int) (n : Int) : Int :=
  min ((ph num den (adjS tgt dead gain most (frames ch rest)) frac).make (frames ch rest)) n
noncomputable def pullT (tgt dead gain most ch num den pos frac : Int) (rest : List Int) (n : Int) : BkT × RsT × Int :=
  takeS ch num den (adjS tgt dead gain most (frames ch rest)) pos frac rest (pullK tgt dead gain most ch num den pos frac rest n)
noncomputable def pullS (cap tgt dead gain most ch num den adj pos frac : Int) (rest : List Int) (lost missed : Int) (n : Int) : BkT × Int × BrT × Int :=
  if brOK cap tgt dead gain most ch num den adj pos frac rest lost missed = true then
    if n < 0 then (zeroB, 0, zeroBr, 2) else if 65536 < n then (zeroB, 0, zeroBr, 2) else
    if (pullT tgt dead gain most ch num den pos frac rest n).2.2 = 0 then
      (((pullT tgt dead gain most ch num den pos frac rest n).1.1, (pullT tgt dead gain most ch num den pos frac rest n).1.2 ++ List.replicate ((n - pullK tgt dead gain most ch num den pos frac rest n) * ch).toNat 0),
        n - pullK tgt dead gain most ch num den pos frac rest n,
        (cap, tgt, dead, gain, most, (pullT tgt dead gain most ch num den pos frac rest n).2.1.1, (pullT tgt dead gain most ch num den pos frac rest n).2.1.2.1, (pullT tgt dead gain most ch num den pos frac rest n).2.1.2.2.1, (pullT tgt dead gain most ch num den pos frac rest n).2.1.2.2.2.1, (pullT tgt dead gain most ch num den pos frac rest n).2.1.2.2.2.2.1, (pullT tgt dead gain most ch num den pos frac rest n).2.1.2.2.2.2.2.1, (pullT tgt dead gain most ch num den pos frac rest n).2.1.2.2.2.2.2.2, lost, IntKind.wrap .i64 (missed + (n - pullK tgt dead gain most ch num den pos frac rest n))), 0)
    else (zeroB, 0, zeroBr, (pullT tgt dead gain most ch num den pos frac rest n).2.2)
  else (zeroB, 0, zeroBr, 1)
theorem takeS_ch {ch num den adj pos frac : Int} {rest : List Int} {n : Int} (h : (takeS ch num den adj pos frac rest n).2.2 = 0) : (takeS ch num den adj pos frac rest n).1.1 = ch ∧ (takeS ch num den adj pos frac rest n).2.1.1 = ch := by
  unfold takeS at h ⊢
  split at h
  · rename_i h1
    rw [if_pos h1]
    split at h
    · simp at h
    · rename_i h2
      rw [if_neg h2]
      unfold prodS at h ⊢
      split at h
      · rename_i h3; rw [if_pos h3]; exact ⟨rfl, rfl⟩
      · rename_i h3; exact absurd h h3
  · rename_i h1; exact absurd h h1
theorem takeS_out_len (ch num den adj pos frac : Int) (rest : List Int) (n : Int) : (takeS ch num den adj pos frac rest n).1.2.length ≤ 1000000 := by
  unfold takeS
  split
  · rename_i h
    obtain ⟨h1, h2, h3, _⟩ := check_ph h
    split
    · simp [zeroB]
    · unfold prodS
      split
      · simp only [outS, out_length]
        have c2 := h1.b.c2
        have : n.toNat * ch.toNat ≤ 65536 * 8 := Nat.mul_le_mul (by omega) (by omega)
        omega
      · simp
  · simp [zeroB]
theorem s63 (k : Nat) {ch n : Int} (c1 : 1 ≤ ch) (c2 : ch ≤ 8) (h0 : 0 ≤ n) (h1 : n ≤ 65536) : f63 k (ch, n) = some ((ch, List.replicate (ch * n).toNat 0), 0) := by
  unfold f63
  obtain ⟨m1, m2⟩ := mul_bd (show 0 ≤ ch by omega) c2 h0 h1
  have e1 : ¬ ch < 1 := by omega
  have e2 : ¬ ch > 8 := by omega
  have e3 : ¬ n < 0 := by omega
  have e4 : ¬ n > 65536 := by omega
  have e5 : IntKind.wrap .i64 (ch * n) = ch * n := w64 (by omega) (by omega)
  have d1 : decide (0 ≤ ch * n) = true := by simp only [decide_eq_true_eq]; omega
  have d2 : decide (ch * n * ((4 : Nat) : Int) ≤ (maxBytes : Int)) = true := by unfold maxBytes; simp only [decide_eq_true_eq]; omega
  simp only [e1, e2, e3, e4, e5, d1, d2, decide_false, cond_false, Int.le_refl, decide_true, Bool.and_self, cond_true]
theorem s108 (k : Nat) {ch n : Int} (c1 : 1 ≤ ch) (c2 : ch ≤ 8) (h0 : 0 ≤ n) (h1 : n ≤ 65536) : f108 k (ch, n) = some ((ch, List.replicate (ch * n).toNat 0), 0) := s63 k c1 c2 h0 h1
theorem s55 {k : Nat} (hk : Big k) (cap tgt dead gain most ch num den adj pos frac : Int) (rest : List Int) (lost missed : Int) (n : Int) (hd : rest.length ≤ 1000000000000) :
    f55 k ((cap, tgt, dead, gain, most, ch, num, den, adj, pos, frac, rest, lost, missed), n) = some (pullS cap tgt dead gain most ch num den adj pos frac rest lost missed n) := by
  unfold f55 pullS
  rw [s57 hk _ _ _ _ _ _ _ _ _ _ _ _ _ _ hd, Option.bind_some]
  cases hb : brOK cap tgt dead gain most ch num den adj pos frac rest lost missed with
  | false => simp [zeroBr, zeroB]
  | true =>
    have h := (brOK_iff _ _ _ _ _ _ _ _ _ _ _ _ _ _).1 hb
    by_cases h2 : n < 0
    · simp [h2, zeroBr, zeroB]
    by_cases h3 : 65536 < n
    · simp [h2, h3, zeroBr, zeroB]
    have w0 := frames_nonneg (d := rest) h.r.b.c1
    have w1 : frames ch rest ≤ 65536 := h.r.b.l
    have c1 := h.r.b.c1
    have c2 := h.r.b.c2
    have m1 := h.c.m1
    obtain ⟨a1, a2⟩ := adjS_bd h.c (frames ch rest)
    have hp := rs_adj h.r (a := adjS tgt dead gain most (frames ch rest)) (by omega) (by omega)
    have hmk0 := (ph num den (adjS tgt dead gain most (frames ch rest)) frac).make_nonneg (frames ch rest)
    have hmkS : makeS num den (adjS tgt dead gain most (frames ch rest)) pos frac (frames ch rest) = ((ph num den (adjS tgt dead gain most (frames ch rest)) frac).make (frames ch rest), 0) := by
      unfold makeS; rw [if_pos ((phOK_iff _ _ _ _ _).2 hp.p), if_neg (by omega)]
    simp only [Bool.not_true, cond_false, if_true, h2, h3, decide_false, if_false, gt_iff_lt, s30 hk _ _ _ _ _ _ _ hd, waiting_eq' h.r, s103 k h.c w0 w1, s102 hk h.r.p (show -4096 ≤ adjS tgt dead gain most (frames ch rest) by omega) (show adjS tgt dead gain most (frames ch rest) ≤ 4096 by omega), s96 hk, hmkS, Option.bind_some]
    have hmin : (if n < (ph num den (adjS tgt dead gain most (frames ch rest)) frac).make (frames ch rest) then n else (ph num den (adjS tgt dead gain most (frames ch rest)) frac).make (frames ch rest)) = pullK tgt dead gain most ch num den pos frac rest n := by unfold pullK; split <;> omega
    have hK0 : 0 ≤ pullK tgt dead gain most ch num den pos frac rest n := by unfold pullK; omega
    have hK1 : pullK tgt dead gain most ch num den pos frac rest n ≤ n := by unfold pullK; omega
    simp only [hmin]
    rw [s34 hk _ _ _ _ _ _ _ hd, Option.bind_some]
    have hT : takeS ch num den (adjS tgt dead gain most (frames ch rest)) pos frac rest (pullK tgt dead gain most ch num den pos frac rest n) = pullT tgt dead gain most ch num den pos frac rest n := rfl
    rw [hT]
    by_cases he : (pullT tgt dead gain most ch num den pos frac rest n).2.2 = 0
    · have hch := (takeS_ch he).1
      have hol := takeS_out_len ch num den (adjS tgt dead gain most (frames ch rest)) pos frac rest (pullK tgt dead gain most ch num den pos frac rest n)
      rw [hT] at hol
      have hch' : (pullT tgt dead gain most ch num den pos frac rest n).1.1 = ch := hch
      obtain ⟨b1, b2⟩ := mul_bd (show 0 ≤ n - pullK tgt dead gain most ch num den pos frac rest n by omega) (show n - pullK tgt dead gain most ch num den pos frac rest n ≤ 65536 by omega) (show 0 ≤ ch by omega) c2
      have e1 : IntKind.wrap .i64 (n - pullK tgt dead gain most ch num den pos frac rest n) = n - pullK tgt dead gain most ch num den pos frac rest n := w64 (by omega) (by omega)
      have e2 : IntKind.wrap .i64 ((n - pullK tgt dead gain most ch num den pos frac rest n) * ch) = (n - pullK tgt dead gain most ch num den pos frac rest n) * ch := w64 (by omega) (by omega)
      have d1 : decide (0 ≤ (n - pullK tgt dead gain most ch num den pos frac rest n) * ch) = true := by simp only [decide_eq_true_eq]; omega
      have d2 : decide ((n - pullK tgt dead gain most ch num den pos frac rest n) * ch ≤ 9223372036854775807) = true := by simp only [decide_eq_true_eq]; omega
      simp only [he, bne_self_eq_false, cond_false, if_true, e1, hch', e2, d1, d2, Bool.and_self, cond_true, List.length_replicate]
      rw [maxB (by omega), cond_true]
    · have : ((pullT tgt dead gain most ch num den pos frac rest n).2.2 != 0) = true := by simpa using he
      simp [he, this, zeroBr, zeroB]
theorem s56 {k : Nat} (hk : Big k) (cap tgt dead gain most ch num den adj pos frac : Int) (rest : List Int) (lost missed : Int) (n : Int) (hd : rest.length ≤ 1000000000000) :
    f56 k ((cap, tgt, dead, gain, most, ch, num, den, adj, pos, frac, rest, lost, missed), n) = some (pullS cap tgt dead gain most ch num den adj pos frac rest lost missed n) := by
  unfold f56 pullS
  rw [s58 hk _ _ _ _ _ _ _ _ _ _ _ _ _ _ hd, Option.bind_some]
  cases hb : brOK cap tgt dead gain most ch num den adj pos frac rest lost missed with
  | false => simp [zeroBr, zeroB]
  | true =>
    have h := (brOK_iff _ _ _ _ _ _ _ _ _ _ _ _ _ _).1 hb
    by_cases h2 : n < 0
    · simp [h2, zeroBr, zeroB]
    by_cases h3 : 65536 < n
    · simp [h2, h3, zeroBr, zeroB]
    have w0 := frames_nonneg (d := rest) h.r.b.c1
    have w1 : frames ch rest ≤ 65536 := h.r.b.l
    have c1 := h.r.b.c1
    have c2 := h.r.b.c2
    have m1 := h.c.m1
    obtain ⟨a1, a2⟩ := adjS_bd h.c (frames ch rest)
    have hp := rs_adj h.r (a := adjS tgt dead gain most (frames ch rest)) (by omega) (by omega)
    have hmk0 := (ph num den (adjS tgt dead gain most (frames ch rest)) frac).make_nonneg (frames ch rest)
    have hmkS : makeS num den (adjS tgt dead gain most (frames ch rest)) pos frac (frames ch rest) = ((ph num den (adjS tgt dead gain most (frames ch rest)) frac).make (frames ch rest), 0) := by
      unfold makeS; rw [if_pos ((phOK_iff _ _ _ _ _).2 hp.p), if_neg (by omega)]
    have hfill : fillS cap tgt dead gain most ch num den adj pos frac rest lost missed = frames ch rest := by unfold fillS; rw [if_pos hb]
    simp only [Bool.not_true, cond_false, if_true, h2, h3, decide_false, if_false, gt_iff_lt, s60 hk _ _ _ _ _ _ _ _ _ _ _ _ _ _ hd, hfill, s105 k h.c w0 w1, s104 hk h.r.p (show -4096 ≤ adjS tgt dead gain most (frames ch rest) by omega) (show adjS tgt dead gain most (frames ch rest) ≤ 4096 by omega), s31 hk _ _ _ _ _ _ _ hd, waiting_eq' hp, s45 hk, hmkS, Option.bind_some]
    have hmin : (if n < (ph num den (adjS tgt dead gain most (frames ch rest)) frac).make (frames ch rest) then n else (ph num den (adjS tgt dead gain most (frames ch rest)) frac).make (frames ch rest)) = pullK tgt dead gain most ch num den pos frac rest n := by unfold pullK; split <;> omega
    have hK0 : 0 ≤ pullK tgt dead gain most ch num den pos frac rest n := by unfold pullK; omega
    have hK1 : pullK tgt dead gain most ch num den pos frac rest n ≤ n := by unfold pullK; omega
    simp only [hmin]
    rw [s35 hk _ _ _ _ _ _ _ hd, Option.bind_some]
    have hT : takeS ch num den (adjS tgt dead gain most (frames ch rest)) pos frac rest (pullK tgt dead gain most ch num den pos frac rest n) = pullT tgt dead gain most ch num den pos frac rest n := rfl
    rw [hT]
    by_cases he : (pullT tgt dead gain most ch num den pos frac rest n).2.2 = 0
    · have hch2 : (pullT tgt dead gain most ch num den pos frac rest n).2.1.1 = ch := (takeS_ch he).2
      have hol := takeS_out_len ch num den (adjS tgt dead gain most (frames ch rest)) pos frac rest (pullK tgt dead gain most ch num den pos frac rest n)
      rw [hT] at hol
      obtain ⟨b1, b2⟩ := mul_bd (show 0 ≤ n - pullK tgt dead gain most ch num den pos frac rest n by omega) (show n - pullK tgt dead gain most ch num den pos frac rest n ≤ 65536 by omega) (show 0 ≤ ch by omega) c2
      have e1 : IntKind.wrap .i64 (n - pullK tgt dead gain most ch num den pos frac rest n) = n - pullK tgt dead gain most ch num den pos frac rest n := w64 (by omega) (by omega)
      simp only [he, bne_self_eq_false, cond_false, if_true, e1, hch2]
      rw [s63 k c1 c2 (by omega) (by omega), Option.bind_some]
      have hj := s42 k (pullT tgt dead gain most ch num den pos frac rest n).1.1 ch (pullT tgt dead gain most ch num den pos frac rest n).1.2 (List.replicate (ch * (n - pullK tgt dead gain most ch num den pos frac rest n)).toNat 0) (by omega) (by rw [List.length_replicate, Int.mul_comm]; omega)
      have hj' : f42 k ((pullT tgt dead gain most ch num den pos frac rest n).1, (ch, List.replicate (ch * (n - pullK tgt dead gain most ch num den pos frac rest n)).toNat 0)) = _ := hj
      rw [hj', Option.bind_some, Int.mul_comm ch]
    · have : ((pullT tgt dead gain most ch num den pos frac rest n).2.2 != 0) = true := by simpa using he
      simp [he, this, zeroBr, zeroB]
end Go.Proofs.Ytbfkfobfhjgphaa.Sp
