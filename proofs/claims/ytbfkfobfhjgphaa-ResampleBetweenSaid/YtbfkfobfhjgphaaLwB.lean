/- The laws ResampleCounts and ResamplePieces, in plain words. -/
import Derived.Test.YtbfkfobfhjgphaaLwA
set_option linter.unusedVariables false
set_option linter.unusedSimpArgs false
namespace Go.Proofs.Ytbfkfobfhjgphaa.Sp
open Go Go.Pev Go.Snd Go.Proofs.Ytbfkfobfhjgphaa.Fn

theorem mul_mn {a b c : Int} (hc : 0 ≤ c) (h : a ≤ b) : c * a ≤ c * b := Int.mul_le_mul_of_nonneg_left h hc
theorem u8_of {x : Int} (h : (Lit.int .u8 x).wf = true) : 0 ≤ x ∧ x ≤ 255 := by
  have := D8_of (l := [x]) (by simpa using h)
  simpa using this
theorem mulS_small {num den adj pos frac : Int} (h : PhOK num den adj pos frac) {x w W R : Int} (hx : 1 ≤ x) (hw0 : 0 ≤ w) (hw : w ≤ W) (hR0 : 0 ≤ R) (hR : den ≤ R * num) (hm : (x - 1) * (num * (65536 + adj)) ≤ w * (den * 65536)) : (x - 1) * 61440 ≤ W * R * 65536 := by
  have n1 := h.n1
  have d1 := h.d1
  have a1 := h.a1
  have e1 : (x - 1) * num * 61440 ≤ (x - 1) * num * (65536 + adj) := mul_mn (Int.mul_nonneg (by omega) (by omega)) (by omega)
  have e2 : (x - 1) * (num * (65536 + adj)) = (x - 1) * num * (65536 + adj) := (Int.mul_assoc _ _ _).symm
  have e3 : w * (den * 65536) ≤ W * (R * num * 65536) := Int.mul_le_mul hw (by omega) (by omega) (by omega)
  have e4 : (x - 1) * num * 61440 = (x - 1) * 61440 * num := by ac_rfl
  have e5 : W * (R * num * 65536) = W * R * 65536 * num := by ac_rfl
  have e6 : (x - 1) * 61440 * num ≤ W * R * 65536 * num := by omega
  exact Int.le_of_mul_le_mul_right e6 (by omega)
theorem gone_small {num den adj pos frac : Int} (h : PhOK num den adj pos frac) (hb : BaseOK num den) {n : Int} (h0 : 0 ≤ n) (h1 : n ≤ 65536) : 0 ≤ (ph num den adj frac).gone n ∧ (ph num den adj frac).gone n ≤ 54000000 := by
  refine ⟨(ph num den adj frac).gone_nonneg h.ok h0, ?_⟩
  have d1 := h.d1
  have a1 := h.a1
  have a2 := h.a2
  have n1 := h.n1
  have r2 := hb.r2
  have f1 := h.f1
  have hA := ph_A num den adj frac n
  have e1 : n * num ≤ 65536 * num := Int.mul_le_mul_of_nonneg_right h1 (by omega)
  have e0 : 0 ≤ n * num := Int.mul_nonneg h0 (by omega)
  have e2 : n * num * (65536 + adj) ≤ 65536 * num * 69632 := Int.mul_le_mul e1 (by omega) (by omega) (by omega)
  show (ph num den adj frac).A n / (den * 65536) ≤ 54000000
  have : (ph num den adj frac).A n ≤ 53477377 * (den * 65536) := by omega
  have := Int.ediv_le_ediv (show 0 < den * 65536 by omega) this
  rw [Int.mul_ediv_cancel _ (by omega)] at this
  omega
theorem cmp50 {num den adj pos frac : Int} (h : PhOK num den adj pos frac) : decide (den > IntKind.wrap .i64 (50 * num)) = decide (50 * num < den) := by
  have n2 := h.n2
  have n1 := h.n1
  rw [w64 (by omega) (by omega)]
theorem u8_mod {x m : Int} (h : 0 ≤ x ∧ x ≤ 255) (hm : 1 ≤ m) (hm' : m ≤ 1000) : IntKind.wrap .i64 (Int.tmod x m) = x % m ∧ 0 ≤ x % m ∧ x % m < m := by
  have h1 := Int.emod_nonneg x (show m ≠ 0 by omega)
  have h2 := Int.emod_lt_of_pos x (show 0 < m by omega)
  rw [tmod_pos h.1]
  exact ⟨w64 (by omega) (by omega), h1, h2⟩
theorem s47 {k : Nat} (hk : Big k) {ch : Int} {d : List Int} (h : BkOK ch d) : f47 k (ch, d) = some (frames ch d) := by
  have hl := h.len_le
  unfold f47
  rw [s83 hk _ _ (by omega), (bkOK_iff _ _).2 h, Option.bind_some]
  simp only [Bool.not_true, cond_false, ch_ne h.c1, w_frames h]
theorem waiting_eq {ch num den adj pos frac : Int} {rest : List Int} (h : RsOK ch num den adj pos frac rest) : waiting ch num den adj pos frac rest = frames ch rest := by
  unfold waiting; rw [if_pos ((rsOK_iff _ _ _ _ _ _ _).2 h)]
theorem makeS_eq {num den adj pos frac n : Int} (h : PhOK num den adj pos frac) (h0 : 0 ≤ n) (h1 : n ≤ 1099511627776) : makeS num den adj pos frac n = ((ph num den adj frac).make n, 0) := by
  unfold makeS; rw [if_pos ((phOK_iff _ _ _ _ _).2 h), if_neg (by omega)]
theorem finS_eq {ch num den adj pos frac : Int} {rest : List Int} (h : RsOK ch num den adj pos frac rest) {n : Int} (h0 : 0 ≤ n) (h1 : n ≤ 65536) : finS ch num den adj pos frac rest n = prodS ch num den adj pos frac rest (min n ((ph num den adj frac).left (frames ch rest))) := by
  unfold finS; rw [if_pos ((checkS_zero _ _).2 ⟨(rsOK_iff _ _ _ _ _ _ _).2 h, h0, h1⟩)]
/-- all that is left fits into one block -/
theorem left_small {num den adj pos frac : Int} (h : PhOK num den adj pos frac) {w W R : Int} (hw0 : 0 ≤ w) (hw : w ≤ W) (hR0 : 0 ≤ R) (hR : den ≤ R * num) : ((ph num den adj frac).left w - 1) * 61440 ≤ W * R * 65536 := by
  have hl := (ph num den adj frac).left_nonneg h.ok w
  by_cases h0 : (ph num den adj frac).left w = 0
  · rw [h0]
    have := Int.mul_nonneg (show 0 ≤ W by omega) hR0
    omega
  · rcases (ph num den adj frac).left_mul h.ok hw0 with hm | hm
    · exact mulS_small h (by omega) hw0 hw hR0 hR (Int.le_of_lt hm)
    · exact absurd hm h0
theorem make_small {num den adj pos frac : Int} (h : PhOK num den adj pos frac) {w W R : Int} (hw0 : 0 ≤ w) (hw : w ≤ W) (hR0 : 0 ≤ R) (hR : den ≤ R * num) : ((ph num den adj frac).make w - 1) * 61440 ≤ W * R * 65536 := by
  have hl := (ph num den adj frac).make_nonneg w
  by_cases h0 : (ph num den adj frac).make w = 0
  · rw [h0]
    have := Int.mul_nonneg (show 0 ≤ W by omega) hR0
    omega
  · exact mulS_small h (by omega) hw0 hw hR0 hR ((ph num den adj frac).make_mul h.ok hw0)

/-- ResampleCounts -/
theorem law8 {k : Nat} (hk : Big k) (hs : f19 k () = some true) (seeds : List Int) (hseeds : ∀ x ∈ seeds, 0 ≤ x ∧ x ≤ 255) (fr : Int) (hfr : 0 ≤ fr ∧ fr ≤ 255) : f8 k (seeds, fr) = some true := by
  unfold f8
  obtain ⟨l, e1, hl⟩ := s22 k hseeds
  obtain ⟨ch, num, den, adj, pos, frac, rest, l', e2, _, hm, hch⟩ := s23 hk hl
  obtain ⟨m1, m2, m3⟩ := u8_mod hfr (show (1 : Int) ≤ 30 by omega) (by omega)
  have hrl := rs_len ((rsOK_iff _ _ _ _ _ _ _).2 hm.ok)
  have c1 := hm.ok.b.c1
  have c2 := hm.ok.b.c2
  have w0 := frames_nonneg (d := rest) c1
  have hsm := hm.small
  have p0 := hm.ok.p.p0
  rw [hs]
  simp only [Option.bind_some, Bool.not_true, cond_false, e1, e2, cmp50 hm.ok.p]
  by_cases hden : 50 * num < den
  · simp [hden]
  · obtain ⟨v1, v2⟩ := wave_ok 4 c1 c2 m2 (show fr % 30 ≤ 65536 by omega)
    have wl := v1.len_le
    have hh : IntKind.wrap .i64 (frames ch rest + fr % 30) = frames ch rest + fr % 30 := w64 (by omega) (by omega)
    obtain ⟨u1, u2, u3⟩ := convS_ok hm.ok (by omega) v1 (by omega)
    rw [v2] at u1 u3
    have ht := takeS_ok u2 (by omega) ((ph num den adj frac).make_nonneg (frames ch (rest ++ waveL 4 ch.toNat (fr % 30).toNat))) (Int.le_refl _)
    rw [u3] at ht
    obtain ⟨t1, t2, t3, t4, t5⟩ := ht
    obtain ⟨o1, o2⟩ := out_ok u2 ((ph num den adj frac).make_nonneg (frames ch rest + fr % 30)) ((ph num den adj frac).make_le _)
    have hsl := rs_len ((rsOK_iff _ _ _ _ _ _ _).2 t2)
    simp only [hden, decide_false, cond_false, s30 hk _ _ _ _ _ _ _ (show rest.length ≤ 1000000000000 by omega), waiting_eq hm.ok, m1, hh, s45 hk, makeS_eq hm.ok.p (show 0 ≤ frames ch rest + fr % 30 by omega) (by omega), Option.bind_some, s24 hk 4 ch (fr % 30) (by omega) m2 (by omega), s39 hk _ _ _ _ _ _ _ _ _ (show rest.length ≤ 100000000000 by omega) (show (waveL 4 ch.toNat (fr % 30).toNat).length ≤ 100000000000 by omega), u1, t1, nextR]
    rw [s36 hk _ _ _ _ _ _ _ (by omega), finS_eq t2 (by omega) (by omega), Option.bind_some]
    have hwf := frames_nonneg (d := (rest ++ waveL 4 ch.toNat (fr % 30).toNat).drop (goneS num den adj frac ((ph num den adj frac).make (frames ch rest + fr % 30)) * ch.toNat)) c1
    have hls := left_small t2.p hwf (show _ ≤ (51 : Int) by omega) (show (0 : Int) ≤ 50 by omega) (by omega)
    have hl0 := (ph num den adj ((ph num den adj frac).A ((ph num den adj frac).make (frames ch rest + fr % 30)) % (den * 65536))).left_nonneg t2.p.ok (frames ch ((rest ++ waveL 4 ch.toNat (fr % 30).toNat).drop (goneS num den adj frac ((ph num den adj frac).make (frames ch rest + fr % 30)) * ch.toNat)))
    have hgl := (ph num den adj ((ph num den adj frac).A ((ph num den adj frac).make (frames ch rest + fr % 30)) % (den * 65536))).gone_left t2.p.ok hwf
    generalize (ph num den adj ((ph num den adj frac).A ((ph num den adj frac).make (frames ch rest + fr % 30)) % (den * 65536))).left (frames ch ((rest ++ waveL 4 ch.toNat (fr % 30).toNat).drop (goneS num den adj frac ((ph num den adj frac).make (frames ch rest + fr % 30)) * ch.toNat))) = lf at *
    rw [show min 65536 lf = lf by omega]
    obtain ⟨q1, q2⟩ := gone_small t2.p hm.base hl0 (by omega)
    obtain ⟨z1, z2, z3⟩ := prodS_ok t2 hl0 (by omega) (by omega)
    have hzl := rs_len ((rsOK_iff _ _ _ _ _ _ _).2 z2)
    rw [z1]
    simp only [beq_self_eq_true, cond_true]
    rw [s47 hk o1, Option.bind_some, o2]
    simp only [beq_self_eq_true, cond_true]
    rw [s30 hk _ _ _ _ _ _ _ (by omega), waiting_eq z2, Option.bind_some, z3, show max 0 (frames ch ((rest ++ waveL 4 ch.toNat (fr % 30).toNat).drop (goneS num den adj frac ((ph num den adj frac).make (frames ch rest + fr % 30)) * ch.toNat)) - (ph num den adj ((ph num den adj frac).A ((ph num den adj frac).make (frames ch rest + fr % 30)) % (den * 65536))).gone lf) = 0 by omega]
    simp only [beq_self_eq_true, cond_true]
    rw [s30 hk _ _ _ _ _ _ _ (by omega), waiting_eq t2, Option.bind_some, t3]
    congr 1
    rw [beq_iff_eq]
    congr 1
    omega
theorem plain8 (x : argsI [.val false (.sl (.int .u8)), .val false (.int .u8)]) (h : WFAs _ x) : f8 fuel x = some true := by
  obtain ⟨seeds, fr⟩ := x
  exact law8 big_fuel sane15 seeds (D8_of h.1) fr (u8_of h.2)
end Go.Proofs.Ytbfkfobfhjgphaa.Sp
