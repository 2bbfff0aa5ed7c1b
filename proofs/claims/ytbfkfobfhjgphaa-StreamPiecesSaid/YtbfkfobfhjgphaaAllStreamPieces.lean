import Derived.Test.YtbfkfobfhjgphaaSpAll
/- The law StreamPieces, in plain words. -/
set_option linter.unusedVariables false
set_option linter.unusedSimpArgs false
namespace Go.Proofs.Ytbfkfobfhjgphaa.Sp
open Go Go.Pev Go.Snd Go.Proofs.Ytbfkfobfhjgphaa.Fn

/-- taking in two steps is taking at once -/
theorem parts {ch num den adj pos frac : Int} {rest : List Int} (h : RsOK ch num den adj pos frac rest) {n m : Int} (n0 : 0 ≤ n) (m0 : 0 ≤ m) (hn : (ph num den adj frac).need (n + m) ≤ frames ch rest) :
    outS ch num den adj frac rest (n + m) = outS ch num den adj frac rest n ++ outS ch num den adj ((ph num den adj frac).A n % (den * 65536)) (rest.drop (goneS num den adj frac n * ch.toNat)) m ∧
    pos + (ph num den adj frac).gone (n + m) = pos + (ph num den adj frac).gone n + (ph num den adj ((ph num den adj frac).A n % (den * 65536))).gone m ∧
    (ph num den adj frac).A (n + m) % (den * 65536) = (ph num den adj ((ph num den adj frac).A n % (den * 65536))).A m % (den * 65536) ∧
    rest.drop (goneS num den adj frac (n + m) * ch.toNat) = (rest.drop (goneS num den adj frac n * ch.toNat)).drop (goneS num den adj ((ph num den adj frac).A n % (den * 65536)) m * ch.toNat) := by
  have hok := h.p.ok
  have c1 := h.b.c1
  have w0 := frames_nonneg (d := rest) c1
  have hadv : ph num den adj ((ph num den adj frac).A n % (den * 65536)) = (ph num den adj frac).adv n := rfl
  have hg := (ph num den adj frac).gone_adv hok n m
  have hf := (ph num den adj frac).frac_adv hok n m
  have hP : (ph num den adj frac).P = den * 65536 := rfl
  rw [hP] at hf
  have g1 := (ph num den adj frac).gone_nonneg hok n0
  have g2 := ((ph num den adj frac).adv n).gone_nonneg ((ph num den adj frac).adv_ok hok n) m0
  have hgs : goneS num den adj frac (n + m) = goneS num den adj frac n + goneS num den adj ((ph num den adj frac).A n % (den * 65536)) m := by
    unfold goneS; rw [hg, hadv]; omega
  have hmono := (ph num den adj frac).need_mono hok n0 (show n ≤ n + m by omega)
  refine ⟨?_, by rw [hg, hadv]; omega, by rw [hf, hadv], by rw [hgs, List.drop_drop, Nat.add_mul]⟩
  have hlen := h.b.len
  have hgn := (ph num den adj frac).gone_le_need hok n0
  have hd := drop_ok h.b (goneS num den adj frac n)
  have e1 : frames ch (rest.drop (goneS num den adj frac n * ch.toNat)) = frames ch rest - (ph num den adj frac).gone n := by
    rw [hd.2]; unfold goneS; omega
  have hp := out_pieces (ph num den adj frac) hok ch.toNat rest [] (frames ch rest).toNat 0 n.toNat m.toNat (by
    have : (rest.length : Int) = ((frames ch rest).toNat * ch.toNat : Nat) := by rw [Int.natCast_mul, hlen]; congr 1 <;> omega
    omega) (by simp) (by rw [Int.toNat_of_nonneg n0]; omega) (by
    have : ((n.toNat + m.toNat : Nat) : Int) = n + m := by omega
    rw [this]; omega)
  simp only [List.append_nil, Nat.add_zero] at hp
  unfold outS
  rw [show (n + m).toNat = n.toNat + m.toNat by omega, hp, e1, hadv]
  congr 1
  rw [Int.toNat_of_nonneg n0]
  have : (frames ch rest - (ph num den adj frac).gone n).toNat = (frames ch rest).toNat - ((ph num den adj frac).gone n).toNat := by omega
  rw [this]; rfl
def stOf (w : Int) : Int := if 0 < w then 2 else 1
theorem stOf_bd (w : Int) : 1 ≤ stOf w ∧ stOf w ≤ 2 := by unfold stOf; split <;> omega
theorem stOf_add {x y : Int} (hx : 0 ≤ x) (hy : 0 ≤ y) : (if stOf x = 1 ∧ 0 < y then 2 else stOf x) = stOf (x + y) := by
  unfold stOf
  by_cases g1 : 0 < x
  · rw [if_pos g1, if_neg (by omega), if_pos (by omega)]
  · by_cases g2 : 0 < y
    · rw [if_neg g1, if_pos ⟨rfl, g2⟩, if_pos (by omega)]
    · rw [if_neg g1, if_neg (fun h => g2 h.2), if_neg (by omega)]
theorem padS_full {ch n : Int} {d : List Int} (h : (d.length : Int) = n * ch) : padS ch n d = d := by
  unfold padS
  rw [h, Int.sub_self]; simp

/-- StreamPieces -/
theorem law15 {k : Nat} (hk : Big k) (hs : f70 k () = some true) (seeds at_ takes : List Int) (hseeds : ∀ x ∈ seeds, 0 ≤ x ∧ x ≤ 255) (hat : ∀ x ∈ at_, 0 ≤ x ∧ x ≤ 255) (htakes : ∀ x ∈ takes, 0 ≤ x ∧ x ≤ 255) : f15 k (seeds, at_, takes) = some true := by
  unfold f15
  rw [hs]
  simp only [Option.bind_some, Bool.not_true, cond_false]
  by_cases hlen : (at_.length : Int) > 8
  · simp [hlen]
  by_cases hlen2 : (takes.length : Int) > 8
  · simp [hlen2]
  simp only [hlen, hlen2, decide_false, cond_false]
  obtain ⟨l, e1, hl⟩ := s22 k hseeds
  obtain ⟨num, den, l2, e2, hl2, hbase⟩ := s48 hk hl
  obtain ⟨c, l3, e3, hl3, c0, c1, _⟩ := s51 k hl2 2
  obtain ⟨u, l4, e4, _, u0, u1, _⟩ := s51 k hl3 60
  have c2 := c1 (by omega)
  have u2 := u1 (by omega)
  have hw : IntKind.wrap .i64 (1 + c) = 1 + c := w64 (by omega) (by omega)
  obtain ⟨ch, hch⟩ : ∃ ch, ch = 1 + c := ⟨_, rfl⟩
  rw [← hch] at hw
  have hwW : IntKind.wrap .i64 (1 + u) = 1 + u := w64 (by omega) (by omega)
  obtain ⟨W, hW⟩ : ∃ W, W = 1 + u := ⟨_, rfl⟩
  rw [← hW] at hwW
  have d1 : 1 ≤ ch := by omega
  have d2 : ch ≤ 8 := by omega
  have hok := (newS_ok d1 d2 hbase).2.p.ok
  obtain ⟨n1, n2⟩ := newSt_play (ch := ch) d1 d2 hbase (show (1 : Int) ≤ 100 by omega) (by omega) (show (0 : Int) ≤ 0 by omega) (by omega)
  obtain ⟨v1, v2⟩ := wave_ok 5 d1 d2 (show 0 ≤ W by omega) (show W ≤ 65536 by omega)
  have hwave := s24 hk 5 ch W (by omega) (by omega) (by omega)
  obtain ⟨D, hD⟩ : ∃ D, D = waveL 5 ch.toNat W.toNat := ⟨_, rfl⟩
  rw [← hD] at v1 v2 hwave
  obtain ⟨x1, x2⟩ := write_ok n2 (by omega) v1 (by rw [v2, (nil_ok d1 d2).2]; omega) (by omega)
  rw [v2, List.nil_append, if_pos ⟨rfl, by omega⟩, Int.zero_add] at x1 x2
  obtain ⟨ps, e5, hps, hpl⟩ := s41 hk v1 at_ hat (by omega)
  have hwlen := v1.len
  rw [v2] at hwlen
  have hflen : (((ps.map (·.2)).flatten.length : Int) = W * ch) := by rw [hps.flat]; exact hwlen
  have hpre := pieces_prefix d1 d2 hps.all (W := W) (by omega)
  have vlen := v1.len_le
  simp only [e1, e2, e3, e4, ← hch, ← hW, hw, hwW, Option.bind_some, s71 hk, n1, rt, hwave]
  rw [s72 hk _ n2.short _ (by simp only; omega), Option.bind_some, x1]
  simp only [rt, bne_self_eq_false, cond_false]
  rw [e5, Option.bind_some]
  refine loopC_spec (L15_14 k _ _) (fun y => ∃ (i : Nat) (X : List Int), y = (takes, ch, ps, (ps.length : Int), (i : Int), (pst (stOf (frames ch X)) 100 0 ch num den 0 0 X (frames ch X) 0 0).t, (pst 2 100 0 ch num den 0 0 D W 0 0).t) ∧ i ≤ ps.length ∧ X = ((ps.map (·.2)).take i).flatten) (fun _ => some true) (fun y => (ps.length - y.2.2.2.2.1).toNat) ?_ k _ ⟨0, [], by rw [(nil_ok d1 d2).2]; rfl, by omega, by simp⟩ (hk.lt (by simp only; omega))
  rintro y next ⟨i, X, rfl, hi, hX⟩ hnext
  simp only at hnext
  obtain ⟨pi1, pi2⟩ := hpre i hi hflen
  rw [← hX] at pi1 pi2
  have q0 := frames_nonneg (d := X) d1
  have hstX : StOK (pst (stOf (frames ch X)) 100 0 ch num den 0 0 X (frames ch X) 0 0) :=
    pst_ok ⟨(newS_ok d1 d2 hbase).2.p, pi1⟩ (stOf_bd _).1 (by have := (stOf_bd (frames ch X)).2; omega) (by omega) (by omega) (by omega) (by omega) q0 (by omega) (by omega) (by omega)
  unfold L15_14
  simp only
  by_cases hlt : i < ps.length
  · have z1 : decide ((i : Int) < (ps.length : Int)) = true := by simp; omega
    have z2 : decide ((0 : Int) ≤ (i : Int)) = true := by simp
    have hwi : IntKind.wrap .i64 ((i : Int) + 1) = ((i + 1 : Nat) : Int) := by rw [w64 (by omega) (by omega)]; omega
    simp only [z1, z2, Bool.and_self, cond_true, Int.toNat_natCast, hwi]
    have hp := hps.all _ (getD_mem' (e := ((0 : Int), [])) hlt)
    have hft := flat_take hlt ((0 : Int), [])
    obtain ⟨pi3, pi4⟩ := hpre (i + 1) (by omega) hflen
    obtain ⟨p, hpe⟩ : ∃ p : BkT, ps.getD i ((0 : Int), []) = p := ⟨_, rfl⟩
    rw [hpe] at hp hft
    obtain ⟨pc, pd⟩ := p
    obtain ⟨hpc, hpd⟩ := hp
    simp only at hpc hpd hft
    subst hpc
    rw [← hX] at hft
    rw [hft] at pi3 pi4
    have hsum := pi3.len
    have hx0 := frames_nonneg (d := pd) d1
    have hsum : frames pc X + frames pc pd = frames pc (X ++ pd) := by
      have z1 := pi1.len
      have z2 := hpd.len
      have z3 := pi3.len
      rw [List.length_append, Int.natCast_add, z1, z2, ← Int.add_mul] at z3
      exact Int.eq_of_mul_eq_mul_right (show pc ≠ 0 by omega) z3
    obtain ⟨y1, y2⟩ := write_ok hstX (by have := (stOf_bd (frames pc X)).2; omega) hpd (by omega) (by omega)
    have hpl' := hpd.len_le
    rw [stOf_add q0 hx0, hsum] at y1
    rw [hpe, s72 hk _ hstX.short _ (by simp only; omega), Option.bind_some, y1]
    simp only [rt, bne_self_eq_false, cond_false]
    exact hnext _ ⟨i + 1, X ++ pd, rfl, by omega, by rw [hft]⟩ (by simp only; omega)
  · have : i = ps.length := by omega
    subst this
    have z1 : decide ((ps.length : Int) < (ps.length : Int)) = false := by simp
    have htake : ((ps.map (·.2)).take ps.length).flatten = D := by
      rw [List.take_of_length_le (by simp), hps.flat]
    rw [htake] at hX
    subst hX
    rw [v2, show stOf W = 2 from if_pos (show 0 < W by omega)] at hstX ⊢
    obtain ⟨t1, t2⟩ := start_ok hstX (by omega)
    simp only [z1, cond_false]
    rw [s73 hk _ hstX.short, Option.bind_some, Option.bind_some, t1]
    simp only [rt, bne_self_eq_false, cond_false]
    rw [same74 hk _ (show X.length ≤ 1000000000 by omega) (by simp [pst, zeroG]), Option.bind_some]
    simp only [Bool.not_true, cond_false]
    have hp0 : RsOK ch num den 0 0 0 X := t2.r
    refine loopC_spec (L15_27 k _ _) (fun y => ∃ (i : Nat) (n : Int), y = (takes, (takes.length : Int), (i : Int), (pst 3 100 0 ch num den (0 + (ph num den 0 0).gone n) ((ph num den 0 0).A n % (den * 65536)) (X.drop (goneS num den 0 0 n * ch.toNat)) W n 0).t, (pst 3 100 0 ch num den 0 0 X W 0 0).t, ch, outS ch num den 0 0 X n) ∧ i ≤ takes.length ∧ 0 ≤ n ∧ n ≤ 10 * i ∧ (ph num den 0 0).need n ≤ W)
      (fun _ => some true) (fun y => (takes.length - y.2.2.1).toNat) ?_ k _ ⟨0, 0, ?_, by omega, by omega, by omega, ?_⟩ (hk.lt (by simp only; omega))
    · rintro y next' ⟨i, n, rfl, hi, hn0, hn1, hneed⟩ hnext'
      simp only at hnext'
      have hgl := (ph num den 0 0).gone_le_need hok hn0
      have hg0 := (ph num den 0 0).gone_nonneg hok hn0
      have hmk0 := (ph num den 0 0).le_make hok (j := n) (show n ≤ 65536 by omega) hneed
      obtain ⟨b1, b2, b3, b4, b5, b6, b7⟩ := take_run t2 (by omega) hn0 (show n ≤ 65536 by omega) (by omega) (by omega) (K := n) (by rw [v2]; omega)
      rw [Int.zero_add, Int.zero_add, Int.sub_self, Int.add_zero] at b1 b2
      unfold L15_27
      simp only
      by_cases hlt2 : i < takes.length
      · have z3 : decide ((i : Int) < (takes.length : Int)) = true := by simp; omega
        have z4 : decide ((0 : Int) ≤ (i : Int)) = true := by simp
        have hwi : IntKind.wrap .i64 ((i : Int) + 1) = ((i + 1 : Nat) : Int) := by rw [w64 (by omega) (by omega)]; omega
        have hm := htakes _ (getD_mem hlt2)
        obtain ⟨m1, m2, m3⟩ := u8_mod hm (show (1 : Int) ≤ 10 by omega) (by omega)
        simp only [z3, z4, Bool.and_self, cond_true, Int.toNat_natCast, hwi, m1]
        obtain ⟨m, hmd⟩ : ∃ m, m = takes.getD i 0 % 10 := ⟨_, rfl⟩
        rw [← hmd] at m2 m3 ⊢
        rw [Int.zero_add]
        have hst := b2
        obtain ⟨a1, a2, a3, a4, a5, a6, a7⟩ := take_run hst (by have := b5; rw [v2] at this; omega) m2 (show m ≤ 65536 by omega) (by omega) (by omega) rfl
        obtain ⟨K, hK⟩ : ∃ K, K = min m ((ph num den 0 ((ph num den 0 0).A n % (den * 65536))).make (frames ch (X.drop (goneS num den 0 0 n * ch.toNat)))) := ⟨_, rfl⟩
        rw [← hK] at a1 a2 a3 a4 a5 a6 a7
        have hf75 := (s75 hk _ hst.short m).trans (congrArg some (congrArg rt4 a1))
        rw [show ∀ A B C D, rt4 (A, B, C, D) = (A, B, C.t, D) from fun _ _ _ _ => rfl] at hf75
        rw [hf75, Option.bind_some]
        simp only [bne_self_eq_false, cond_false]
        by_cases hKm : m - K > 0
        · rw [show decide (m - K > 0) = true from decide_eq_true hKm, cond_true]
        · have hKe : K = m := by omega
          subst hKe
          have z5 : decide (K - K > 0) = false := by simp
          rw [z5, cond_false]
          have hr2 : RsOK ch num den 0 ((ph num den 0 0).gone n) ((ph num den 0 0).A n % (den * 65536)) (X.drop (goneS num den 0 0 n * ch.toNat)) := hst.r
          have hlo := outS_len hr2 a6
          have hlo1 := outS_len hp0 hn0
          rw [padS_full hlo]
          have ml1 := mul_bd hn0 (show n ≤ 100 by omega) (show 0 ≤ ch by omega) d2
          have ml2 := mul_bd a6 (show K ≤ 10 by omega) (show 0 ≤ ch by omega) d2
          rw [s42 k _ _ _ _ (by omega) (by omega), Option.bind_some]
          have hneed2 : (ph num den 0 0).need (n + K) ≤ frames ch X := by
            rw [v2]
            by_cases hz : K = 0
            · rw [hz, Int.add_zero]; exact hneed
            · rw [(ph num den 0 0).need_adv hok n (show 0 < K by omega) hn0]
              have hh := ((ph num den 0 0).adv n).need_of_le_make ((ph num den 0 0).adv_ok hok n) (w := frames ch (X.drop (goneS num den 0 0 n * ch.toNat))) (j := K) (frames_nonneg d1) a6 (by
                have : K ≤ (ph num den 0 ((ph num den 0 0).A n % (den * 65536))).make (frames ch (X.drop (goneS num den 0 0 n * ch.toNat))) := by omega
                exact this)
              rw [b3, v2] at hh
              omega
          obtain ⟨p1, p2, p3, p4⟩ := parts hp0 hn0 a6 hneed2
          refine hnext' _ ⟨i + 1, n + K, ?_, by omega, by omega, by omega, by rw [← v2]; exact hneed2⟩ (by simp only; omega)
          rw [p1, p3, p4, Int.sub_self, Int.add_zero]
          rw [Int.zero_add, Int.zero_add] at p2
          rw [p2, Int.zero_add]
      · have : i = takes.length := by omega
        subst this
        have z3 : decide ((takes.length : Int) < (takes.length : Int)) = false := by simp
        simp only [z3, cond_false]
        obtain ⟨o1, o2⟩ := out_ok hp0 hn0 (show n ≤ 65536 by omega)
        rw [s47 hk o1, Option.bind_some, o2]
        have hf75 := (s75 hk _ t2.short n).trans (congrArg some (congrArg rt4 b1))
        rw [show ∀ A B C D, rt4 (A, B, C, D) = (A, B, C.t, D) from fun _ _ _ _ => rfl] at hf75
        rw [hf75, Option.bind_some]
        simp only [beq_self_eq_true, cond_true, Int.sub_self]
        have hlo1 := outS_len hp0 hn0
        have ol := o1.len_le
        rw [padS_full hlo1, same38 hk _ (by simp only; omega), Option.bind_some]
        simp only [cond_true]
        rw [Int.zero_add, same74' hk b2, Option.bind_some]
    · have g0 := (ph num den 0 0).gone_zero hok
      rw [g0, ph_A]
      simp [goneS, g0, outS, out]
    · simp [Ph.need]; omega
theorem sane20 : f70 fuel () = some true := by kernel_rfl
theorem plain15 (x : argsI [.val false (.sl (.int .u8)), .val false (.sl (.int .u8)), .val false (.sl (.int .u8))]) (h : WFAs _ x) : f15 fuel x = some true := by
  obtain ⟨seeds, at_, takes⟩ := x
  exact law15 big_fuel sane20 seeds at_ takes (D8_of h.1) (D8_of h.2.1) (D8_of h.2.2)
end Go.Proofs.Ytbfkfobfhjgphaa.Sp
