import Derived.Test.YtbfkfobfhjgphaaSpAll
/- The law StreamCounts, in plain words. -/
set_option linter.unusedVariables false
set_option linter.unusedSimpArgs false
namespace Go.Proofs.Ytbfkfobfhjgphaa.Sp
open Go Go.Pev Go.Snd Go.Proofs.Ytbfkfobfhjgphaa.Fn

theorem shr1 {x : Int} (h : 0 ≤ x ∧ x ≤ 255) : Int.tmod (IntKind.wrap .i64 (Int.fdiv x (2 ^ (min (Int.toNat (1 : Int)) (IntKind.bits .u8))))) 25 = (x / 2) % 25 ∧ 0 ≤ (x / 2) % 25 ∧ (x / 2) % 25 < 25 := by
  have e : Int.fdiv x (2 ^ (min (Int.toNat (1 : Int)) (IntKind.bits .u8))) = x / 2 := by
    show Int.fdiv x 2 = x / 2
    rw [Int.fdiv_eq_ediv_of_nonneg _ (by omega)]
  rw [e, w64 (by omega) (by omega), tmod_pos (by omega)]
  omega
/-- StreamCounts -/
theorem law17 {k : Nat} (hk : Big k) (hs : f70 k () = some true) (seeds : List Int) (hseeds : ∀ x ∈ seeds, 0 ≤ x ∧ x ≤ 255) (ops : List Int) (hops : ∀ x ∈ ops, 0 ≤ x ∧ x ≤ 255) : f17 k (seeds, ops) = some true := by
  unfold f17
  rw [hs]
  simp only [Option.bind_some, Bool.not_true, cond_false]
  by_cases hlen : (ops.length : Int) > 20
  · simp [hlen]
  simp only [hlen, decide_false, cond_false]
  obtain ⟨l, e1, hl⟩ := s22 k hseeds
  obtain ⟨c, l2, e2, hl2, c0, c1, _⟩ := s51 k hl 2
  have c2 := c1 (by omega)
  obtain ⟨num, den, l3, e3, _, hbase⟩ := s48 hk hl2
  have hw : IntKind.wrap .i64 (1 + c) = 1 + c := w64 (by omega) (by omega)
  obtain ⟨ch, hch⟩ : ∃ ch, ch = 1 + c := ⟨_, rfl⟩
  rw [← hch] at hw
  have d1 : 1 ≤ ch := by omega
  have d2 : ch ≤ 8 := by omega
  obtain ⟨n1, n2⟩ := newSt_play (ch := ch) d1 d2 hbase (show (1 : Int) ≤ 50 by omega) (by omega) (show (0 : Int) ≤ 0 by omega) (by omega)
  obtain ⟨t1, t2⟩ := start_ok n2 (by omega)
  simp only [e1, e2, e3, ← hch, hw, Option.bind_some, s71 hk, n1, rt]
  rw [s73 hk _ n2.short, Option.bind_some, t1]
  simp only [rt, bne_self_eq_false, cond_false]
  refine loopC_spec (L17_11 k _ _) (fun y => ∃ (i : Nat) (pos frac : Int) (rest : List Int) (wr pl ms : Int), y = (ops, (ops.length : Int), (i : Int), (pst 3 50 0 ch num den pos frac rest wr pl ms).t) ∧ i ≤ ops.length ∧
      StOK (pst 3 50 0 ch num den pos frac rest wr pl ms) ∧ pos ≤ 50 * i ∧ pl ≤ 25 * i ∧ ms ≤ 25 * i ∧ wr = frames ch rest + pos) (fun _ => some true) (fun y => (ops.length - y.2.2.1).toNat) ?_ k _ ⟨0, 0, 0, [], 0, 0, 0, rfl, by omega, t2, by omega, by omega, by omega, by rw [(nil_ok d1 d2).2]; rfl⟩ (hk.lt (by simp; omega))
  rintro y next ⟨i, pos, frac, rest, wr, pl, ms, rfl, hi, hok, hpos, hpl, hms, hwr⟩ hnext
  simp only at hnext
  have hr : RsOK ch num den 0 pos frac rest := hok.r
  have w0 := frames_nonneg (d := rest) d1
  have hf : frames ch rest ≤ 50 := by have := (waitS_bd hok).2; rw [pst_wait hok] at this; exact this
  have p0 := hr.p.p0
  unfold L17_11
  simp only
  by_cases hlt : i < ops.length
  · have q1 : decide ((i : Int) < (ops.length : Int)) = true := by simp; omega
    have q2 : decide ((0 : Int) ≤ (i : Int)) = true := by simp
    have hwi : IntKind.wrap .i64 ((i : Int) + 1) = ((i + 1 : Nat) : Int) := by rw [w64 (by omega) (by omega)]; omega
    have hm : 0 ≤ ops.getD i 0 ∧ ops.getD i 0 ≤ 255 := hops _ (getD_mem hlt)
    obtain ⟨o, ho⟩ : ∃ o, o = ops.getD i 0 := ⟨_, rfl⟩
    rw [← ho] at hm
    obtain ⟨m1, m2, m3⟩ := shr1 hm
    obtain ⟨n, hn⟩ : ∃ n, n = (o / 2) % 25 := ⟨_, rfl⟩
    rw [← hn] at m1 m2 m3
    simp only [q1, q2, Bool.and_self, cond_true, Int.toNat_natCast, ← ho, m1, hwi]
    by_cases hev : Int.tmod o 2 = 0
    · have hev' : (Int.tmod o 2 == 0) = true := by simpa using hev
      rw [hev', cond_true]
      obtain ⟨v1, v2⟩ := wave_ok (i : Int) d1 d2 m2 (show n ≤ 65536 by omega)
      have hwave : f24 k ((i : Int), (pst 3 50 0 ch num den pos frac rest wr pl ms).t.2.2.2.2.1, 0, n) = some (ch, waveL i ch.toNat n.toNat) := s24 hk i ch n (by omega) m2 (by omega)
      rw [hwave, Option.bind_some, s72 hk _ hok.short _ (by have := v1.len_le; simp only; omega), Option.bind_some]
      by_cases hroom : frames ch rest + n ≤ 50
      · obtain ⟨u1, u2⟩ := write_ok hok (by omega) v1 (by rw [v2]; exact hroom) (by omega)
        rw [u1, v2] 
        rw [v2] at u2
        simp only [rt, show ((0 : Int) == 10) = false from rfl, cond_false, bne_self_eq_false]
        rw [if_neg (by omega)] at u2 ⊢
        have hwr' : (pst 3 50 0 ch num den pos frac (rest ++ waveL i ch.toNat n.toNat) (wr + n) pl ms).t.2.2.2.2.2.2.2.2.2.2.2.2.2.2.2.2.1 = wr + n := rfl
        have hwr2 : (pst 3 50 0 ch num den pos frac rest wr pl ms).t.2.2.2.2.2.2.2.2.2.2.2.2.2.2.2.2.1 = wr := rfl
        rw [hwr', hwr2, w64 (by omega) (by omega)]
        simp only [bne_self_eq_false, cond_false]
        have hap := (append_ok hr.b v1 (by rw [v2]; omega)).2
        rw [v2] at hap
        exact hnext _ ⟨i + 1, pos, frac, _, _, pl, ms, rfl, by omega, u2, by omega, by omega, by omega, by rw [hap]; omega⟩ (by simp only; omega)
      · rw [write_full hok (by omega) v1 (by rw [v2]; omega)]
        simp only [rt, beq_self_eq_true, cond_true]
        rw [s76 hk _ hok.short, Option.bind_some, pst_room hok]
        have : decide (n ≤ 50 - frames ch rest) = false := by simp only [decide_eq_false_iff_not]; omega
        rw [this, cond_false]
        exact hnext _ ⟨i + 1, pos, frac, rest, wr, pl, ms, rfl, by omega, hok, by omega, by omega, by omega, hwr⟩ (by simp only; omega)
    · rw [c_ne hev, cond_false]
      obtain ⟨a1, a2, a3, a4, a5, a6, a7⟩ := take_run hok (by omega) m2 (show n ≤ 65536 by omega) (by omega) (by omega) rfl
      obtain ⟨K, hK⟩ : ∃ K, K = min n ((ph num den 0 frac).make (frames ch rest)) := ⟨_, rfl⟩
      rw [← hK] at a1 a2 a3 a4 a5 a6 a7
      obtain ⟨b1, b2⟩ := pad_bk hr a6 a7 (show n ≤ 65536 by omega)
      have hf75 := (s75 hk _ hok.short n).trans (congrArg some (congrArg rt4 a1))
      rw [show ∀ A B C D, rt4 (A, B, C, D) = (A, B, C.t, D) from fun _ _ _ _ => rfl] at hf75
      rw [hf75, Option.bind_some]
      simp only [bne_self_eq_false, cond_false]
      rw [s47 hk b1, Option.bind_some, b2]
      simp only [bne_self_eq_false, cond_false]
      have z1 : decide (n - K < 0) = false := by simp only [decide_eq_false_iff_not]; omega
      have z2 : decide (n - K > n) = false := by simp only [decide_eq_false_iff_not]; omega
      simp only [z1, z2, cond_false]
      have z3 : (pst 3 50 0 ch num den (pos + (ph num den 0 frac).gone K) ((ph num den 0 frac).A K % (den * 65536)) (rest.drop (goneS num den 0 frac K * ch.toNat)) wr (pl + n) (ms + (n - K))).t.2.2.2.2.2.2.2.2.2.2.2.2.2.2.2.2.2.1 = pl + n := rfl
      have z4 : (pst 3 50 0 ch num den (pos + (ph num den 0 frac).gone K) ((ph num den 0 frac).A K % (den * 65536)) (rest.drop (goneS num den 0 frac K * ch.toNat)) wr (pl + n) (ms + (n - K))).t.2.2.2.2.2.2.2.2.2.2.2.2.2.2.2.2.2.2 = ms + (n - K) := rfl
      have z5 : (pst 3 50 0 ch num den pos frac rest wr pl ms).t.2.2.2.2.2.2.2.2.2.2.2.2.2.2.2.2.2.1 = pl := rfl
      have z6 : (pst 3 50 0 ch num den pos frac rest wr pl ms).t.2.2.2.2.2.2.2.2.2.2.2.2.2.2.2.2.2.2 = ms := rfl
      rw [z3, z4, z5, z6, w64 (x := pl + n) (by have := hok.p0; have : 0 ≤ pl := this; omega) (by omega), w64 (x := ms + (n - K)) (by have := hok.m0; have : 0 ≤ ms := this; omega) (by omega)]
      simp only [bne_self_eq_false, cond_false]
      exact hnext _ ⟨i + 1, _, _, _, wr, _, _, rfl, by omega, a2, by omega, by omega, by omega, by rw [a3]; omega⟩ (by simp only; omega)
  · have : i = ops.length := by omega
    subst this
    have q1 : decide ((ops.length : Int) < (ops.length : Int)) = false := by simp
    simp only [q1, cond_false]
    simp only [s77 hk _ hok.short, s76 hk _ hok.short, pst_wait hok, pst_room hok, Option.bind_some]
    have z1 : (pst 3 50 0 ch num den pos frac rest wr pl ms).t.2.2.2.2.2.2.2.2.2.2.2.2.2.2.2.2.1 = wr := rfl
    have z2 : (pst 3 50 0 ch num den pos frac rest wr pl ms).t.2.2.2.2.2.2.2.2.1 = pos := rfl
    rw [z1, z2, w64 (x := frames ch rest + pos) (by omega) (by omega), w64 (x := 50 - frames ch rest) (by omega) (by omega), hwr]
    simp
theorem sane20 : f70 fuel () = some true := by kernel_rfl
theorem plain17 (x : argsI [.val false (.sl (.int .u8)), .val false (.sl (.int .u8))]) (h : WFAs _ x) : f17 fuel x = some true := by
  obtain ⟨seeds, ops⟩ := x
  exact law17 big_fuel sane20 seeds (D8_of h.1) ops (D8_of h.2)
end Go.Proofs.Ytbfkfobfhjgphaa.Sp
