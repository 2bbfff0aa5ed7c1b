import Derived.Test.YtbfkfobfhjgphaaGreatSpAlm
/- The laws StreamOwing and StreamRewinds, in plain words. -/
set_option linter.unusedVariables false
set_option linter.unusedSimpArgs false
namespace Go.Proofs.YtbfkfobfhjgphaaGreat.Sp
open Go Go.Pev Go.Snd Go.Proofs.YtbfkfobfhjgphaaGreat.Fn

/-- taking from a made stream that runs -/
theorem take_small {s : St} {B : Int} (h : Small s B) (hB : B ≤ 1000000) (hdir : s.dir = 1) (h3 : s.state = 3) {n : Int} (h0 : 0 ≤ n) (h1 : n ≤ 65536) {K : Int} (hK : K = min n ((rPh s.r).make (rFr s.r))) :
    takeSt s n = ((s.r.1, padS s.r.1 n (outS s.r.1 s.r.2.1 s.r.2.2.1 s.r.2.2.2.1 s.r.2.2.2.2.2.1 s.r.2.2.2.2.2.2 K)), n - K, takenSt s (nextR s.r.1 s.r.2.1 s.r.2.2.1 s.r.2.2.2.1 s.r.2.2.2.2.1 s.r.2.2.2.2.2.1 s.r.2.2.2.2.2.2 K) 3 n (n - K), 0) ∧ 0 ≤ K ∧ K ≤ n := by
  have hm0 := (rPh s.r).make_nonneg (rFr s.r)
  have hpos := h.pos
  have htp := take_prod h.ok (K := K) (by omega) (by omega)
  obtain ⟨g1, g2⟩ := gone_small h.ok.r.p h.base (n := K) (by omega) (by omega)
  have hp := (prodS_ok h.ok.r (n := K) (by omega) (by omega) (by omega)).1
  refine ⟨?_, by omega, by omega⟩
  unfold takeSt
  rw [if_pos (play_is h.ok hdir), if_neg (by omega), if_pos h3]
  simp only [← hK]
  rw [htp, hp]
  simp only [if_true]
  rfl
/-- StreamOwing -/
theorem law6 {k : Nat} (hk : Big k) (hs : f43 k () = some true) (seeds : List Int) (hseeds : ∀ x ∈ seeds, 0 ≤ x ∧ x ≤ 255) (n : Int) (hn : 0 ≤ n ∧ n ≤ 255) : f6 k (seeds, n) = some true := by
  unfold f6
  rw [hs]
  simp only [Option.bind_some, Bool.not_true, cond_false]
  obtain ⟨l, e1, hl⟩ := s22 k hseeds
  obtain ⟨s, l', e2, _, hsm, hdir, _⟩ := z14 hk hl (dir := 1) (.inl rfl)
  rw [e1, Option.bind_some, e2, Option.bind_some]
  simp only
  rw [show s.t.2.1 = s.state from rfl]
  by_cases h3 : s.state = 3
  · obtain ⟨m1, m2, m3⟩ := u8_mod hn (show (1 : Int) ≤ 40 by omega) (by omega)
    obtain ⟨m, hm⟩ : ∃ m, m = n % 40 := ⟨_, rfl⟩
    rw [m1, ← hm]
    rw [← hm] at m2 m3
    have hsh := hsm.ok.short
    obtain ⟨K, hK⟩ : ∃ K, K = min m ((rPh s.r).make (rFr s.r)) := ⟨_, rfl⟩
    obtain ⟨t1, t2, t3⟩ := take_small hsm (by omega) hdir h3 m2 (by omega) hK
    have w0 : 0 ≤ rFr s.r := frames_nonneg (d := s.r.2.2.2.2.2.2) hsm.ok.r.b.c1
    have ho : owesS s m = (max 0 ((rPh s.r).need m - rFr s.r), 0) := by
      unfold owesS
      rw [if_pos (play_is hsm.ok hdir), if_neg (by omega)]
    have hf75 := (s75 hk s hsh m).trans (congrArg some (congrArg rt4 t1))
    rw [show ∀ A B C D, rt4 (A, B, C, D) = (A, B, C.t, D) from fun _ _ _ _ => rfl] at hf75
    rw [show (s.state != 3) = false by simp [h3], cond_false, s119 hk s hsh, ho, Option.bind_some, hf75, Option.bind_some]
    obtain ⟨b1, b2⟩ := pad_bk hsm.ok.r t2 t3 (show m ≤ 65536 by omega)
    have hiff : (max 0 ((rPh s.r).need m - rFr s.r) == 0) = (m - K == 0) := by
      rw [Bool.eq_iff_iff, beq_iff_eq, beq_iff_eq]
      constructor
      · intro h
        have := (rPh s.r).le_make hsm.ok.r.p.ok (w := rFr s.r) (j := m) (by omega) (by omega)
        omega
      · intro h
        have := (rPh s.r).need_of_le_make hsm.ok.r.p.ok (w := rFr s.r) (j := m) w0 m2 (by omega)
        omega
    simp only [beq_self_eq_true, cond_true, hiff]
    rw [s47 hk b1, b2, Option.bind_some]
    simp only [beq_self_eq_true, cond_true]
    have z1 : (takenSt s (nextR s.r.1 s.r.2.1 s.r.2.2.1 s.r.2.2.2.1 s.r.2.2.2.2.1 s.r.2.2.2.2.2.1 s.r.2.2.2.2.2.2 K) 3 m (m - K)).t.2.2.2.2.2.2.2.2.2.2.2.2.2.2.2.2.2.2 = IntKind.wrap .i64 (s.ms + (m - K)) := rfl
    have z2 : (takenSt s (nextR s.r.1 s.r.2.1 s.r.2.2.1 s.r.2.2.2.1 s.r.2.2.2.2.1 s.r.2.2.2.2.2.1 s.r.2.2.2.2.2.2 K) 3 m (m - K)).t.2.2.2.2.2.2.2.2.2.2.2.2.2.2.2.2.2.1 = IntKind.wrap .i64 (s.pl + m) := rfl
    have z3 : s.t.2.2.2.2.2.2.2.2.2.2.2.2.2.2.2.2.2.2 = s.ms := rfl
    have z4 : s.t.2.2.2.2.2.2.2.2.2.2.2.2.2.2.2.2.2.1 = s.pl := rfl
    rw [z1, z2, z3, z4]
    simp only [beq_self_eq_true, cond_true]
  · rw [show (s.state != 3) = true by simpa using h3, cond_true]
theorem plain6 (x : argsI [.val false (.sl (.int .u8)), .val false (.int .u8)]) (h : WFAs _ x) : f6 fuel x = some true := by
  obtain ⟨seeds, n⟩ := x
  exact law6 big_fuel sane20 seeds (D8_of h.1) n (u8_of h.2)

/-- StreamRewinds -/
theorem law7 {k : Nat} (hk : Big k) (hs : f43 k () = some true) (seeds : List Int) (hseeds : ∀ x ∈ seeds, 0 ≤ x ∧ x ≤ 255) (fr n : Int) (hfr : 0 ≤ fr ∧ fr ≤ 255) (hn : 0 ≤ n ∧ n ≤ 255) : f7 k (seeds, fr, n) = some true := by
  unfold f7
  rw [hs]
  simp only [Option.bind_some, Bool.not_true, cond_false]
  obtain ⟨l, e1, hl⟩ := s22 k hseeds
  obtain ⟨s, l', e2, _, hsm, hdir, hch⟩ := z14 hk hl (dir := 1) (.inl rfl)
  have hsh := hsm.ok.short
  rw [e1, Option.bind_some, e2, Option.bind_some]
  simp only
  rw [s73 hk s hsh, Option.bind_some, doS_n s 7 (by omega) (by omega), if_pos ((stOK_iff s).2 hsm.ok)]
  by_cases hmay : s.state ≤ 4
  · have hm : mayS s 7 = true := by simp [mayS, hmay]
    rw [if_pos hm]
    have c1 := hsm.ok.r.b.c1
    have c2 := hsm.ok.r.b.c2
    have hcap0 := hsm.ok.c0
    have hcap1 := hsm.ok.c1
    have hs0 := hsm.ok.s0
    obtain ⟨q1, q2⟩ := newS_ok c1 c2 hsm.base
    obtain ⟨w1, w2, w3⟩ := play_wait hsm.ok hdir
    obtain ⟨ch, num, den, cap, hcd, hnd, hdd, hcc⟩ : ∃ ch num den cap, ch = s.r.1 ∧ num = s.r.2.1 ∧ den = s.r.2.2.1 ∧ cap = s.cap := ⟨_, _, _, _, rfl, rfl, rfl, rfl⟩
    have hbase := hsm.base
    have hwr := hsm.wr
    have hpl := hsm.pl
    have hms := hsm.ms
    have hw0 := hsm.ok.w0
    have hp0 := hsm.ok.p0
    have hm0 := hsm.ok.m0
    have hb0 := hsm.ok.b0
    have hb1 := hsm.ok.b1
    rw [← hcd, ← hnd, ← hdd] at q1 q2
    rw [← hcd] at c1 c2 hch
    rw [← hnd, ← hdd] at hbase
    rw [← hcc] at hcap0 hcap1 hb1
    have hafter : afterS s 7 = pst (if s.state = 2 then 1 else s.state) cap s.start ch num den 0 0 [] s.wr s.pl s.ms := by
      unfold afterS rewindS emptyS pst
      simp only [← hcd, ← hnd, ← hdd, ← hcc, q1, hdir, w3]
      simp
    have hnilf : frames ch [] = 0 := (nil_ok c1 c2).2
    have hR : StOK (pst (if s.state = 2 then 1 else s.state) cap s.start ch num den 0 0 [] s.wr s.pl s.ms) :=
      pst_ok q2 (by split <;> omega) (by split <;> omega) hcap0 hcap1 hb0 hb1 hw0 hp0 hm0 (by rw [hnilf]; omega)
    have hR3 : StOK (pst 3 cap 0 ch num den 0 0 [] s.wr s.pl s.ms) := pst_ok q2 (by omega) (by omega) hcap0 hcap1 (by omega) (by omega) hw0 hp0 hm0 (by rw [hnilf]; omega)
    have hF3 : StOK (pst 3 cap 0 ch num den 0 0 [] 0 0 0) := pst_ok q2 (by omega) (by omega) hcap0 hcap1 (by omega) (by omega) (by omega) (by omega) (by omega) (by rw [hnilf]; omega)
    obtain ⟨n1, n2⟩ := newSt_play c1 c2 hbase hcap0 hcap1 (Int.le_refl 0) (show (0 : Int) ≤ cap by omega)
    rw [hafter]
    simp only [rt, bne_self_eq_false, cond_false]
    rw [s77 hk _ hR.short, pst_wait hR, hnilf, Option.bind_some]
    simp only [bne_self_eq_false, cond_false]
    rw [show (pst (if s.state = 2 then 1 else s.state) cap s.start ch num den 0 0 [] s.wr s.pl s.ms).t.2.2.2.2.2.2.2.2.2.2.2.2.2.2.2.2.1 = s.wr from rfl, show s.t.2.2.2.2.2.2.2.2.2.2.2.2.2.2.2.2.1 = s.wr from rfl,
      show (pst (if s.state = 2 then 1 else s.state) cap s.start ch num den 0 0 [] s.wr s.pl s.ms).t.2.2.2.2.2.2.2.2.2.2.2.2.2.2.2.2.2.1 = s.pl from rfl, show s.t.2.2.2.2.2.2.2.2.2.2.2.2.2.2.2.2.2.1 = s.pl from rfl,
      show (pst (if s.state = 2 then 1 else s.state) cap s.start ch num den 0 0 [] s.wr s.pl s.ms).t.2.2.2.2.2.2.2.2.2.2.2.2.2.2.2.2.2.2 = s.ms from rfl, show s.t.2.2.2.2.2.2.2.2.2.2.2.2.2.2.2.2.2.2 = s.ms from rfl,
      show (pst (if s.state = 2 then 1 else s.state) cap s.start ch num den 0 0 [] s.wr s.pl s.ms).t.2.2.1 = cap from rfl, show s.t.2.2.1 = cap from hcc.symm, show s.t.2.1 = s.state from rfl,
      show (pst (if s.state = 2 then 1 else s.state) cap s.start ch num den 0 0 [] s.wr s.pl s.ms).t.2.1 = (if s.state = 2 then 1 else s.state) from rfl,
      show s.t.2.2.2.2.1 = ch from hcd.symm, show s.t.2.2.2.2.2.1 = num from hnd.symm, show s.t.2.2.2.2.2.2.1 = den from hdd.symm]
    simp only [bne_self_eq_false, cond_false]
    obtain ⟨m1, m2, m3⟩ := u8_mod hfr (show (1 : Int) ≤ 40 by omega) (by omega)
    obtain ⟨p1, p2, p3⟩ := u8_mod hn (show (1 : Int) ≤ 30 by omega) (by omega)
    rw [m1, p1]
    have hmin : (if fr % 40 < cap then fr % 40 else cap) = min cap (fr % 40) := by split <;> omega
    rw [hmin]
    obtain ⟨W, hW⟩ : ∃ W, W = min cap (fr % 40) := ⟨_, rfl⟩
    obtain ⟨m, hm⟩ : ∃ m, m = n % 30 := ⟨_, rfl⟩
    rw [← hW, ← hm]
    rw [← hm] at p2 p3
    obtain ⟨v1, v2⟩ := wave_ok 8 c1 c2 (show 0 ≤ W by omega) (show W ≤ 65536 by omega)
    have hwave := s24 hk 8 ch W (by omega) (by omega) (by omega)
    obtain ⟨d, hd⟩ : ∃ d, d = waveL 8 ch.toNat W.toNat := ⟨_, rfl⟩
    rw [← hd] at v1 v2 hwave
    have vl := v1.len_le
    obtain ⟨x1, x2⟩ := write_ok hR3 (by omega) v1 (by rw [v2, hnilf]; omega) (by omega)
    obtain ⟨y1, y2⟩ := write_ok hF3 (by omega) v1 (by rw [v2, hnilf]; omega) (by omega)
    rw [v2, List.nil_append, if_neg (by omega)] at x1 x2 y1 y2
    obtain ⟨a1, a2, a3, a4, a5, a6, a7⟩ := take_run x2 (by omega) p2 (show m ≤ 65536 by omega) (by omega) (by omega) rfl
    obtain ⟨b1, b2, b3, b4, b5, b6, b7⟩ := take_run y2 (by omega) p2 (show m ≤ 65536 by omega) (by omega) (by omega) rfl
    have hfx := (s75 hk _ x2.short m).trans (congrArg some (congrArg rt4 a1))
    have hfy := (s75 hk _ y2.short m).trans (congrArg some (congrArg rt4 b1))
    rw [show ∀ A B C D, rt4 (A, B, C, D) = (A, B, C.t, D) from fun _ _ _ _ => rfl] at hfx hfy
    have hbk := (pad_bk x2.r a6 a7 (show m ≤ 65536 by omega)).1.len_le
    have hbl : (padS ch m (outS ch num den 0 0 d (min m ((ph num den 0 0).make (frames ch d))))).length ≤ 1000000000 := by
      have : ((padS ch m (outS ch num den 0 0 d (min m ((ph num den 0 0).make (frames ch d))))).length : Int) ≤ 524288 := hbk
      omega
    have g7 := same38 hk (ch, padS ch m (outS ch num den 0 0 d (min m ((ph num den 0 0).make (frames ch d))))) hbl
    have e15 : f15 k (1, ch, (num, den), cap, 0) = some ((pst 1 cap 0 ch num den 0 0 [] 0 0 0).t, 0) := by rw [s71 hk, n1]; rfl
    have hwx : f27 k ((pst 3 cap 0 ch num den 0 0 [] s.wr s.pl s.ms).t, ch, d) = some ((pst 3 cap 0 ch num den 0 0 d (s.wr + W) s.pl s.ms).t, 0) := by rw [s72 hk _ hR3.short _ (by simp only; omega), x1]; rfl
    have hwy : f27 k ((pst 3 cap 0 ch num den 0 0 [] 0 0 0).t, ch, d) = some ((pst 3 cap 0 ch num den 0 0 d (0 + W) 0 0).t, 0) := by rw [s72 hk _ hF3.short _ (by simp only; omega), y1]; rfl
    have hX : (((pst (if s.state = 2 then 1 else s.state) cap s.start ch num den 0 0 [] s.wr s.pl s.ms).t.1, 3, cap, 0, (pst (if s.state = 2 then 1 else s.state) cap s.start ch num den 0 0 [] s.wr s.pl s.ms).t.2.2.2.2) : StT) = (pst 3 cap 0 ch num den 0 0 [] s.wr s.pl s.ms).t := rfl
    have hY : (((pst 1 cap 0 ch num den 0 0 [] 0 0 0).t.1, 3, (pst 1 cap 0 ch num den 0 0 [] 0 0 0).t.2.2) : StT) = (pst 3 cap 0 ch num den 0 0 [] 0 0 0).t := rfl
    simp only [e15, hwave, hX, hY, hwx, hwy, hfx, hfy, Option.bind_some, beq_self_eq_true, cond_true, g7]
    by_cases h2 : s.state = 2
    · simp [h2]
    · simp [h2, c_ne h2]
  · have hm : mayS s 7 = false := by simp [mayS, hmay]
    rw [hm]
    simp only [Bool.false_eq_true, if_false, rt]
    rw [show ((9 : Int) != 0) = true from rfl, cond_true, show ((9 : Int) == 9) = true from rfl, cond_true, show s.t.2.1 = s.state from rfl]
    have : s.state ≥ 5 := by omega
    rw [show decide (s.state ≥ 5) = true from decide_eq_true this]
theorem plain7 (x : argsI [.val false (.sl (.int .u8)), .val false (.int .u8), .val false (.int .u8)]) (h : WFAs _ x) : f7 fuel x = some true := by
  obtain ⟨seeds, fr, n⟩ := x
  exact law7 big_fuel sane20 seeds (D8_of h.1) fr n (u8_of h.2.1) (u8_of h.2.2)
end Go.Proofs.YtbfkfobfhjgphaaGreat.Sp
