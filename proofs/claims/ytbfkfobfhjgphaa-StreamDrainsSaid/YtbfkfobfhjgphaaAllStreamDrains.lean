import Derived.Test.YtbfkfobfhjgphaaSpAll
/- The law StreamDrains, in plain words. -/
set_option linter.unusedVariables false
set_option linter.unusedSimpArgs false
namespace Go.Proofs.Ytbfkfobfhjgphaa.Sp
open Go Go.Pev Go.Snd Go.Proofs.Ytbfkfobfhjgphaa.Fn

/-- what is left behind some frames -/
theorem left_adv {p : Ph} (h : p.OK) {w n : Int} (n0 : 0 ≤ n) (hn : n ≤ p.left w) : (p.adv n).left (w - p.gone n) = p.left w - n := by
  have key : ∀ k : Int, 0 ≤ k → (k < (p.adv n).left (w - p.gone n) ↔ k < p.left w - n) := by
    intro k hk
    rw [(p.adv n).lt_left (p.adv_ok h n) hk]
    have h1 := p.gone_adv h n k
    have h2 := p.lt_left h (w := w) (show 0 ≤ n + k by omega)
    omega
  have a0 := (p.adv n).left_nonneg (p.adv_ok h n) (w - p.gone n)
  have h1 := key ((p.adv n).left (w - p.gone n)) a0
  have h2 := key (p.left w - n) (by omega)
  omega
/-- giving in two steps is giving at once, as long as something is left behind the first -/
theorem parts_out {ch num den adj frac : Int} {rest : List Int} (hp : PhOK num den adj 0 frac) (hb : BkOK ch rest) {n m : Int} (n0 : 0 ≤ n) (m0 : 0 ≤ m) (hn : (ph num den adj frac).gone n < frames ch rest) :
    outS ch num den adj frac rest (n + m) = outS ch num den adj frac rest n ++ outS ch num den adj ((ph num den adj frac).A n % (den * 65536)) (rest.drop (goneS num den adj frac n * ch.toNat)) m := by
  have hok := hp.ok
  have g0 := (ph num den adj frac).gone_nonneg hok n0
  have e1 : frames ch (rest.drop (goneS num den adj frac n * ch.toNat)) = frames ch rest - (ph num den adj frac).gone n := by
    rw [(drop_ok hb (goneS num den adj frac n)).2]; unfold goneS; omega
  unfold outS
  rw [show (n + m).toNat = n.toNat + m.toNat by omega, out_add, e1]
  congr 1
  unfold out
  refine flatMap_congr _ _ _ fun i _ => ?_
  have hf := fr_adv (ph num den adj frac) hok ch.toNat rest (frames ch rest).toNat n.toNat i (by rw [Int.toNat_of_nonneg n0]; omega)
  rw [Int.toNat_of_nonneg n0] at hf
  rw [hf, show (frames ch rest - (ph num den adj frac).gone n).toNat = (frames ch rest).toNat - ((ph num den adj frac).gone n).toNat by omega]
  rfl
theorem frames1 (d : List Int) : frames 1 d = d.length := by unfold frames; simp

/-- StreamDrains -/
theorem law16 {k : Nat} (hk : Big k) (hs : f70 k () = some true) (seeds : List Int) (hseeds : ∀ x ∈ seeds, 0 ≤ x ∧ x ≤ 255) (fr n : Int) (hfr : 0 ≤ fr ∧ fr ≤ 255) (hn : 0 ≤ n ∧ n ≤ 255) : f16 k (seeds, fr, n) = some true := by
  unfold f16
  rw [hs]
  simp only [Option.bind_some, Bool.not_true, cond_false]
  obtain ⟨l, e1, hl⟩ := s22 k hseeds
  obtain ⟨num, den, l2, e2, hl2, hbase⟩ := s48 hk hl
  have b1 := hbase.n1
  have b2 := hbase.n2
  have b3 := hbase.d1
  rw [e1, Option.bind_some, e2, Option.bind_some]
  simp only
  rw [w64 (x := 20 * num) (by omega) (by omega)]
  by_cases hden : den > 20 * num
  · rw [show decide (den > 20 * num) = true from decide_eq_true hden, cond_true]
  rw [show decide (den > 20 * num) = false from decide_eq_false hden, cond_false]
  obtain ⟨m1, m2, m3⟩ := u8_mod hfr (show (1 : Int) ≤ 50 by omega) (by omega)
  obtain ⟨q1, q2, q3⟩ := u8_mod hn (show (1 : Int) ≤ 40 by omega) (by omega)
  have d1 : (1 : Int) ≤ 1 := by omega
  have d2 : (1 : Int) ≤ 8 := by omega
  obtain ⟨W, hW⟩ : ∃ W, W = 1 + fr % 50 := ⟨_, rfl⟩
  obtain ⟨N, hN⟩ : ∃ N, N = 1 + n % 40 := ⟨_, rfl⟩
  rw [m1, q1, w64 (x := 1 + fr % 50) (by omega) (by omega), w64 (x := 1 + n % 40) (by omega) (by omega), ← hW, ← hN]
  obtain ⟨n1, n2⟩ := newSt_play d1 d2 hbase (show (1 : Int) ≤ 60 by omega) (by omega) (show (0 : Int) ≤ 0 by omega) (by omega)
  obtain ⟨v1, v2⟩ := wave_ok 6 d1 d2 (show 0 ≤ W by omega) (show W ≤ 65536 by omega)
  have hwave := s24 hk 6 1 W (by omega) (by omega) (by omega)
  obtain ⟨D, hD⟩ : ∃ D, D = waveL 6 (Int.toNat 1) W.toNat := ⟨_, rfl⟩
  rw [← hD] at v1 v2 hwave
  have hDl : (D.length : Int) = W := by rw [← frames1, v2]
  obtain ⟨x1, x2⟩ := write_ok n2 (by omega) v1 (by rw [v2, (nil_ok d1 d2).2]; omega) (by omega)
  rw [v2, List.nil_append, if_pos ⟨rfl, by omega⟩, Int.zero_add] at x1 x2
  obtain ⟨t1, t2⟩ := drain_ok x2
  have hr : RsOK 1 num den 0 0 0 D := t2.r
  have hok := hr.p.ok
  obtain ⟨nw1, nw2⟩ := newS_ok d1 d2 hbase
  have hfeed : feedS 1 num den 0 0 0 [] 1 D = ((1, num, den, 0, 0, 0, D), 0) := by
    unfold feedS
    rw [if_pos ⟨(rsOK_iff _ _ _ _ _ _ _).2 nw2, (bkOK_iff _ _).2 v1⟩, if_pos rfl, if_neg]
    · rfl
    · simp only [List.length_nil]; omega
  have hL0 := (ph num den 0 0).left_nonneg hok W
  have hLs := left_small hr.p (w := W) (by omega) (show W ≤ (50 : Int) by omega) (show (0 : Int) ≤ 20 by omega) (by omega)
  obtain ⟨L, hL⟩ : ∃ L, L = (ph num den 0 0).left W := ⟨_, rfl⟩
  rw [← hL] at hL0 hLs
  have hL1 : 0 < L := by
    rw [hL, (ph num den 0 0).lt_left hok (Int.le_refl 0), (ph num den 0 0).gone_zero hok]; omega
  have hgL := (ph num den 0 0).gone_left hok (w := W) (by omega)
  rw [← hL] at hgL
  obtain ⟨gs1, gs2⟩ := gone_small hr.p hbase (n := L) (by omega) (by omega)
  have hfin : finS 1 num den 0 0 0 D 65536 = ((1, outS 1 num den 0 0 D L), nextR 1 num den 0 0 0 D L, 0) := by
    rw [finS_eq hr (by omega) (by omega), v2, ← hL, show min 65536 L = L by omega]
    exact (prodS_ok hr (by omega) (by omega) (by omega)).1
  obtain ⟨o1, o2⟩ := out_ok hr (n := L) (by omega) (by omega)
  have hol : ((outS 1 num den 0 0 D L).length : Int) = L := by rw [← frames1, o2]
  simp only [s71 hk, n1, rt, hwave, Option.bind_some]
  rw [s72 hk _ n2.short _ (by simp only; omega), Option.bind_some, x1]
  simp only [rt, bne_self_eq_false, cond_false]
  rw [s73 hk _ x2.short, Option.bind_some, t1]
  simp only [rt, bne_self_eq_false, cond_false]
  rw [s33 hk, nw1, Option.bind_some]
  simp only
  rw [s26 hk _ _ _ _ _ _ _ _ _ (by simp) (by omega), hfeed, Option.bind_some]
  simp only
  rw [s37 hk _ _ _ _ _ _ _ (by omega), hfin, Option.bind_some]
  simp only
  refine loopC_spec (L16_19 k _ _) (fun y => ∃ (i : Nat) (st pos frac : Int) (rest : List Int) (out : List Int), y = (N, (i : Int), (pst st 60 0 1 num den pos frac rest W (N * i) 0).t, (1, outS 1 num den 0 0 D L), 1, out) ∧ i ≤ 1100 ∧ N * i < L + N ∧
      StOK (pst st 60 0 1 num den pos frac rest W (N * i) 0) ∧
      ((N * i < L ∧ st = 5 ∧ pos = 0 + (ph num den 0 0).gone (N * i) ∧ frac = (ph num den 0 0).A (N * i) % (den * 65536) ∧ rest = D.drop (goneS num den 0 0 (N * i) * Int.toNat 1) ∧ out = outS 1 num den 0 0 D (N * i)) ∨
       (L ≤ N * i ∧ st = 6 ∧ out = outS 1 num den 0 0 D L ++ List.replicate (N * i - L).toNat 0))) (fun _ => some true) (fun y => (1100 - y.2.1).toNat + (if y.2.2.1.2.1 = 5 then 1 else 0)) ?_ k _ ⟨0, 5, 0, 0, D, [], ?_, by omega, ?_, ?_, .inl ⟨?_, rfl, ?_, ?_, ?_, ?_⟩⟩ (hk.lt (by simp only; split <;> omega))
  · rintro y next ⟨i, st, pos, frac, rest, out, rfl, hi, hNi, hok5, hcase⟩ hnext
    simp only at hnext
    have hNi0 : 0 ≤ N * i := Int.mul_nonneg (by omega) (by omega)
    unfold L16_19
    simp only
    rw [show (pst st 60 0 1 num den pos frac rest W (N * i) 0).t.2.1 = st from rfl] at hnext ⊢
    rcases hcase with ⟨hlt, rfl, rfl, rfl, rfl, rfl⟩ | ⟨hge, rfl, rfl⟩
    · have hi2 : (i : Int) ≤ N * i := by
        have := Int.mul_le_mul_of_nonneg_right (show (1 : Int) ≤ N by omega) (show (0 : Int) ≤ i by omega)
        omega
      have z1 : decide ((i : Int) < 1100) = true := by simp only [decide_eq_true_eq]; omega
      rw [z1, cond_true, show ((5 : Int) == 5) = true from rfl, cond_true]
      have hgn : (ph num den 0 0).gone (N * i) < W := by
        rw [← (ph num den 0 0).lt_left hok hNi0, ← hL]; exact hlt
      have hg0 := (ph num den 0 0).gone_nonneg hok hNi0
      have hfw : frames 1 (D.drop (goneS num den 0 0 (N * i) * Int.toNat 1)) = W - (ph num den 0 0).gone (N * i) := by
        rw [(drop_ok v1 (goneS num den 0 0 (N * i))).2, v2]; unfold goneS; omega
      have hleft : (ph num den 0 ((ph num den 0 0).A (N * i) % (den * 65536))).left (frames 1 (D.drop (goneS num den 0 0 (N * i) * Int.toNat 1))) = L - N * i := by
        rw [hfw, hL]
        exact left_adv hok hNi0 (by rw [← hL]; omega)
      have hr5 : RsOK 1 num den 0 (0 + (ph num den 0 0).gone (N * i)) ((ph num den 0 0).A (N * i) % (den * 65536)) (D.drop (goneS num den 0 0 (N * i) * Int.toNat 1)) := hok5.r
      obtain ⟨K, hK⟩ : ∃ K, K = min N (L - N * i) := ⟨_, rfl⟩
      obtain ⟨gq1, gq2⟩ := gone_small hr5.p hbase (n := K) (by omega) (by omega)
      obtain ⟨a1, a2, a3, a4, a5, a6⟩ := take_drain hok5 (by omega) (show 0 ≤ N by omega) (show N ≤ 65536 by omega) (by omega) (by omega) (K := K) (by rw [hleft]; exact hK) (by omega)
      have hf75 := (s75 hk _ hok5.short N).trans (congrArg some (congrArg rt4 a1))
      rw [show ∀ A B C D, rt4 (A, B, C, D) = (A, B, C.t, D) from fun _ _ _ _ => rfl] at hf75
      rw [hf75, Option.bind_some]
      simp only [bne_self_eq_false, cond_false]
      have hl1 := outS_len hr hNi0
      have hl2 := outS_len hr5 (n := K) (by omega)
      have pb := (pad_bk hr5 (K := K) (n := N) (by omega) (by omega) (by omega)).1.len_le
      rw [s42 k _ _ _ _ (by omega) (by omega), Option.bind_some, w64 (by omega) (by omega)]
      have hNi1 : N * ((i + 1 : Nat) : Int) = N * i + N := by rw [show ((i + 1 : Nat) : Int) = (i : Int) + 1 by omega, Int.mul_add, Int.mul_one]
      have hout := parts_out hr.p v1 hNi0 a5 (by rw [v2]; exact hgn)
      by_cases hmore : N * i + N < L
      · have hKN : K = N := by omega
        subst hKN
        have hnil : (D.drop (goneS num den 0 0 (K * i) * Int.toNat 1)).drop (goneS num den 0 ((ph num den 0 0).A (K * i) % (den * 65536)) K * Int.toNat 1) ≠ [] := by
          intro h0
          rw [h0, hfw] at a3
          have hz : frames 1 [] = 0 := rfl
          rw [hz] at a3
          have := ((ph num den 0 ((ph num den 0 0).A (K * i) % (den * 65536))).lt_left hr5.p.ok (w := frames 1 (D.drop (goneS num den 0 0 (K * i) * Int.toNat 1))) a5).1 (by rw [hleft]; omega)
          rw [hfw] at this
          omega
        rw [if_neg hnil] at a2 ⊢
        obtain ⟨p1, p2, p3, p4⟩ : outS 1 num den 0 0 D (K * i + K) = outS 1 num den 0 0 D (K * i) ++ outS 1 num den 0 ((ph num den 0 0).A (K * i) % (den * 65536)) (D.drop (goneS num den 0 0 (K * i) * Int.toNat 1)) K ∧
            0 + (ph num den 0 0).gone (K * i + K) = 0 + (ph num den 0 0).gone (K * i) + (ph num den 0 ((ph num den 0 0).A (K * i) % (den * 65536))).gone K ∧
            (ph num den 0 0).A (K * i + K) % (den * 65536) = (ph num den 0 ((ph num den 0 0).A (K * i) % (den * 65536))).A K % (den * 65536) ∧
            D.drop (goneS num den 0 0 (K * i + K) * Int.toNat 1) = (D.drop (goneS num den 0 0 (K * i) * Int.toNat 1)).drop (goneS num den 0 ((ph num den 0 0).A (K * i) % (den * 65536)) K * Int.toNat 1) := by
          have hg := (ph num den 0 0).gone_adv hok (K * i) K
          have hf := (ph num den 0 0).frac_adv hok (K * i) K
          have hadv : ph num den 0 ((ph num den 0 0).A (K * i) % (den * 65536)) = (ph num den 0 0).adv (K * i) := rfl
          rw [← hadv] at hg hf
          refine ⟨hout, by rw [hg]; omega, hf, ?_⟩
          have : goneS num den 0 0 (K * i + K) = goneS num den 0 0 (K * i) + goneS num den 0 ((ph num den 0 0).A (K * i) % (den * 65536)) K := by
            unfold goneS; rw [hg]; omega
          rw [this, List.drop_drop, Nat.add_mul]
        refine hnext _ ⟨i + 1, 5, _, _, _, _, ?_, by omega, by omega, ?_, .inl ⟨by omega, rfl, rfl, rfl, rfl, rfl⟩⟩ ?_
        · rw [hNi1, p1, p2, p3, p4, padS_full hl2]; rfl
        · rw [hNi1, p2, p3, p4]; exact a2
        · simp only [pst, St.t, if_true]; omega
      · have hKL : K = L - N * i := by omega
        have hnil : (D.drop (goneS num den 0 0 (N * i) * Int.toNat 1)).drop (goneS num den 0 ((ph num den 0 0).A (N * i) % (den * 65536)) K * Int.toNat 1) = [] := by
          have hgl := (ph num den 0 ((ph num den 0 0).A (N * i) % (den * 65536))).gone_left hr5.p.ok (w := frames 1 (D.drop (goneS num den 0 0 (N * i) * Int.toNat 1))) (frames_nonneg d1)
          rw [hleft, ← hKL] at hgl
          have h0 : frames 1 ((D.drop (goneS num den 0 0 (N * i) * Int.toNat 1)).drop (goneS num den 0 ((ph num den 0 0).A (N * i) % (den * 65536)) K * Int.toNat 1)) = 0 := by rw [a3]; omega
          rw [frames1] at h0
          exact List.length_eq_zero_iff.1 (by omega)
        rw [if_pos hnil] at a2 ⊢
        refine hnext _ ⟨i + 1, 6, 0 + (ph num den 0 0).gone (N * i) + (ph num den 0 ((ph num den 0 0).A (N * i) % (den * 65536))).gone K, (ph num den 0 ((ph num den 0 0).A (N * i) % (den * 65536))).A K % (den * 65536), (D.drop (goneS num den 0 0 (N * i) * Int.toNat 1)).drop (goneS num den 0 ((ph num den 0 0).A (N * i) % (den * 65536)) K * Int.toNat 1), _, ?_, by omega, by omega, ?_, .inr ⟨by omega, rfl, rfl⟩⟩ ?_
        · rw [hNi1]
          have e : outS 1 num den 0 0 D (N * i) ++ padS 1 N (outS 1 num den 0 ((ph num den 0 0).A (N * i) % (den * 65536)) (D.drop (goneS num den 0 0 (N * i) * Int.toNat 1)) K) = outS 1 num den 0 0 D L ++ List.replicate (N * i + N - L).toNat 0 := by
            unfold padS
            rw [← List.append_assoc, ← hout, hl2, show N * i + K = L by omega, show (N * 1 - K * 1).toNat = (N * i + N - L).toNat by omega]
          rw [e]; rfl
        · rw [hNi1]; exact a2
        · show (1100 - ((i : Int) + 1)).toNat + (if (6 : Int) = 5 then 1 else 0) < (1100 - (i : Int)).toNat + (if (5 : Int) = 5 then 1 else 0)
          rw [if_neg (by decide), if_pos (by decide)]
          omega
    · rw [show ((6 : Int) == 5) = false from rfl, cond_false]
      have hz : (outS 1 num den 0 0 D L ++ List.replicate (N * i - L).toNat (0 : Int)).length = (N * i).toNat := by
        rw [List.length_append, List.length_replicate]; omega
      obtain ⟨ob1, ob2⟩ := BkOK.mk' d1 d2 (d := outS 1 num den 0 0 D L ++ List.replicate (N * i - L).toNat (0 : Int)) (w := N * i) (by rw [hz]; omega) (by omega) (by
        intro x hx
        rcases List.mem_append.1 hx with hx | hx
        · exact o1.s x hx
        · have := (List.mem_replicate.1 hx).2; subst this; unfold isS; omega)
      have hend : (Option.bind (f47 k (1, outS 1 num den 0 0 D L)) fun r17 =>
            bif (pst 6 60 0 1 num den pos frac rest W (N * i) 0).t.2.1 != (6 : Int) then some false
            else bif (pst 6 60 0 1 num den pos frac rest W (N * i) 0).t.2.2.2.2.2.2.2.2.2.2.2.2.2.2.2.2.2.2 != (0 : Int) then some false
            else Option.bind (f47 k (1, outS 1 num den 0 0 D L ++ List.replicate (N * i - L).toNat 0)) fun r18 =>
              bif decide (r18 < r17) then some false
              else Option.bind (f47 k (1, outS 1 num den 0 0 D L ++ List.replicate (N * i - L).toNat 0)) fun r19 =>
                bif decide (r19 ≥ IntKind.wrap .i64 (r17 + N)) then some false
                else loopC k (L16_29 k (fun z20 => some z20) (fun z21 => some true)) (r17, outS 1 num den 0 0 D L ++ List.replicate (N * i - L).toNat 0, ((outS 1 num den 0 0 D L ++ List.replicate (N * i - L).toNat (0 : Int)).length : Int), 0, (1, outS 1 num den 0 0 D L))) = some true := by
        rw [s47 hk o1, o2, Option.bind_some]
        rw [show (pst 6 60 0 1 num den pos frac rest W (N * i) 0).t.2.1 = 6 from rfl, show (pst 6 60 0 1 num den pos frac rest W (N * i) 0).t.2.2.2.2.2.2.2.2.2.2.2.2.2.2.2.2.2.2 = 0 from rfl]
        rw [show ((6 : Int) != 6) = false from rfl, show ((0 : Int) != 0) = false from rfl, cond_false, cond_false, s47 hk ob1, ob2, Option.bind_some, Option.bind_some]
        rw [show decide (N * i < L) = false from decide_eq_false (by omega), cond_false, w64 (by omega) (by omega), show decide (N * i ≥ L + N) = false from decide_eq_false (by omega), cond_false, hz]
        refine loopC_spec (L16_29 k _ _) (fun y => ∃ j : Nat, y = (L, outS 1 num den 0 0 D L ++ List.replicate (N * i - L).toNat 0, (((N * i).toNat : Nat) : Int), (j : Int), (1, outS 1 num den 0 0 D L)) ∧ j ≤ (N * i).toNat) (fun _ => some true) (fun y => ((N * i).toNat - y.2.2.2.1).toNat) ?_ k _ ⟨0, rfl, by omega⟩ (hk.lt (by simp only; omega))
        rintro y next2 ⟨j, rfl, hj⟩ hnext2
        simp only at hnext2
        unfold L16_29
        simp only
        by_cases hjl : j < (N * i).toNat
        · have c1 : decide ((j : Int) < (((N * i).toNat : Nat) : Int)) = true := decide_eq_true (by omega)
          have c2 : decide ((0 : Int) ≤ (j : Int)) = true := decide_eq_true (by omega)
          have c3 : decide ((j : Int) < ((outS 1 num den 0 0 D L ++ List.replicate (N * i - L).toNat (0 : Int)).length : Int)) = true := decide_eq_true (by rw [hz]; omega)
          have hwj : IntKind.wrap .i64 ((j : Int) + 1) = ((j + 1 : Nat) : Int) := by rw [w64 (by omega) (by omega)]; omega
          have hstep := hnext2 _ ⟨j + 1, rfl, by omega⟩ (by simp only; omega)
          simp only [c1, c2, c3, Bool.and_self, cond_true, Int.toNat_natCast, hwj]
          by_cases hjL : (j : Int) < L
          · have c4 : decide ((j : Int) < L) = true := decide_eq_true hjL
            have c5 : decide ((j : Int) < ((outS 1 num den 0 0 D L).length : Int)) = true := decide_eq_true (by omega)
            have c6 : decide ((j : Int) ≥ L) = false := decide_eq_false (by omega)
            have hg : (outS 1 num den 0 0 D L ++ List.replicate (N * i - L).toNat (0 : Int)).getD j 0 = (outS 1 num den 0 0 D L).getD j 0 := by
              rw [List.getD_eq_getElem?_getD, List.getD_eq_getElem?_getD, List.getElem?_append_left (by omega)]
            simp only [c4, c5, c6, hg, Bool.and_self, cond_true, cond_false, bne_self_eq_false]
            exact hstep
          · have c4 : decide ((j : Int) < L) = false := decide_eq_false hjL
            have c6 : decide ((j : Int) ≥ L) = true := decide_eq_true (by omega)
            have hg : (outS 1 num den 0 0 D L ++ List.replicate (N * i - L).toNat (0 : Int)).getD j 0 = 0 := by
              rw [List.getD_eq_getElem?_getD, List.getElem?_append_right (by omega), List.getElem?_replicate]
              split <;> rfl
            simp only [c4, c6, hg, cond_true, cond_false, bne_self_eq_false]
            exact hstep
        · have c1 : decide ((j : Int) < (((N * i).toNat : Nat) : Int)) = false := decide_eq_false (by omega)
          simp only [c1, cond_false]
      cases decide ((i : Int) < 1100)
      · exact hend
      · exact hend
  · rw [show N * ((0 : Nat) : Int) = 0 from Int.mul_zero N]; rfl
  · rw [show N * ((0 : Nat) : Int) = 0 from Int.mul_zero N]; omega
  · rw [show N * ((0 : Nat) : Int) = 0 from Int.mul_zero N]; exact t2
  · rw [show N * ((0 : Nat) : Int) = 0 from Int.mul_zero N]; exact hL1
  · have g0 := (ph num den 0 0).gone_zero hok
    simp [g0]
  · simp [ph_A]
  · have g0 := (ph num den 0 0).gone_zero hok
    simp [goneS, g0]
  · simp [outS, out]
theorem plain16 (x : argsI [.val false (.sl (.int .u8)), .val false (.int .u8), .val false (.int .u8)]) (h : WFAs _ x) : f16 fuel x = some true := by
  obtain ⟨seeds, fr, n⟩ := x
  exact law16 big_fuel sane20 seeds (D8_of h.1) fr n (u8_of h.2.1) (u8_of h.2.2)
end Go.Proofs.Ytbfkfobfhjgphaa.Sp
