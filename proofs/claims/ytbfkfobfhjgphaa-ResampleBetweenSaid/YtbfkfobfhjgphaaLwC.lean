/- The law ResamplePieces, in plain words. -/
import Derived.Test.YtbfkfobfhjgphaaSpH
import Derived.Test.YtbfkfobfhjgphaaLwB
set_option linter.unusedVariables false
set_option linter.unusedSimpArgs false
namespace Go.Proofs.Ytbfkfobfhjgphaa.Sp
open Go Go.Pev Go.Snd Go.Proofs.Ytbfkfobfhjgphaa.Fn

theorem flat_take {ps : List BkT} {i : Nat} (h : i < ps.length) (e : BkT) : ((ps.map (·.2)).take (i + 1)).flatten = ((ps.map (·.2)).take i).flatten ++ (ps.getD i e).2 := by
  have h' : i < (ps.map (·.2)).length := by simpa using h
  rw [List.take_succ_eq_append_getElem h', List.flatten_append]
  simp [List.getD, h]
theorem pieces_prefix {ch : Int} (c1 : 1 ≤ ch) (c2 : ch ≤ 8) {ps : List BkT} (h : ∀ p ∈ ps, p.1 = ch ∧ BkOK ch p.2) {W : Int} (hW : W ≤ 65536) : ∀ i, i ≤ ps.length → (((ps.map (·.2)).flatten.length : Int) = W * ch) → BkOK ch ((ps.map (·.2)).take i).flatten ∧ frames ch ((ps.map (·.2)).take i).flatten ≤ W := by
  intro i hi hlen
  have key : ∀ i, i ≤ ps.length → ∃ w : Int, ((((ps.map (·.2)).take i).flatten.length : Int) = w * ch) ∧ 0 ≤ w := by
    intro i
    induction i with
    | zero => intro _; exact ⟨0, by simp, by omega⟩
    | succ i ih =>
      intro hi
      obtain ⟨w, h1, h2⟩ := ih (by omega)
      have hb := (h _ (getD_mem' (e := ((0 : Int), [])) (show i < ps.length by omega))).2
      refine ⟨w + frames ch (ps.getD i (0, [])).2, ?_, by have := frames_nonneg (d := (ps.getD i (0, [])).2) c1; omega⟩
      rw [flat_take (show i < ps.length by omega) (0, []), List.length_append, Int.natCast_add, h1, hb.len, Int.add_mul]
  obtain ⟨w, h1, h2⟩ := key i hi
  have hle : ((ps.map (·.2)).take i).flatten.length ≤ (ps.map (·.2)).flatten.length := by
    have : (ps.map (·.2)).flatten = ((ps.map (·.2)).take i).flatten ++ ((ps.map (·.2)).drop i).flatten := by
      rw [← List.flatten_append, List.take_append_drop]
    rw [this, List.length_append]; omega
  have hwW : w ≤ W := by
    have : w * ch ≤ W * ch := by rw [← h1, ← hlen]; omega
    exact Int.le_of_mul_le_mul_right this (by omega)
  have hs : ∀ x ∈ ((ps.map (·.2)).take i).flatten, isS x := by
    intro x hx
    obtain ⟨l, hl, hxl⟩ := List.mem_flatten.1 hx
    obtain ⟨p, hp, rfl⟩ := List.mem_map.1 (List.mem_of_mem_take hl)
    exact (h p hp).2.s x hxl
  obtain ⟨r1, r2⟩ := BkOK.mk' c1 c2 h1 (by omega) hs
  exact ⟨r1, by omega⟩

/-- ResamplePieces -/
theorem law5 {k : Nat} (hk : Big k) (hs : f19 k () = some true) (seeds at_ : List Int) (hseeds : ∀ x ∈ seeds, 0 ≤ x ∧ x ≤ 255) (hat : ∀ x ∈ at_, 0 ≤ x ∧ x ≤ 255) (fr : Int) (hfr : 0 ≤ fr ∧ fr ≤ 255) : f5 k (seeds, at_, fr) = some true := by
  unfold f5
  obtain ⟨l, e1, hl⟩ := s22 k hseeds
  obtain ⟨ch, num, den, adj, pos, frac, rest, l', e2, _, hm, hch⟩ := s23 hk hl
  obtain ⟨m1, m2, m3⟩ := u8_mod hfr (show (1 : Int) ≤ 40 by omega) (by omega)
  have hrl := rs_len ((rsOK_iff _ _ _ _ _ _ _).2 hm.ok)
  have c1 := hm.ok.b.c1
  have c2 := hm.ok.b.c2
  have w0 := frames_nonneg (d := rest) c1
  have hsm := hm.small
  have p0 := hm.ok.p.p0
  have hok := hm.ok.p.ok
  rw [hs]
  simp only [Option.bind_some, Bool.not_true, cond_false, e1, e2, cmp50 hm.ok.p]
  by_cases hlen : (10 : Int) < (at_.length : Int)
  · simp [hlen]
  by_cases hden : 50 * num < den
  · simp [hlen, hden]
  obtain ⟨v1, v2⟩ := wave_ok 3 c1 c2 m2 (show fr % 40 ≤ 65536 by omega)
  have wl := v1.len_le
  have hwlen := v1.len
  rw [v2] at hwlen
  simp only [gt_iff_lt, hlen, hden, decide_false, cond_false, m1, s24 hk 3 ch (fr % 40) (by omega) m2 (by omega), Option.bind_some]
  generalize waveL 3 ch.toNat (fr % 40).toNat = d at *
  have hmk := make_small hm.ok.p (w := frames ch rest + fr % 40) (by omega) (show _ ≤ (61 : Int) by omega) (show (0 : Int) ≤ 50 by omega) (by omega)
  obtain ⟨u1, u2, u3⟩ := convS_ok hm.ok (by omega) v1 (by omega)
  rw [v2] at u1 u3
  have hM := (ph num den adj frac).make_le (frames ch rest + fr % 40)
  have ht := takeS_ok u2 (by omega) ((ph num den adj frac).make_nonneg (frames ch (rest ++ d))) (Int.le_refl _)
  rw [u3] at ht
  obtain ⟨t1, t2, t3, t4, t5⟩ := ht
  obtain ⟨ps, e3, hps, hpl⟩ := s41 hk v1 at_ hat (by omega)
  rw [s39 hk _ _ _ _ _ _ _ _ _ (show rest.length ≤ 100000000000 by omega) (show d.length ≤ 100000000000 by omega), u1, t1, e3, Option.bind_some, Option.bind_some]
  simp only
  have hflen : (((ps.map (·.2)).flatten.length : Int) = (fr % 40) * ch) := by rw [hps.flat]; exact hwlen
  have hpre := pieces_prefix c1 c2 hps.all (W := fr % 40) (by omega)
  have hnil : ∀ {A : List Int}, BkOK ch A → frames ch A ≤ 65536 := fun h => h.l
  refine loopC_spec (L5_11 k _ _) (fun y => ∃ (i : Nat) (n : Int) (r : RsT) (o : List Int), y = ((0 : Int), ps, (ps.length : Int), (i : Int), r, (ch, outS ch num den adj frac (rest ++ d) ((ph num den adj frac).make (frames ch rest + fr % 40))), nextR ch num den adj pos frac (rest ++ d) ((ph num den adj frac).make (frames ch rest + fr % 40)), ch, o) ∧
      i ≤ ps.length ∧ 0 ≤ n ∧ n ≤ 65536 ∧ (ph num den adj frac).need n ≤ frames ch (rest ++ ((ps.map (·.2)).take i).flatten) ∧ (0 < i → n = (ph num den adj frac).make (frames ch (rest ++ ((ps.map (·.2)).take i).flatten))) ∧
      r = nextR ch num den adj pos frac (rest ++ ((ps.map (·.2)).take i).flatten) n ∧ o = outS ch num den adj frac (rest ++ ((ps.map (·.2)).take i).flatten) n)
    (fun _ => some true) (fun y => (ps.length - y.2.2.2.1).toNat) ?_ k _ ⟨0, 0, _, _, rfl, by omega, by omega, by omega, ?_, by omega, ?_, ?_⟩ (hk.lt (by simp; omega))
  · rintro y next ⟨i, n, r, o, rfl, hi, n0, n1, hneed, hmake, hr, ho⟩ hnext
    simp only at hnext
    unfold L5_11
    simp only
    obtain ⟨pi1, pi2⟩ := hpre i hi hflen
    have q0 := frames_nonneg (d := ((ps.map (·.2)).take i).flatten) c1
    obtain ⟨ap1, ap2⟩ := append_ok hm.ok.b pi1 (by omega)
    by_cases hlt : i < ps.length
    · have d1 : decide ((i : Int) < (ps.length : Int)) = true := by simp; omega
      have d2 : decide ((0 : Int) ≤ (i : Int)) = true := by simp
      have hw : IntKind.wrap .i64 ((i : Int) + 1) = ((i + 1 : Nat) : Int) := by rw [w64 (by omega) (by omega)]; omega
      simp only [d1, d2, Bool.and_self, cond_true, Int.toNat_natCast, hw]
      have hp := hps.all _ (getD_mem' (e := ((0 : Int), [])) hlt)
      obtain ⟨pi3, pi4⟩ := hpre (i + 1) (by omega) hflen
      have hft := flat_take hlt ((0 : Int), [])
      obtain ⟨p, hpe⟩ : ∃ p : BkT, ps.getD i ((0 : Int), []) = p := ⟨_, rfl⟩
      rw [hpe] at hp hft
      obtain ⟨pc, pd⟩ := p
      obtain ⟨hpc, hpd⟩ := hp
      simp only at hpc hpd hft
      subst hpc
      simp only [hpe]
      obtain ⟨X, hX⟩ : ∃ X : List Int, ((ps.map (·.2)).take i).flatten = X := ⟨_, rfl⟩
      obtain ⟨Y, hY⟩ : ∃ Y : List Int, ((ps.map (·.2)).take (i + 1)).flatten = Y := ⟨_, rfl⟩
      rw [hX, hY] at hft
      rw [hX] at pi1 pi2 q0 ap1 ap2 hneed hr ho
      rw [hY] at pi3 pi4
      have hYX : Y = X ++ pd := hft
      subst hYX
      have hsum : frames pc X + frames pc pd = frames pc (X ++ pd) := by
        have z1 := pi1.len
        have z2 := hpd.len
        have z3 := pi3.len
        rw [List.length_append, Int.natCast_add, z1, z2, ← Int.add_mul] at z3
        exact Int.eq_of_mul_eq_mul_right (show pc ≠ 0 by omega) z3
      have hx0 := frames_nonneg (d := pd) c1
      have hmk2 := make_small hm.ok.p (w := frames pc (rest ++ X) + frames pc pd) (by omega) (show _ ≤ (61 : Int) by omega) (show (0 : Int) ≤ 50 by omega) (by omega)
      obtain ⟨O, g1, g2, g3⟩ := conv_more ⟨hm.ok.p, ap1⟩ hpd (by omega) n0 n1 hneed (by omega) (by omega)
      have hA := ap1.len_le
      subst hr ho
      have hA' := hpd.len_le
      unfold nextR
      rw [s39 hk _ _ _ _ _ _ _ _ _ (by rw [List.length_drop]; omega) (by omega), g1, Option.bind_some]
      simp only [bne_self_eq_false, cond_false]
      have ho1 := (out_ok ⟨hm.ok.p, ap1⟩ n0 n1).1.len_le
      have hapx := append_ok ap1 hpd (by omega)
      have hmm := (ph num den adj frac).make_nonneg (frames pc (rest ++ X) + frames pc pd)
      have hmm' := (ph num den adj frac).make_le (frames pc (rest ++ X) + frames pc pd)
      have ho2 : O.length ≤ 100000000000 := by
        have hz := (out_ok (n := (ph num den adj frac).make (frames pc (rest ++ X) + frames pc pd)) ⟨hm.ok.p, hapx.1⟩ hmm hmm').1.len_le
        rw [← g2, List.length_append] at hz
        omega
      rw [s42 k _ _ _ _ (by omega) ho2, Option.bind_some]
      have hassoc : rest ++ X ++ pd = rest ++ (X ++ pd) := List.append_assoc _ _ _
      rw [hassoc] at hapx
      refine hnext _ ⟨i + 1, (ph num den adj frac).make (frames pc (rest ++ X) + frames pc pd), _, _, rfl, by omega, hmm, hmm', ?_, fun _ => ?_, ?_, ?_⟩ (by simp only; omega)
      · rw [hY, hapx.2]
        exact (ph num den adj frac).need_make (by omega)
      · rw [hY, hapx.2]
      · rw [hY, hassoc]
      · rw [hY, g2, hassoc]
    · have : i = ps.length := by omega
      subst this
      have d1 : decide ((ps.length : Int) < (ps.length : Int)) = false := by simp
      have htake : ((ps.map (·.2)).take ps.length).flatten = d := by
        rw [List.take_of_length_le (by simp), hps.flat]
      rw [htake] at hr ho hmake
      have hpos : 0 < ps.length := by
        rcases hz : ps with _ | ⟨a, b⟩
        · exact absurd hz hps.ne
        · simp
      have hnn := hmake hpos
      rw [u3] at hnn
      subst hnn hr ho
      simp only [d1, cond_false, beq_self_eq_true, cond_true]
      have hout := (out_ok u2 n0 n1).1.len_le
      rw [same27 hk _ (by unfold nextR; simp only [List.length_drop]; have := u2.b.len_le; omega), Option.bind_some]
      simp only [cond_true]
      rw [same38 hk _ (by simp only; omega), Option.bind_some]
  · simp [Ph.need]
    exact frames_nonneg c1
  · have g0 := (ph num den adj frac).gone_zero hok
    have f0 := hm.ok.p.f0
    have f1 := hm.ok.p.f1
    simp only [List.take_zero, List.flatten_nil, List.append_nil]
    unfold nextR goneS
    rw [g0, ph_A]
    simp only [Int.zero_mul, Int.add_zero, Int.toNat_zero, Nat.zero_mul, List.drop_zero]
    rw [Int.emod_eq_of_lt f0 f1]
  · simp [outS, out]
theorem plain5 (x : argsI [.val false (.sl (.int .u8)), .val false (.sl (.int .u8)), .val false (.int .u8)]) (h : WFAs _ x) : f5 fuel x = some true := by
  obtain ⟨seeds, at_, fr⟩ := x
  exact law5 big_fuel sane15 seeds at_ (D8_of h.1) (D8_of h.2.1) fr (u8_of h.2.2)
end Go.Proofs.Ytbfkfobfhjgphaa.Sp
