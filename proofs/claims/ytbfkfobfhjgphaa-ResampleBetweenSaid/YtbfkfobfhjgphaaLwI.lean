/- The law ResampleBetween, in plain words. -/
import Derived.Test.YtbfkfobfhjgphaaLwD
set_option linter.unusedVariables false
set_option linter.unusedSimpArgs false
namespace Go.Proofs.Ytbfkfobfhjgphaa.Sp
open Go Go.Pev Go.Snd Go.Proofs.Ytbfkfobfhjgphaa.Fn

/-- ResampleBetween -/
theorem law7 {k : Nat} (hk : Big k) (hs : f19 k () = some true) (seeds : List Int) (hseeds : ∀ x ∈ seeds, 0 ≤ x ∧ x ≤ 255) (n : Int) (hn : 0 ≤ n ∧ n ≤ 255) : f7 k (seeds, n) = some true := by
  unfold f7
  obtain ⟨l, e1, hl⟩ := s22 k hseeds
  obtain ⟨ch0, num, den, adj, pos, frac, rest0, l', e2, hl', hm, _⟩ := s23 hk hl
  obtain ⟨d, l2, e3, _, hd, hf⟩ := s43 hk hl' (show (1 : Int) ≤ 1 by omega) (show (1 : Int) ≤ 8 by omega) (show (0 : Int) ≤ 20 by omega) (by omega)
  obtain ⟨m1, m2, m3⟩ := u8_mod hn (show (1 : Int) ≤ 60 by omega) (by omega)
  have hp := hm.ok.p
  have hr : RsOK 1 num den adj pos frac d := ⟨hp, hd⟩
  have hok := hp.ok
  have p0 := hp.p0
  have w0 := frames_nonneg (d := rest0) hm.ok.b.c1
  have hsm := hm.small
  have hdl := hd.len
  rw [hf] at hdl
  rw [hs]
  simp only [Option.bind_some, Bool.not_true, cond_false, e1, e2, e3, cmp50 hp]
  by_cases hden : 50 * num < den
  · simp [hden]
  simp only [hden, decide_false, cond_false, s45 hk, makeS_eq hp (show (0 : Int) ≤ 20 by omega) (by omega), Option.bind_some, m1]
  have hM0 := (ph num den adj frac).make_nonneg 20
  have hM1 := (ph num den adj frac).make_le 20
  obtain ⟨q, hq⟩ : ∃ q, (if n % 60 < (ph num den adj frac).make 20 then n % 60 else (ph num den adj frac).make 20) = q := ⟨_, rfl⟩
  have q0 : 0 ≤ q := by rw [← hq]; split <;> omega
  have q1 : q ≤ (ph num den adj frac).make 20 := by rw [← hq]; split <;> omega
  simp only [hq]
  have ht := takeS_ok hr (by omega) q0 (by rw [hf]; exact q1)
  obtain ⟨t1, _⟩ := ht
  have hfin : finS 1 num den adj pos frac d q = ((1, outS 1 num den adj frac d q), nextR 1 num den adj pos frac d q, 0) := by
    have hleft := (ph num den adj frac).make_le_left hok (show (0 : Int) ≤ 20 by omega) q0 q1
    have hneed := (ph num den adj frac).need_of_le_make hok (show (0 : Int) ≤ 20 by omega) q0 q1
    have hg := (ph num den adj frac).gone_le_need hok q0
    rw [finS_eq hr q0 (by omega), hf, Int.min_eq_left hleft, (prodS_ok hr q0 (by omega) (by omega)).1]
    rfl
  have hol : ((outS 1 num den adj frac d q).length : Int) = q := by
    simp only [outS, out_length]
    show ((q.toNat * 1 : Nat) : Int) = q
    omega
  have hdl' : d.length ≤ 1000000000000 := by omega
  rw [s34 hk _ _ _ _ _ _ _ hdl', s36 hk _ _ _ _ _ _ _ hdl', t1, hfin]
  simp only [Option.bind_some, bne_self_eq_false, cond_false, hol]
  rw [same38 hk _ (by simp only; omega)]
  simp only [Option.bind_some, Bool.not_true, cond_false]
  obtain ⟨o, ho⟩ : ∃ o, outS 1 num den adj frac d q = o := ⟨_, rfl⟩
  have hget : ∀ i : Nat, (i : Int) < q → o.getD i 0 = ip (d.getD ((ph num den adj frac).gone i).toNat 0) (d.getD (((ph num den adj frac).gone i).toNat + 1) 0) ((ph num den adj frac).A i % (den * 65536)) (den * 65536) ∧ 0 ≤ (ph num den adj frac).gone i ∧ (ph num den adj frac).gone i + 1 < 20 := by
    intro i hi
    have hneed := (ph num den adj frac).need_of_le_make hok (show (0 : Int) ≤ 20 by omega) q0 q1
    have hg0 := (ph num den adj frac).gone_nonneg hok (show 0 ≤ (i : Int) by omega)
    have hgm := (ph num den adj frac).gone_mono hok (show (i : Int) ≤ q - 1 by omega)
    rw [(ph num den adj frac).need_eq (show q ≠ 0 by omega)] at hneed
    refine ⟨?_, hg0, by omega⟩
    have h1 := out_get (ph num den adj frac) 1 d 20 q.toNat i 0 (by omega) (by omega)
    rw [← ho, List.getD_eq_getElem?_getD]
    unfold outS
    rw [hf]
    have e : i * 1 + 0 = i := by omega
    rw [e] at h1
    show ((out (ph num den adj frac) 1 d 20 q.toNat)[i]?).getD 0 = _
    rw [h1]
    simp only [Option.getD_some, smp]
    have g1 : min ((ph num den adj frac).gone i).toNat (20 - 1) * 1 + 0 = ((ph num den adj frac).gone i).toNat := by omega
    have g2 : min (((ph num den adj frac).gone i).toNat + 1) (20 - 1) * 1 + 0 = ((ph num den adj frac).gone i).toNat + 1 := by omega
    rw [g1, g2]
    rfl
  simp only [ho]
  rw [ho] at hol
  refine loopC_spec (L7_15 k _ _) (fun y => ∃ i : Nat, y = (q, (i : Int), (1, num, den, adj, pos, frac, d), o) ∧ (i : Int) ≤ q) (fun _ => some true) (fun y => (q - y.2.1).toNat) ?_ k _ ⟨0, rfl, by omega⟩ (hk.lt (by simp only; omega))
  rintro y next ⟨i, rfl, hi⟩ hnext
  simp only at hnext
  unfold L7_15
  simp only
  by_cases hlt : (i : Int) < q
  · obtain ⟨g1, g2, g3⟩ := hget i hlt
    have hPpos : 0 < den * 65536 := by have := hp.d1; omega
    have hf0 := Int.emod_nonneg ((ph num den adj frac).A i) (Int.ne_of_gt hPpos)
    have hf1 := Int.emod_lt_of_pos ((ph num den adj frac).A i) hPpos
    have hck : checkS (phOK num den adj pos frac) i = 0 := (checkS_zero _ _).2 ⟨(phOK_iff _ _ _ _ _).2 hp, by omega, by omega⟩
    have hat : atS num den adj pos frac i = (pos + (ph num den adj frac).gone i, (ph num den adj frac).A i % (den * 65536), 0) := by unfold atS; rw [if_pos hck]
    have d1 : decide ((i : Int) < q) = true := by simp only [decide_eq_true_eq]; exact hlt
    have d2 : (decide (0 ≤ (i : Int)) && decide ((i : Int) < (o.length : Int))) = true := by rw [hol]; simp only [Bool.and_eq_true, decide_eq_true_eq]; omega
    have hw : IntKind.wrap .i64 ((i : Int) + 1) = ((i + 1 : Nat) : Int) := by rw [w64 (by omega) (by omega)]; omega
    simp only [d1, d2, cond_true, s46 hk, hat, Option.bind_some, Int.toNat_natCast, g1, hw]
    generalize (ph num den adj frac).gone i = g at *
    rw [w64 (x := pos + g - pos) (by omega) (by omega), show pos + g - pos = g by omega, w64 (x := g + 1) (by omega) (by omega)]
    have d3 : (decide (0 ≤ g) && decide (g < (d.length : Int))) = true := by rw [hdl]; simp only [Bool.and_eq_true, decide_eq_true_eq]; omega
    have d4 : (decide (0 ≤ g + 1) && decide (g + 1 < (d.length : Int))) = true := by rw [hdl]; simp only [Bool.and_eq_true, decide_eq_true_eq]; omega
    have e5 : (g + 1).toNat = g.toNat + 1 := by omega
    simp only [d3, d4, cond_true, e5]
    generalize d.getD g.toNat 0 = a
    generalize d.getD (g.toNat + 1) 0 = b
    have hge := ip_ge a b ((ph num den adj frac).A i % (den * 65536)) (den * 65536) (if b < a then b else a) hPpos hf0 (by omega) (by split <;> omega) (by split <;> omega)
    have hle := ip_le a b ((ph num den adj frac).A i % (den * 65536)) (den * 65536) (if b > a then b else a) hPpos hf0 (by omega) (by split <;> omega) (by split <;> omega)
    have d5 : decide (ip a b ((ph num den adj frac).A i % (den * 65536)) (den * 65536) < (if b < a then b else a)) = false := by simp only [decide_eq_false_iff_not]; omega
    have d6 : decide (ip a b ((ph num den adj frac).A i % (den * 65536)) (den * 65536) > (if b > a then b else a)) = false := by simp only [decide_eq_false_iff_not]; omega
    simp only [d5, d6, cond_false]
    exact hnext _ ⟨i + 1, rfl, by omega⟩ (by simp only; omega)
  · have : (i : Int) = q := by omega
    have d1 : decide ((i : Int) < q) = false := by simp only [decide_eq_false_iff_not]; exact hlt
    simp only [d1, cond_false]
theorem plain7 (x : argsI [.val false (.sl (.int .u8)), .val false (.int .u8)]) (h : WFAs _ x) : f7 fuel x = some true := by
  obtain ⟨seeds, n⟩ := x
  exact law7 big_fuel sane15 seeds (D8_of h.1) n (u8_of h.2)
end Go.Proofs.Ytbfkfobfhjgphaa.Sp
