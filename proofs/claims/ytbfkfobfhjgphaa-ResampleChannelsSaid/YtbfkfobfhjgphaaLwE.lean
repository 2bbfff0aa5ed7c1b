/- The law ResampleChannels, in plain words. -/
import Derived.Test.YtbfkfobfhjgphaaLwD
set_option linter.unusedVariables false
set_option linter.unusedSimpArgs false
namespace Go.Proofs.Ytbfkfobfhjgphaa.Sp
open Go Go.Pev Go.Snd Go.Proofs.Ytbfkfobfhjgphaa.Fn

theorem waveV_bd (seed i c : Int) : -6000000 ≤ waveV seed i c ∧ waveV seed i c ≤ 2000000 := by
  unfold waveV
  generalize IntKind.wrap .i64 ((IntKind.wrap .i64 ((IntKind.wrap .i64 (i * (7919 : Int))) + (IntKind.wrap .i64 (c * (104729 : Int))))) + (IntKind.wrap .i64 (seed * (15485863 : Int)))) = X
  have h1 : Int.tmod X 4001 < 4001 := Int.tmod_lt_of_pos X (by omega)
  have h2 : -4001 < Int.tmod X 4001 := by
    have := Int.tmod_lt_of_pos (-X) (show (0 : Int) < 4001 by omega)
    rw [Int.neg_tmod] at this
    omega
  generalize Int.tmod X 4001 = t at *
  rw [w64 (x := t - 2000) (by omega) (by omega), w64 (by omega) (by omega), w32 (by omega) (by omega)]
  omega
theorem waveL_bd (seed : Int) (ch n : Nat) : ∀ x ∈ waveL seed ch n, -6000000 ≤ x ∧ x ≤ 2000000 := by
  intro x hx
  obtain ⟨i, _, hi⟩ := List.mem_flatMap.1 hx
  obtain ⟨c, _, rfl⟩ := List.mem_map.1 hi
  exact waveV_bd _ _ _
def evs (d : List Int) (i : Nat) : List Int := (List.range ((i + 1) / 2)).map fun j : Nat => d.getD (2 * j) 0
def ods (d : List Int) (i : Nat) : List Int := (List.range (i / 2)).map fun j : Nat => d.getD (2 * j + 1) 0
theorem outS_get {ch num den adj frac : Int} {rest : List Int} {n : Int} {i c : Nat} (hi : (i : Int) < n) (hc : (c : Int) < ch) :
    (outS ch num den adj frac rest n).getD (i * ch.toNat + c) 0 = ip (smp ch.toNat rest (min (goneS num den adj frac i) ((frames ch rest).toNat - 1)) c) (smp ch.toNat rest (min (goneS num den adj frac i + 1) ((frames ch rest).toNat - 1)) c) ((ph num den adj frac).A i % (den * 65536)) (den * 65536) := by
  unfold outS
  rw [List.getD_eq_getElem?_getD, out_get _ _ _ _ _ i c (by omega) (by omega)]
  rfl
theorem range_getD (n : Nat) (g : Nat → Int) (j : Nat) (h : j < n) : ((List.range n).map g).getD j 0 = g j := by
  simp [List.getD, h]

/-- ResampleChannels -/
theorem law9 {k : Nat} (hk : Big k) (hs : f19 k () = some true) (seeds : List Int) (hseeds : ∀ x ∈ seeds, 0 ≤ x ∧ x ≤ 255) (fr : Int) (hfr : 0 ≤ fr ∧ fr ≤ 255) (c : Int) (hc1 : -32768 ≤ c) (hc2 : c ≤ 32767) : f9 k (seeds, fr, c) = some true := by
  unfold f9
  obtain ⟨l, e1, hl⟩ := s22 k hseeds
  obtain ⟨num, den, l', e2, _, hb⟩ := s48 hk hl
  obtain ⟨m1, m2, m3⟩ := u8_mod hfr (show (1 : Int) ≤ 30 by omega) (by omega)
  obtain ⟨n1, n2⟩ := newS_ok (ch := 2) (by omega) (by omega) hb
  obtain ⟨n3, n4⟩ := newS_ok (ch := 1) (by omega) (by omega) hb
  rw [hs]
  simp only [Option.bind_some, Bool.not_true, cond_false, e1, e2, cmp50 n2.p]
  by_cases hden : 50 * num < den
  · simp [hden]
  obtain ⟨v1, v2⟩ := wave_ok 7 (ch := 2) (by omega) (by omega) m2 (show fr % 30 ≤ 65536 by omega)
  have hbd := waveL_bd 7 (Int.toNat 2) (fr % 30).toNat
  have hdl := v1.len_le
  have hdN := lenN v1
  rw [v2] at hdN
  simp only [hden, decide_false, cond_false, m1, s24 hk 7 2 (fr % 30) (by omega) m2 (by omega), Option.bind_some]
  generalize waveL 7 (Int.toNat 2) (fr % 30).toNat = d at *
  obtain ⟨nN, hnN⟩ : ∃ n : Nat, fr % 30 = n := ⟨(fr % 30).toNat, by omega⟩
  rw [hnN] at hdN v2
  have hd2 : d.length = nN * 2 := by rw [hdN]; rfl
  have hc32 : IntKind.wrap .i32 c = c := w32 (by omega) (by omega)
  refine loopC_spec (L9_10 k _) (fun y => ∃ i : Nat, y = (c, d, (d.length : Int), (i : Int), (num, den), ((2 : Int), d), (1 : Int), (1 : Int), (2 : Int), evs d i, ods d i, (d.take i).map (· + c)) ∧ i ≤ d.length) (fun _ => some true) (fun y => (d.length - y.2.2.2.1).toNat) ?_ k _ ⟨0, rfl, by omega⟩ (hk.lt (by simp; omega))
  rintro y next ⟨i, rfl, hi⟩ hnext
  simp only at hnext
  unfold L9_10
  simp only
  by_cases hlt : i < d.length
  · have d1 : decide ((i : Int) < (d.length : Int)) = true := by simp; omega
    have d2 : decide ((0 : Int) ≤ (i : Int)) = true := by simp
    have hw' : IntKind.wrap .i64 ((i : Int) + 1) = ((i + 1 : Nat) : Int) := by rw [w64 (by omega) (by omega)]; omega
    have hx := hbd _ (getD_mem hlt)
    have hup : (d.take (i + 1)).map (· + c) = (d.take i).map (· + c) ++ [d.getD i 0 + c] := by
      rw [List.take_succ_eq_append_getElem hlt, List.map_append, getD_lt d i hlt]; rfl
    have hw32 : IntKind.wrap .i32 (d.getD i 0 + c) = d.getD i 0 + c := w32 (by omega) (by omega)
    have htm : Int.tmod (i : Int) 2 = ((i % 2 : Nat) : Int) := by rw [tmod_pos (by omega)]; omega
    simp only [d1, d2, Bool.and_self, cond_true, Int.toNat_natCast, hw', hc32, hw32, htm]
    by_cases hev : i % 2 = 0
    · have c0 : (((i % 2 : Nat) : Int) == 0) = true := by rw [hev]; rfl
      simp only [c0, cond_true]
      rw [maxB (by simp [evs]; omega), cond_true, maxB (by simp; omega), cond_true]
      refine hnext _ ⟨i + 1, ?_, by omega⟩ (by simp only; omega)
      have h1 : evs d (i + 1) = evs d i ++ [d.getD i 0] := by
        unfold evs
        rw [show (i + 1 + 1) / 2 = (i + 1) / 2 + 1 by omega, List.range_succ, List.map_append]
        simp only [List.map_cons, List.map_nil]
        rw [show 2 * ((i + 1) / 2) = i by omega]
      have h2 : ods d (i + 1) = ods d i := by unfold ods; rw [show (i + 1) / 2 = i / 2 by omega]
      rw [h1, h2, hup]
    · have c0 : (((i % 2 : Nat) : Int) == 0) = false := by simp only [beq_eq_false_iff_ne]; omega
      simp only [c0, cond_false]
      rw [maxB (by simp [ods]; omega), cond_true, maxB (by simp; omega), cond_true]
      refine hnext _ ⟨i + 1, ?_, by omega⟩ (by simp only; omega)
      have h1 : ods d (i + 1) = ods d i ++ [d.getD i 0] := by
        unfold ods
        rw [show (i + 1) / 2 = i / 2 + 1 by omega, List.range_succ, List.map_append]
        simp only [List.map_cons, List.map_nil]
        rw [show 2 * (i / 2) + 1 = i by omega]
      have h2 : evs d (i + 1) = evs d i := by unfold evs; rw [show (i + 1 + 1) / 2 = (i + 1) / 2 by omega]
      rw [h1, h2, hup]
  · have : i = d.length := by omega
    subst this
    have d1 : decide ((d.length : Int) < (d.length : Int)) = false := by simp
    have hE : evs d d.length = (List.range nN).map fun j : Nat => d.getD (2 * j) 0 := by unfold evs; rw [hd2, show (nN * 2 + 1) / 2 = nN by omega]
    have hO : ods d d.length = (List.range nN).map fun j : Nat => d.getD (2 * j + 1) 0 := by unfold ods; rw [hd2, show nN * 2 / 2 = nN by omega]
    have hU : (d.take d.length).map (· + c) = d.map (· + c) := by rw [List.take_length]
    rw [hE, hO, hU]
    have hds := v1.s
    obtain ⟨bE, fE⟩ := BkOK.mk' (ch := 1) (by omega) (by omega) (d := (List.range nN).map fun j : Nat => d.getD (2 * j) 0) (w := nN) (by simp) (by omega) (fun x hx => by
      obtain ⟨j, hj, rfl⟩ := List.mem_map.1 hx
      have : j < nN := by simpa using hj
      exact hds _ (getD_mem (by omega)))
    obtain ⟨bO, fO⟩ := BkOK.mk' (ch := 1) (by omega) (by omega) (d := (List.range nN).map fun j : Nat => d.getD (2 * j + 1) 0) (w := nN) (by simp) (by omega) (fun x hx => by
      obtain ⟨j, hj, rfl⟩ := List.mem_map.1 hx
      have : j < nN := by simpa using hj
      exact hds _ (getD_mem (by omega)))
    obtain ⟨bU, fU⟩ := BkOK.mk' (ch := 2) (by omega) (by omega) (d := d.map (· + c)) (w := nN) (by rw [List.length_map, hd2]; simp) (by omega) (fun x hx => by
      obtain ⟨y, hy, rfl⟩ := List.mem_map.1 hx
      have := hbd y hy
      exact ⟨by omega, by omega⟩)
    have conv : ∀ {ch : Int} {D : List Int}, RsOK ch num den 0 0 0 [] → BkOK ch D → frames ch D = nN → ∃ r, convS ch num den 0 0 0 [] ch D = ((ch, outS ch num den 0 0 D ((ph num den 0 0).make nN)), r, 0) ∧ (outS ch num den 0 0 D ((ph num den 0 0).make nN)).length = ((ph num den 0 0).make nN).toNat * ch.toNat := by
      intro ch D hr hD hf
      have z := nil_ok hr.b.c1 hr.b.c2
      obtain ⟨u1, u2, u3⟩ := convS_ok hr (by omega) hD (by rw [z.2]; omega)
      rw [z.2, hf, Int.zero_add] at u1 u3
      rw [List.nil_append] at u1 u2 u3
      have ht := takeS_ok u2 (by omega) ((ph num den 0 0).make_nonneg (frames ch D)) (Int.le_refl _)
      rw [u3] at ht
      exact ⟨_, by rw [u1, ht.1], by unfold outS; rw [out_length]⟩
    obtain ⟨rx, cx, lx⟩ := conv n2 v1 v2
    obtain ⟨ry, cy, ly⟩ := conv n4 bE fE
    obtain ⟨rz, cz, lz⟩ := conv n4 bO fO
    obtain ⟨ru, cu, lu⟩ := conv n2 bU fU
    have hmk0 := (ph num den 0 0).make_nonneg nN
    have hmk1 := (ph num den 0 0).make_le nN
    simp only [d1, cond_false, s32 hk, n1, n3, Option.bind_some]
    rw [s39 hk _ _ _ _ _ _ _ _ _ (by simp) (by omega), cx, s39 hk _ _ _ _ _ _ _ _ _ (by simp) (by simp; omega), cy, s39 hk _ _ _ _ _ _ _ _ _ (by simp) (by simp; omega), cz, s39 hk _ _ _ _ _ _ _ _ _ (by simp) (by simp; omega), cu]
    simp only [Option.bind_some, bne_self_eq_false, cond_false, lx, ly, lz, lu]
    obtain ⟨mN, hmN⟩ : ∃ m : Nat, (ph num den 0 0).make nN = m := ⟨((ph num den 0 0).make nN).toNat, by omega⟩
    have hneed := (ph num den 0 0).need_make (w := nN) (by omega)
    have hX : ∀ (i : Nat), i < mN → i < mN → True := fun _ _ _ => trivial
    have t1 : ((mN : Int)).toNat = mN := by omega
    have t2 : Int.toNat 2 = 2 := rfl
    have t3 : Int.toNat 1 = 1 := rfl
    rw [hmN] at hmk0 hmk1 hneed lx ly lz lu
    rw [t1] at lx ly lz lu
    rw [t2] at lx lu
    rw [t3] at ly lz
    simp only [hmN, t1, t2, t3]
    have hw2 : IntKind.wrap .i64 (2 * ((mN * 1 : Nat) : Int)) = ((mN * 2 : Nat) : Int) := by rw [w64 (by omega) (by omega)]; omega
    simp only [hw2, bne_self_eq_false, cond_false]
    have fits : ∀ i : Nat, i < mN → goneS num den 0 0 i + 1 < nN := by
      intro i hi
      have h1 := (ph num den 0 0).need_mono n2.p.ok (show (0 : Int) ≤ (i : Int) + 1 by omega) (show (i : Int) + 1 ≤ mN by omega)
      rw [(ph num den 0 0).need_eq (show (i : Int) + 1 ≠ 0 by omega), show (i : Int) + 1 - 1 = i by omega] at h1
      have h2 := (ph num den 0 0).gone_nonneg n2.p.ok (show (0 : Int) ≤ i by omega)
      unfold goneS
      omega
    have gx : ∀ i q : Nat, i < mN → q < 2 → (outS 2 num den 0 0 d mN).getD (i * 2 + q) 0 = ip (d.getD (2 * goneS num den 0 0 i + q) 0) (d.getD (2 * (goneS num den 0 0 i + 1) + q) 0) ((ph num den 0 0).A i % (den * 65536)) (den * 65536) := by
      intro i q hi hq
      have hf := fits i hi
      have := outS_get (ch := 2) (num := num) (den := den) (adj := 0) (frac := 0) (rest := d) (n := mN) (i := i) (c := q) (by omega) (by omega)
      rw [v2] at this
      simp only [t2, Int.toNat_natCast] at this
      rw [this, show min (goneS num den 0 0 i) (nN - 1) = goneS num den 0 0 i by omega, show min (goneS num den 0 0 i + 1) (nN - 1) = goneS num den 0 0 i + 1 by omega]
      unfold smp
      rw [Nat.mul_comm, Nat.mul_comm (goneS num den 0 0 i + 1)]
    have gu : ∀ i : Nat, i < mN → (outS 2 num den 0 0 (d.map (· + c)) mN).getD (i * 2) 0 = ip (d.getD (2 * goneS num den 0 0 i) 0) (d.getD (2 * (goneS num den 0 0 i + 1)) 0) ((ph num den 0 0).A i % (den * 65536)) (den * 65536) + c := by
      intro i hi
      have hf := fits i hi
      have := outS_get (ch := 2) (num := num) (den := den) (adj := 0) (frac := 0) (rest := d.map (· + c)) (n := mN) (i := i) (c := 0) (by omega) (by omega)
      rw [fU] at this
      simp only [t2, Int.toNat_natCast, Nat.add_zero] at this
      rw [this, show min (goneS num den 0 0 i) (nN - 1) = goneS num den 0 0 i by omega, show min (goneS num den 0 0 i + 1) (nN - 1) = goneS num den 0 0 i + 1 by omega, ← ip_add _ _ _ _ _ (show 0 < den * 65536 from n2.p.ok.hP)]
      have hm : ∀ j : Nat, j < d.length → (d.map (· + c)).getD j 0 = d.getD j 0 + c := by
        intro j hj
        rw [getD_lt _ _ (by simpa using hj), getD_lt _ _ hj, List.getElem_map]
      unfold smp
      rw [hm _ (by omega), hm _ (by omega), Nat.add_zero, Nat.add_zero, Nat.mul_comm, Nat.mul_comm (goneS num den 0 0 i + 1)]
    have gy : ∀ (g : Nat → Int) (i : Nat), i < mN → frames 1 ((List.range nN).map g) = nN → (outS 1 num den 0 0 ((List.range nN).map g) mN).getD i 0 = ip (g (goneS num den 0 0 i)) (g (goneS num den 0 0 i + 1)) ((ph num den 0 0).A i % (den * 65536)) (den * 65536) := by
      intro g i hi hfg
      have hf := fits i hi
      have := outS_get (ch := 1) (num := num) (den := den) (adj := 0) (frac := 0) (rest := (List.range nN).map g) (n := mN) (i := i) (c := 0) (by omega) (by omega)
      rw [hfg] at this
      simp only [t3, Int.toNat_natCast, Nat.add_zero, Nat.mul_one] at this
      rw [this, show min (goneS num den 0 0 i) (nN - 1) = goneS num den 0 0 i by omega, show min (goneS num den 0 0 i + 1) (nN - 1) = goneS num den 0 0 i + 1 by omega]
      unfold smp
      rw [Nat.mul_one, Nat.add_zero, Nat.mul_one, Nat.add_zero, range_getD _ _ _ (by omega), range_getD _ _ _ hf]
    have oS := out_isS (ph num den 0 0) n2.p.ok 2 d hds nN mN
    have hoS : ∀ i : Nat, i < mN * 2 → isS ((outS 2 num den 0 0 d mN).getD i 0) := by
      intro i hi
      have : outS 2 num den 0 0 d mN = out (ph num den 0 0) 2 d nN mN := by unfold outS; rw [v2]; rfl
      rw [this]
      exact oS _ (getD_mem (by rw [out_length]; exact hi))
    refine loopC_spec (L9_26 k _ _) (fun y => ∃ j : Nat, y = (c, ((mN * 1 : Nat) : Int), (j : Int), ((2 : Int), outS 2 num den 0 0 d mN), ((1 : Int), outS 1 num den 0 0 ((List.range nN).map fun j : Nat => d.getD (2 * j) 0) mN), ((1 : Int), outS 1 num den 0 0 ((List.range nN).map fun j : Nat => d.getD (2 * j + 1) 0) mN), (2 : Int), outS 2 num den 0 0 (d.map (· + c)) mN) ∧ j ≤ mN) (fun _ => some true) (fun y => (mN - y.2.2.1).toNat) ?_ k _ ⟨0, rfl, by omega⟩ (hk.lt (by simp; omega))
    rintro y next' ⟨j, rfl, hj⟩ hnext'
    simp only at hnext'
    unfold L9_26
    simp only [lx, ly, lz, lu, hc32]
    by_cases hjl : j < mN
    · have w2 : IntKind.wrap .i64 (2 * (j : Int)) = ((j * 2 : Nat) : Int) := by rw [w64 (by omega) (by omega)]; omega
      have w3 : IntKind.wrap .i64 (((j * 2 : Nat) : Int) + 1) = ((j * 2 + 1 : Nat) : Int) := by rw [w64 (by omega) (by omega)]; omega
      have w4 : IntKind.wrap .i64 ((j : Int) + 1) = ((j + 1 : Nat) : Int) := by rw [w64 (by omega) (by omega)]; omega
      have q1 : decide ((j : Int) < ((mN * 1 : Nat) : Int)) = true := by simp only [decide_eq_true_eq]; omega
      have q2 : decide ((0 : Int) ≤ ((j * 2 : Nat) : Int)) = true := by simp only [decide_eq_true_eq]; omega
      have q3 : decide (((j * 2 : Nat) : Int) < ((mN * 2 : Nat) : Int)) = true := by simp only [decide_eq_true_eq]; omega
      have q4 : decide ((0 : Int) ≤ (j : Int)) = true := by simp
      have q5 : decide ((0 : Int) ≤ ((j * 2 + 1 : Nat) : Int)) = true := by simp only [decide_eq_true_eq]; omega
      have q6 : decide (((j * 2 + 1 : Nat) : Int) < ((mN * 2 : Nat) : Int)) = true := by simp only [decide_eq_true_eq]; omega
      have x0 := gx j 0 hjl (by omega)
      have x1 := gx j 1 hjl (by omega)
      have y0 := gy (fun j : Nat => d.getD (2 * j) 0) j hjl fE
      have z0 := gy (fun j : Nat => d.getD (2 * j + 1) 0) j hjl fO
      have u0 := gu j hjl
      have hr1 := hoS (j * 2) (by omega)
      rw [Nat.add_zero, Nat.add_zero, Nat.add_zero] at x0
      have hw32 : IntKind.wrap .i32 ((outS 2 num den 0 0 d mN).getD (j * 2) 0 + c) = (outS 2 num den 0 0 d mN).getD (j * 2) 0 + c := w32 (by have := hr1.1; omega) (by have := hr1.2; omega)
      have b1 : ((outS 2 num den 0 0 d mN).getD (j * 2) 0 != (outS 1 num den 0 0 ((List.range nN).map fun j : Nat => d.getD (2 * j) 0) mN).getD j 0) = false := by rw [x0, y0]; simp
      have b2 : ((outS 2 num den 0 0 d mN).getD (j * 2 + 1) 0 != (outS 1 num den 0 0 ((List.range nN).map fun j : Nat => d.getD (2 * j + 1) 0) mN).getD j 0) = false := by rw [x1, z0]; simp
      have b3 : ((outS 2 num den 0 0 (d.map (· + c)) mN).getD (j * 2) 0 != (outS 2 num den 0 0 d mN).getD (j * 2) 0 + c) = false := by rw [u0, x0]; simp
      simp only [q1, w2, q2, q3, q4, Bool.and_self, cond_true, w3, q5, q6, Int.toNat_natCast, b1, b2, hw32, b3, cond_false, w4]
      exact hnext' _ ⟨j + 1, rfl, by omega⟩ (by simp only; omega)
    · have : j = mN := by omega
      subst this
      have q1 : decide ((j : Int) < ((j * 1 : Nat) : Int)) = false := by simp only [decide_eq_false_iff_not]; omega
      simp only [q1, cond_false]
theorem i16_of {s : Int} (h : (Lit.int .i16 s).wf = true) : -32768 ≤ s ∧ s ≤ 32767 := by
  simp only [Lit.wf, Bool.and_eq_true, decide_eq_true_eq] at h
  have e1 : IntKind.min .i16 = -32768 := by decide
  have e2 : IntKind.max .i16 = 32767 := by decide
  rw [e1, e2] at h
  exact h
theorem plain9 (x : argsI [.val false (.sl (.int .u8)), .val false (.int .u8), .val false (.int .i16)]) (h : WFAs _ x) : f9 fuel x = some true := by
  obtain ⟨seeds, fr, s⟩ := x
  have hi := i16_of h.2.2
  exact law9 big_fuel sane15 seeds (D8_of h.1) fr (u8_of h.2.1) s hi.1 hi.2
end Go.Proofs.Ytbfkfobfhjgphaa.Sp
