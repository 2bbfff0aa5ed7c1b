/- The laws ResampleFeeds and ResampleTakes, in plain words: program and reference give the same. -/
import Derived.Test.YtbfkfobfhjgphaaSpG
import Derived.Test.YtbfkfobfhjgphaaPevRow
set_option linter.unusedVariables false
set_option linter.unusedSimpArgs false
namespace Go.Proofs.Ytbfkfobfhjgphaa.Sp
open Go Go.Pev Go.Snd Go.Proofs.Ytbfkfobfhjgphaa.Fn

theorem s20 (k : Nat) (r : RsT) (n : Int) : f20 k (r, n) = some (decide ((r.2.2.2.2.2.2.length : Int) ≤ n)) := rfl
theorem s21 (k : Nat) (b : BkT) (n : Int) : f21 k (b, n) = some (decide ((b.2.length : Int) ≤ n)) := rfl
theorem getD_mem' {α : Type} {d : List α} {i : Nat} {e : α} (h : i < d.length) : d.getD i e ∈ d := by
  have : d.getD i e = d[i] := by simp [List.getD, h]
  rw [this]; exact List.getElem_mem h

theorem feedS_len (ch num den adj pos frac : Int) (rest : List Int) (bc : Int) (bd : List Int) : (feedS ch num den adj pos frac rest bc bd).1.2.2.2.2.2.2.length ≤ rest.length + bd.length := by
  unfold feedS
  split
  · split
    · split
      · simp [zeroR]
      · simp
    · simp [zeroR]
  · simp [zeroR]
theorem prodS_len (ch num den adj pos frac : Int) (rest : List Int) (n : Int) (hc : ch ≤ 8) (hn : n ≤ 65536) : (prodS ch num den adj pos frac rest n).1.2.length ≤ 1000000 ∧ (prodS ch num den adj pos frac rest n).2.1.2.2.2.2.2.2.length ≤ rest.length := by
  unfold prodS
  split
  · refine ⟨?_, by simp⟩
    simp only [outS, out_length]
    have : n.toNat * ch.toNat ≤ 65536 * 8 := Nat.mul_le_mul (by omega) (by omega)
    omega
  · simp
theorem takeS_len (ch num den adj pos frac : Int) (rest : List Int) (n : Int) : (takeS ch num den adj pos frac rest n).1.2.length ≤ 1000000 ∧ (takeS ch num den adj pos frac rest n).2.1.2.2.2.2.2.2.length ≤ rest.length := by
  unfold takeS
  split
  · rename_i h
    obtain ⟨h1, h2, h3, _⟩ := check_ph h
    split
    · simp [zeroB, zeroR]
    · exact prodS_len _ _ _ _ _ _ _ _ h1.b.c2 h3
  · simp [zeroB, zeroR]
theorem finS_len (ch num den adj pos frac : Int) (rest : List Int) (n : Int) : (finS ch num den adj pos frac rest n).1.2.length ≤ 1000000 ∧ (finS ch num den adj pos frac rest n).2.1.2.2.2.2.2.2.length ≤ rest.length := by
  unfold finS
  split
  · rename_i h
    obtain ⟨h1, h2, h3, _⟩ := check_ph h
    exact prodS_len _ _ _ _ _ _ _ _ h1.b.c2 (by omega)
  · simp [zeroB, zeroR]
theorem convS_len (ch num den adj pos frac : Int) (rest : List Int) (bc : Int) (bd : List Int) : (convS ch num den adj pos frac rest bc bd).1.2.length ≤ 1000000 ∧ (convS ch num den adj pos frac rest bc bd).2.1.2.2.2.2.2.2.length ≤ rest.length + bd.length := by
  unfold convS
  split
  · have := takeS_len ch num den adj pos frac (rest ++ bd) ((ph num den adj frac).make (frames ch (rest ++ bd)))
    rw [List.length_append] at this
    exact this
  · simp [zeroB, zeroR]

/-- ResampleFeeds -/
theorem law3 {k : Nat} (hk : Big k) (hs : f19 k () = some true) (raw : RsT) (b : BkT) (seeds : List Int) (hseeds : ∀ x ∈ seeds, 0 ≤ x ∧ x ≤ 255) (ch num den : Int) : f3 k (raw, b, seeds, ch, num, den) = some true := by
  unfold f3
  rw [hs]
  simp only [Option.bind_some, Bool.not_true, cond_false, s20, s21]
  by_cases h1 : (raw.2.2.2.2.2.2.length : Int) ≤ 300
  · by_cases h2 : (b.2.length : Int) ≤ 300
    · simp only [h1, h2, decide_true, Bool.not_true, cond_false]
      obtain ⟨l, e1, hl⟩ := s22 k hseeds
      obtain ⟨c, n, d, a, p, f, rest, l', e2, _, hm, _⟩ := s23 hk hl
      have hrest := rs_len ((rsOK_iff _ _ _ _ _ _ _).2 hm.ok)
      simp only [e1, e2, Option.bind_some]
      have hall : ∀ r ∈ [raw, (c, n, d, a, p, f, rest)], r.2.2.2.2.2.2.length ≤ 1000000 := by
        intro r hr
        simp only [List.mem_cons, List.not_mem_nil, or_false] at hr
        rcases hr with rfl | rfl
        · omega
        · simp only; omega
      have hlen : [raw, (c, n, d, a, p, f, rest)].length = 2 := rfl
      generalize [raw, (c, n, d, a, p, f, rest)] = rs at hall hlen
      have hfin : ∀ z17 : Int × Int × Int, (Option.bind (f32 k z17) fun r18 => Option.bind (f33 k z17) fun r19 => bif (r18.2 == r19.2) then Option.bind (f27 k (r18.1, r19.1)) fun r20 => some r20 else some false) = some true := by
        rintro ⟨x, y, z⟩
        rw [s32 hk, s33 hk, Option.bind_some, Option.bind_some]
        simp only [beq_self_eq_true, cond_true]
        rw [same27 hk _ (by unfold newS; split <;> simp), Option.bind_some]
      rw [hlen]
      refine loopC_spec (L3_7 k _ _) (fun y => ∃ i : Nat, y = (ch, 2, (i : Int), b, (num, den), rs) ∧ i ≤ 2) (fun _ => some true) (fun y => (2 - y.2.2.1).toNat) ?_ k _ ⟨0, rfl, by omega⟩ (hk.lt (by simp))
      rintro y next ⟨i, rfl, hi⟩ hnext
      simp only at hnext
      unfold L3_7
      simp only
      by_cases hlt : i < 2
      · have c1 : decide ((i : Int) < 2) = true := by simp; omega
        have c2 : decide ((i : Int) < (rs.length : Int)) = true := by simp; omega
        have c3 : decide ((0 : Int) ≤ (i : Int)) = true := by simp
        have hw : IntKind.wrap .i64 ((i : Int) + 1) = ((i + 1 : Nat) : Int) := by rw [w64 (by omega) (by omega)]; omega
        simp only [c1, c2, c3, Bool.and_self, cond_true, s24 hk 1 1 5 (by omega) (by omega) (by omega), Option.bind_some, Int.toNat_natCast]
        have hmem := hall _ (getD_mem' (e := ((0 : Int), (0 : Int), (0 : Int), (0 : Int), (0 : Int), (0 : Int), [])) (show i < rs.length by omega))
        generalize rs.getD i ((0 : Int), (0 : Int), (0 : Int), (0 : Int), (0 : Int), (0 : Int), []) = r at hmem
        have hbs : ∀ x ∈ [b, (1, waveL 1 (Int.toNat 1) (Int.toNat 5))], x.2.length ≤ 1000000 := by
          intro x hx
          simp only [List.mem_cons, List.not_mem_nil, or_false] at hx
          rcases hx with rfl | rfl
          · omega
          · simp [waveL_len]
        have hbl : [b, (1, waveL 1 (Int.toNat 1) (Int.toNat 5))].length = 2 := rfl
        generalize [b, (1, waveL 1 (Int.toNat 1) (Int.toNat 5))] = bs at hbs hbl
        rw [hbl]
        obtain ⟨c', n', d', a', p', f', rest'⟩ := r
        simp only at hmem
        refine loopC_spec (L3_10 k _ _) (fun y => ∃ j : Nat, y = (ch, 2, (i : Int), 2, (j : Int), b, (num, den), (c', n', d', a', p', f', rest'), rs, bs) ∧ j ≤ 2) (fun _ => some true) (fun y => (2 - y.2.2.2.2.1).toNat) ?_ k _ ⟨0, rfl, by omega⟩ (hk.lt (by simp))
        rintro y next' ⟨j, rfl, hj⟩ hnext'
        simp only at hnext'
        unfold L3_10
        simp only
        by_cases hjl : j < 2
        · have c4 : decide ((j : Int) < 2) = true := by simp; omega
          have c5 : decide ((j : Int) < (bs.length : Int)) = true := by simp; omega
          have c6 : decide ((0 : Int) ≤ (j : Int)) = true := by simp
          have hw' : IntKind.wrap .i64 ((j : Int) + 1) = ((j + 1 : Nat) : Int) := by rw [w64 (by omega) (by omega)]; omega
          have hmb := hbs _ (getD_mem' (e := ((0 : Int), [])) (show j < bs.length by omega))
          simp only [c4, c5, c6, Bool.and_self, cond_true, Int.toNat_natCast]
          generalize bs.getD j ((0 : Int), []) = bb at hmb
          obtain ⟨bc, bd⟩ := bb
          simp only at hmb
          rw [s25 hk _ _ _ _ _ _ _ _ _ (by omega) (by omega), s26 hk _ _ _ _ _ _ _ _ _ (by omega) (by omega), Option.bind_some, Option.bind_some]
          simp only [bne_self_eq_false, cond_false]
          rw [same27 hk _ (Nat.le_trans (feedS_len _ _ _ _ _ _ _ _ _) (by omega)), Option.bind_some]
          simp only [Bool.not_true, cond_false, hw']
          exact hnext' _ ⟨j + 1, rfl, by omega⟩ (by simp only; omega)
        · have : j = 2 := by omega
          subst this
          have c4 : decide (((2 : Nat) : Int) < 2) = false := by decide
          simp only [c4, cond_false]
          rw [s28 hk _ _ _ _ _ _ _ (by omega), s29 hk _ _ _ _ _ _ _ (by omega), Option.bind_some, Option.bind_some]
          simp only [bne_self_eq_false, cond_false]
          rw [s30 hk _ _ _ _ _ _ _ (by omega), s31 hk _ _ _ _ _ _ _ (by omega), Option.bind_some, Option.bind_some]
          simp only [bne_self_eq_false, cond_false, hw]
          exact hnext _ ⟨i + 1, rfl, by omega⟩ (by simp only; omega)
      · have : i = 2 := by omega
        subst this
        have c1 : decide (((2 : Nat) : Int) < 2) = false := by decide
        simp only [c1, cond_false]
        exact hfin _
    · simp [h1, h2]
  · simp [h1]

/-- ResampleTakes -/
theorem law4 {k : Nat} (hk : Big k) (hs : f19 k () = some true) (raw : RsT) (b : BkT) (seeds : List Int) (hseeds : ∀ x ∈ seeds, 0 ≤ x ∧ x ≤ 255) (n : Int) : f4 k (raw, b, seeds, n) = some true := by
  unfold f4
  rw [hs]
  simp only [Option.bind_some, Bool.not_true, cond_false, s20, s21]
  by_cases h1 : (raw.2.2.2.2.2.2.length : Int) ≤ 100
  · by_cases h2 : (b.2.length : Int) ≤ 100
    · simp only [h1, h2, decide_true, Bool.not_true, cond_false]
      obtain ⟨l, e1, hl⟩ := s22 k hseeds
      obtain ⟨c, n', d, a, p, f, rest, l', e2, _, hm, _⟩ := s23 hk hl
      have hrest := rs_len ((rsOK_iff _ _ _ _ _ _ _).2 hm.ok)
      simp only [e1, e2, Option.bind_some]
      have hall : ∀ r ∈ [raw, (c, n', d, a, p, f, rest)], r.2.2.2.2.2.2.length ≤ 1000000 := by
        intro r hr
        simp only [List.mem_cons, List.not_mem_nil, or_false] at hr
        rcases hr with rfl | rfl
        · omega
        · simp only; omega
      have hlen : [raw, (c, n', d, a, p, f, rest)].length = 2 := rfl
      generalize [raw, (c, n', d, a, p, f, rest)] = rs at hall hlen
      have hloop : loopC k (L4_7 k (fun z31 => some z31) (fun z32 => some true)) (n, (rs.length : Int), 0, b, rs) = some true := by
        rw [hlen]
        refine loopC_spec (L4_7 k _ _) (fun y => ∃ i : Nat, y = (n, 2, (i : Int), b, rs) ∧ i ≤ 2) (fun _ => some true) (fun y => (2 - y.2.2.1).toNat) ?_ k _ ⟨0, rfl, by omega⟩ (hk.lt (by simp))
        rintro y next ⟨i, rfl, hi⟩ hnext
        simp only at hnext
        unfold L4_7
        simp only
        by_cases hlt : i < 2
        · have c1 : decide ((i : Int) < 2) = true := by simp; omega
          have c2 : decide ((i : Int) < (rs.length : Int)) = true := by simp; omega
          have c3 : decide ((0 : Int) ≤ (i : Int)) = true := by simp
          have hw : IntKind.wrap .i64 ((i : Int) + 1) = ((i + 1 : Nat) : Int) := by rw [w64 (by omega) (by omega)]; omega
          simp only [c1, c2, c3, Bool.and_self, cond_true, Int.toNat_natCast, hw]
          have hmem := hall _ (getD_mem' (e := ((0 : Int), (0 : Int), (0 : Int), (0 : Int), (0 : Int), (0 : Int), [])) (show i < rs.length by omega))
          obtain ⟨r, hgr⟩ : ∃ r : RsT, rs.getD i ((0 : Int), (0 : Int), (0 : Int), (0 : Int), (0 : Int), (0 : Int), []) = r := ⟨_, rfl⟩
          obtain ⟨c', n', d', a', p', f', rest'⟩ := r
          rw [hgr] at hmem
          simp only at hmem
          simp only [hgr]
          cases decide (d' > IntKind.wrap .i64 (200 * n')) with
          | true =>
            simp only [cond_true]
            exact hnext _ ⟨i + 1, rfl, by omega⟩ (by simp only; omega)
          | false =>
            simp only [cond_false]
            have hnl : [n, (Int.tmod (IntKind.wrap .i64 ((Int.tmod n (40 : Int)) + (40 : Int))) (40 : Int))].length = 2 := rfl
            generalize [n, (Int.tmod (IntKind.wrap .i64 ((Int.tmod n (40 : Int)) + (40 : Int))) (40 : Int))] = ns at hnl
            rw [hnl]
            refine loopC_spec (L4_11 k _ _) (fun y => ∃ j : Nat, y = (n, 2, (i : Int), 2, (j : Int), b, (c', n', d', a', p', f', rest'), rs, ns) ∧ j ≤ 2) (fun _ => some true) (fun y => (2 - y.2.2.2.2.1).toNat) ?_ k _ ⟨0, rfl, by omega⟩ (hk.lt (by simp))
            rintro y next' ⟨j, rfl, hj⟩ hnext'
            simp only at hnext'
            unfold L4_11
            simp only
            by_cases hjl : j < 2
            · have c4 : decide ((j : Int) < 2) = true := by simp; omega
              have c5 : decide ((j : Int) < (ns.length : Int)) = true := by simp; omega
              have c6 : decide ((0 : Int) ≤ (j : Int)) = true := by simp
              have hw' : IntKind.wrap .i64 ((j : Int) + 1) = ((j + 1 : Nat) : Int) := by rw [w64 (by omega) (by omega)]; omega
              have hstep := hnext' _ ⟨j + 1, rfl, by omega⟩ (by simp only; omega)
              simp only [c4, c5, c6, Bool.and_self, cond_true, Int.toNat_natCast, hw']
              obtain ⟨m, hgm⟩ : ∃ m, ns.getD j (0 : Int) = m := ⟨_, rfl⟩
              simp only [hgm]
              have t1 := takeS_len c' n' d' a' p' f' rest' m
              have t2 := finS_len c' n' d' a' p' f' rest' m
              have g1 := s34 hk c' n' d' a' p' f' rest' (by omega) m
              have g2 := s35 hk c' n' d' a' p' f' rest' (by omega) m
              have g3 := s36 hk c' n' d' a' p' f' rest' (by omega) m
              have g4 := s37 hk c' n' d' a' p' f' rest' (by omega) m
              have g5 := same27 hk _ (Nat.le_trans t1.2 (by omega))
              have g6 := same27 hk _ (Nat.le_trans t2.2 (by omega))
              have g7 := same38 hk _ (Nat.le_trans t1.1 (by omega))
              have g8 := same38 hk _ (Nat.le_trans t2.1 (by omega))
              simp only [g1, g2, g3, g4, Option.bind_some, bne_self_eq_false, cond_false, g5, g6, g7, g8, Bool.not_true, hstep]
              cases decide (m > 300) <;> cases decide (m ≤ 65536) <;> rfl
            · have : j = 2 := by omega
              subst this
              have c4 : decide (((2 : Nat) : Int) < 2) = false := by decide
              simp only [c4, cond_false]
              have w9 : Int.tmod c' 9 ≤ 100 := by have := Int.tmod_lt_of_pos c' (show (0 : Int) < 9 by omega); omega
              rw [s24 hk _ _ _ w9 (by omega) (by omega), Option.bind_some]
              have hbs : ∀ x ∈ [b, (Int.tmod c' 9, waveL 2 (Int.tmod c' 9).toNat (Int.toNat 7))], x.2.length ≤ 1000000 := by
                intro x hx
                simp only [List.mem_cons, List.not_mem_nil, or_false] at hx
                rcases hx with rfl | rfl
                · omega
                · simp only [waveL_len]
                  have : Int.toNat 7 * (Int.tmod c' 9).toNat ≤ 7 * 100 := Nat.mul_le_mul (by omega) (by omega)
                  omega
              have hbl : [b, (Int.tmod c' 9, waveL 2 (Int.tmod c' 9).toNat (Int.toNat 7))].length = 2 := rfl
              generalize [b, (Int.tmod c' 9, waveL 2 (Int.tmod c' 9).toNat (Int.toNat 7))] = bs at hbs hbl
              rw [hbl]
              refine loopC_spec (L4_22 k _ _) (fun y => ∃ j : Nat, y = (n, 2, (i : Int), 2, (j : Int), b, (c', n', d', a', p', f', rest'), rs, bs) ∧ j ≤ 2) (fun _ => some true) (fun y => (2 - y.2.2.2.2.1).toNat) ?_ k _ ⟨0, rfl, by omega⟩ (hk.lt (by simp))
              rintro y next'' ⟨j, rfl, hj⟩ hnext''
              simp only at hnext''
              unfold L4_22
              simp only
              by_cases hjl : j < 2
              · have c4 : decide ((j : Int) < 2) = true := by simp; omega
                have c5 : decide ((j : Int) < (bs.length : Int)) = true := by simp; omega
                have c6 : decide ((0 : Int) ≤ (j : Int)) = true := by simp
                have hw' : IntKind.wrap .i64 ((j : Int) + 1) = ((j + 1 : Nat) : Int) := by rw [w64 (by omega) (by omega)]; omega
                have hmb := hbs _ (getD_mem' (e := ((0 : Int), [])) (show j < bs.length by omega))
                simp only [c4, c5, c6, Bool.and_self, cond_true, Int.toNat_natCast, hw']
                generalize bs.getD j ((0 : Int), []) = bb at hmb
                obtain ⟨bc, bd⟩ := bb
                simp only at hmb
                have t1 := convS_len c' n' d' a' p' f' rest' bc bd
                have g1 := s39 hk c' n' d' a' p' f' rest' bc bd (by omega) (by omega)
                have g2 := s40 hk c' n' d' a' p' f' rest' bc bd (by omega) (by omega)
                have g5 := same27 hk _ (Nat.le_trans t1.2 (by omega))
                have g7 := same38 hk _ (Nat.le_trans t1.1 (by omega))
                simp only [g1, g2, Option.bind_some, bne_self_eq_false, cond_false, g5, g7, Bool.not_true]
                exact hnext'' _ ⟨j + 1, rfl, by omega⟩ (by simp only; omega)
              · have : j = 2 := by omega
                subst this
                have c4 : decide (((2 : Nat) : Int) < 2) = false := by decide
                simp only [c4, cond_false, hw]
                exact hnext _ ⟨i + 1, rfl, by omega⟩ (by simp only; omega)
        · have : i = 2 := by omega
          subst this
          have c1 : decide (((2 : Nat) : Int) < 2) = false := by decide
          simp only [c1, cond_false]
      simp only [hloop]
      cases decide (raw.2.2.1 > IntKind.wrap .i64 (200 * raw.2.1)) <;> cases decide (raw.2.1 > 0) <;> rfl
    · simp [h1, h2]
  · simp [h1]

noncomputable def fuel : Nat := 1099511627776
theorem big_fuel : Big fuel := Nat.le_refl _
theorem sane15 : f19 fuel () = some true := by kernel_rfl
theorem plain3 (x : argsI [.val true (.pair (.int .i64) (.pair (.int .i64) (.pair (.int .i64) (.pair (.int .i64) (.pair (.int .i64) (.pair (.int .i64) (.sl (.int .i32)))))))), .val true (.pair (.int .i64) (.sl (.int .i32))), .val false (.sl (.int .u8)), .val false (.int .i64), .val true (.pair (.int .i64) (.int .i64))]) (h : WFAs _ x) : f3 fuel x = some true := by
  obtain ⟨raw, b, seeds, ch, num, den⟩ := x
  exact law3 big_fuel sane15 raw b seeds (D8_of h.2.2.1) ch num den
theorem plain4 (x : argsI [.val true (.pair (.int .i64) (.pair (.int .i64) (.pair (.int .i64) (.pair (.int .i64) (.pair (.int .i64) (.pair (.int .i64) (.sl (.int .i32)))))))), .val true (.pair (.int .i64) (.sl (.int .i32))), .val false (.sl (.int .u8)), .val false (.int .i64)]) (h : WFAs _ x) : f4 fuel x = some true := by
  obtain ⟨raw, b, seeds, n⟩ := x
  exact law4 big_fuel sane15 raw b seeds (D8_of h.2.2.1) n
end Go.Proofs.Ytbfkfobfhjgphaa.Sp
