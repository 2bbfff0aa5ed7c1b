/- The laws BridgeMoves and BridgeCounts, in plain words. -/
import Derived.Test.YtbfkfobfhjgphaaSpK
import Derived.Test.YtbfkfobfhjgphaaLwA
set_option linter.unusedVariables false
set_option linter.unusedSimpArgs false
namespace Go.Proofs.Ytbfkfobfhjgphaa.Sp
open Go Go.Pev Go.Snd Go.Proofs.Ytbfkfobfhjgphaa.Fn

theorem pushS_len (cap tgt dead gain most ch num den adj pos frac : Int) (rest : List Int) (lost missed : Int) (xc : Int) (xd : List Int) : (pushS cap tgt dead gain most ch num den adj pos frac rest lost missed xc xd).1.2.2.2.2.2.2.2.2.2.2.2.1.length ≤ rest.length + xd.length := by
  unfold pushS
  split
  · split
    · simp only [List.length_append, List.length_take]; omega
    · simp [zeroBr]
  · simp [zeroBr]
theorem pullS_len (cap tgt dead gain most ch num den adj pos frac : Int) (rest : List Int) (lost missed : Int) (n : Int) : (pullS cap tgt dead gain most ch num den adj pos frac rest lost missed n).2.2.1.2.2.2.2.2.2.2.2.2.2.2.1.length ≤ rest.length ∧ (pullS cap tgt dead gain most ch num den adj pos frac rest lost missed n).1.2.length ≤ 2000000 := by
  have t := takeS_len ch num den (adjS tgt dead gain most (frames ch rest)) pos frac rest (pullK tgt dead gain most ch num den pos frac rest n)
  unfold pullS
  split
  · rename_i hb
    have h := (brOK_iff _ _ _ _ _ _ _ _ _ _ _ _ _ _).1 hb
    split
    · simp [zeroBr, zeroB]
    · split
      · simp [zeroBr, zeroB]
      · split
        · rename_i h1 h2 _
          refine ⟨t.2, ?_⟩
          simp only [List.length_append, List.length_replicate]
          have hK0 := pullK_nonneg tgt dead gain most ch num den pos frac rest (show 0 ≤ n by omega)
          have hK1 := pullK_le tgt dead gain most ch num den pos frac rest n
          have c1 := h.r.b.c1
          have c2 := h.r.b.c2
          obtain ⟨b1, b2⟩ := mul_bd (show 0 ≤ n - pullK tgt dead gain most ch num den pos frac rest n by omega) (show n - pullK tgt dead gain most ch num den pos frac rest n ≤ 65536 by omega) (show 0 ≤ ch by omega) c2
          have t1 := t.1
          have : (pullT tgt dead gain most ch num den pos frac rest n).1.2.length ≤ 1000000 := t1
          omega
        · simp [zeroBr, zeroB]
  · simp [zeroBr, zeroB]

/-- BridgeMoves -/
theorem law10 {k : Nat} (hk : Big k) (hs : f49 k () = some true) (raw : BrT) (b : BkT) (seeds : List Int) (hseeds : ∀ x ∈ seeds, 0 ≤ x ∧ x ≤ 255) (n cap fill : Int) (ra : Int × Int) (ct : Int × Int × Int × Int) : f10 k (raw, b, seeds, n, cap, fill, ra, ct) = some true := by
  unfold f10
  rw [hs]
  simp only [Option.bind_some, Bool.not_true, cond_false, s20, s21]
  by_cases h1 : (raw.2.2.2.2.2.2.2.2.2.2.2.1.length : Int) ≤ 300
  · by_cases h2 : (b.2.length : Int) ≤ 300
    · simp only [h1, h2, decide_true, Bool.not_true, cond_false]
      obtain ⟨l, e1, hl⟩ := s22 k hseeds
      obtain ⟨Cap, tgt, dead, gain, most, ch, num, den, adj, pos, frac, rest, lost, missed, l', e2, hl', hm⟩ := s50 hk hl
      have hrest := hm.ok.r.b.len_le
      simp only [e1, e2, Option.bind_some]
      have hall : ∀ r ∈ [raw, (Cap, tgt, dead, gain, most, ch, num, den, adj, pos, frac, rest, lost, missed)], r.2.2.2.2.2.2.2.2.2.2.2.1.length ≤ 1000000 := by
        intro r hr
        simp only [List.mem_cons, List.not_mem_nil, or_false] at hr
        rcases hr with rfl | rfl
        · omega
        · simp only; omega
      have hlen : [raw, (Cap, tgt, dead, gain, most, ch, num, den, adj, pos, frac, rest, lost, missed)].length = 2 := rfl
      generalize [raw, (Cap, tgt, dead, gain, most, ch, num, den, adj, pos, frac, rest, lost, missed)] = rs at hall hlen
      have hloop : loopC k (L10_7 k (fun z44 => some z44) (fun z45 =>
            Option.bind (f61 k ((2 : Int), z45.2.2.1, z45.2.2.2, z45.1, z45.2.1)) fun r46 =>
            Option.bind (f62 k ((2 : Int), z45.2.2.1, z45.2.2.2, z45.1, z45.2.1)) fun r47 =>
            bif (r46.2 == r47.2) then
              Option.bind (f54 k (r46.1, r47.1)) fun r48 =>
              some r48
            else
              some false)) (n, cap, fill, (rs.length : Int), 0, b, ra, ct, l', rs) = some true := by
        rw [hlen]
        refine loopC_spec (L10_7 k _ _) (fun y => ∃ (i : Nat) (l : List Int), y = (n, cap, fill, 2, (i : Int), b, ra, ct, l, rs) ∧ i ≤ 2 ∧ D8 l) (fun _ => some true) (fun y => (2 - y.2.2.2.2.1).toNat) ?_ k _ ⟨0, l', rfl, by omega, hl'⟩ (hk.lt (by simp))
        clear hl' e2 hl e1 l l' hm
        rintro y next ⟨i, l, rfl, hi, hl⟩ hnext
        simp only at hnext
        unfold L10_7
        simp only
        by_cases hlt : i < 2
        · have c1 : decide ((i : Int) < 2) = true := by simp; omega
          have c2 : decide ((i : Int) < (rs.length : Int)) = true := by simp; omega
          have c3 : decide ((0 : Int) ≤ (i : Int)) = true := by simp
          have hw : IntKind.wrap .i64 ((i : Int) + 1) = ((i + 1 : Nat) : Int) := by rw [w64 (by omega) (by omega)]; omega
          obtain ⟨r6, l6, e6, h6, a6, b6, _⟩ := s51 k hl 30
          have b6 := b6 (by omega)
          simp only [c1, c2, c3, Bool.and_self, cond_true, Int.toNat_natCast, e6, Option.bind_some, s24 hk 1 1 r6 (by omega) a6 (by omega)]
          have hmem := hall _ (getD_mem' (e := ((0 : Int), (0 : Int), (0 : Int), (0 : Int), (0 : Int), (0 : Int), (0 : Int), (0 : Int), (0 : Int), (0 : Int), (0 : Int), [], (0 : Int), (0 : Int))) (show i < rs.length by omega))
          obtain ⟨r, hgr⟩ : ∃ r : BrT, rs.getD i ((0 : Int), (0 : Int), (0 : Int), (0 : Int), (0 : Int), (0 : Int), (0 : Int), (0 : Int), (0 : Int), (0 : Int), (0 : Int), [], (0 : Int), (0 : Int)) = r := ⟨_, rfl⟩
          obtain ⟨Cap, tgt, dead, gain, most, ch, num, den, adj, pos, frac, rest, lost, missed⟩ := r
          rw [hgr] at hmem
          simp only at hmem
          simp only [hgr]
          have hbs : ∀ x ∈ [b, (1, waveL 1 (Int.toNat 1) r6.toNat)], x.2.length ≤ 1000000 := by
            intro x hx
            simp only [List.mem_cons, List.not_mem_nil, or_false] at hx
            rcases hx with rfl | rfl
            · omega
            · simp only [waveL_len, Int.toNat_one, Nat.mul_one]; omega
          have hbl : [b, (1, waveL 1 (Int.toNat 1) r6.toNat)].length = 2 := rfl
          generalize [b, (1, waveL 1 (Int.toNat 1) r6.toNat)] = bs at hbs hbl
          rw [hbl]
          refine loopC_spec (L10_10 k _ _) (fun y => ∃ j : Nat, y = (n, cap, fill, 2, (i : Int), 2, (j : Int), b, ra, ct, (Cap, tgt, dead, gain, most, ch, num, den, adj, pos, frac, rest, lost, missed), l6, rs, bs) ∧ j ≤ 2) (fun _ => some true) (fun y => (2 - y.2.2.2.2.2.2.1).toNat) ?_ k _ ⟨0, rfl, by omega⟩ (hk.lt (by simp))
          rintro y next' ⟨j, rfl, hj⟩ hnext'
          simp only at hnext'
          unfold L10_10
          simp only
          by_cases hjl : j < 2
          · have c4 : decide ((j : Int) < 2) = true := by simp; omega
            have c5 : decide ((j : Int) < (bs.length : Int)) = true := by simp; omega
            have c6 : decide ((0 : Int) ≤ (j : Int)) = true := by simp
            have hw' : IntKind.wrap .i64 ((j : Int) + 1) = ((j + 1 : Nat) : Int) := by rw [w64 (by omega) (by omega)]; omega
            have hmb := hbs _ (getD_mem' (e := ((0 : Int), [])) (show j < bs.length by omega))
            simp only [c4, c5, c6, Bool.and_self, cond_true, Int.toNat_natCast]
            obtain ⟨bb, hbb⟩ : ∃ bb : BkT, bs.getD j ((0 : Int), []) = bb := ⟨_, rfl⟩
            obtain ⟨bc, bd⟩ := bb
            rw [hbb] at hmb
            simp only at hmb
            simp only [hbb]
            have t := pushS_len Cap tgt dead gain most ch num den adj pos frac rest lost missed bc bd
            have g1 := s52 hk Cap tgt dead gain most ch num den adj pos frac rest lost missed bc bd (by omega) (by omega)
            have g2 := s53 hk Cap tgt dead gain most ch num den adj pos frac rest lost missed bc bd (by omega) (by omega)
            have g3 := same54 hk _ (Nat.le_trans t (by omega))
            simp only [g1, g2, g3, Option.bind_some, bne_self_eq_false, cond_false, Bool.not_true, hw']
            exact hnext' _ ⟨j + 1, rfl, by omega⟩ (by simp only; omega)
          · have : j = 2 := by omega
            subst this
            have c4 : decide (((2 : Nat) : Int) < 2) = false := by decide
            simp only [c4, cond_false]
            have hnl : [n, (Int.tmod (IntKind.wrap .i64 ((Int.tmod n (30 : Int)) + (30 : Int))) (30 : Int))].length = 2 := rfl
            generalize [n, (Int.tmod (IntKind.wrap .i64 ((Int.tmod n (30 : Int)) + (30 : Int))) (30 : Int))] = ns at hnl
            rw [hnl]
            refine loopC_spec (L10_18 k _ _) (fun y => ∃ j : Nat, y = (n, cap, fill, 2, (i : Int), 2, (j : Int), b, ra, ct, (Cap, tgt, dead, gain, most, ch, num, den, adj, pos, frac, rest, lost, missed), l6, rs, ns) ∧ j ≤ 2) (fun _ => some true) (fun y => (2 - y.2.2.2.2.2.2.1).toNat) ?_ k _ ⟨0, rfl, by omega⟩ (hk.lt (by simp))
            rintro y next'' ⟨j, rfl, hj⟩ hnext''
            simp only at hnext''
            unfold L10_18
            simp only
            by_cases hjl : j < 2
            · have c4 : decide ((j : Int) < 2) = true := by simp; omega
              have c5 : decide ((j : Int) < (ns.length : Int)) = true := by simp; omega
              have c6 : decide ((0 : Int) ≤ (j : Int)) = true := by simp
              have hw' : IntKind.wrap .i64 ((j : Int) + 1) = ((j + 1 : Nat) : Int) := by rw [w64 (by omega) (by omega)]; omega
              simp only [c4, c5, c6, Bool.and_self, cond_true, Int.toNat_natCast]
              obtain ⟨m, hgm⟩ : ∃ m, ns.getD j (0 : Int) = m := ⟨_, rfl⟩
              simp only [hgm]
              have t := pullS_len Cap tgt dead gain most ch num den adj pos frac rest lost missed m
              have g1 := s55 hk Cap tgt dead gain most ch num den adj pos frac rest lost missed m (by omega)
              have g2 := s56 hk Cap tgt dead gain most ch num den adj pos frac rest lost missed m (by omega)
              have g3 := same54 hk _ (Nat.le_trans t.1 (by omega))
              have g4 := same38 hk _ (Nat.le_trans t.2 (by omega))
              simp only [g1, g2, g3, g4, Option.bind_some, bne_self_eq_false, cond_false, Bool.not_true, hw']
              exact hnext'' _ ⟨j + 1, rfl, by omega⟩ (by simp only; omega)
            · have : j = 2 := by omega
              subst this
              simp only [c4, cond_false]
              have g1 := s57 hk Cap tgt dead gain most ch num den adj pos frac rest lost missed (by omega)
              have g2 := s58 hk Cap tgt dead gain most ch num den adj pos frac rest lost missed (by omega)
              have g3 := s59 hk Cap tgt dead gain most ch num den adj pos frac rest lost missed (by omega)
              have g4 := s60 hk Cap tgt dead gain most ch num den adj pos frac rest lost missed (by omega)
              simp only [g1, g2, g3, g4, Option.bind_some, bne_self_eq_false, cond_false, hw]
              exact hnext _ ⟨i + 1, l6, rfl, by omega, h6⟩ (by simp only; omega)
        · have : i = 2 := by omega
          subst this
          have c1 : decide (((2 : Nat) : Int) < 2) = false := by decide
          simp only [c1, cond_false]
          obtain ⟨num, den⟩ := ra
          obtain ⟨tgt, dead, gain, most⟩ := ct
          have hl : (newBr 2 num den tgt dead gain most cap fill).1.2.2.2.2.2.2.2.2.2.2.2.1.length ≤ 1000000000 := by
            unfold newBr
            split
            · simp [zeroBr]
            · split
              · simp only [List.length_replicate]; omega
              · simp [zeroBr]
          simp only [s61 hk, s62 hk, Option.bind_some, beq_self_eq_true, cond_true, same54 hk _ hl]
      simp only [hloop]
      cases decide (n > 500) <;> cases decide (n ≤ 65536) <;> cases decide (fill > 1000) <;> cases decide (fill ≤ 65536) <;> rfl
    · simp [h1, h2]
  · simp [h1]
theorem plain10 (x : argsI [.val true (.pair (.int .i64) (.pair (.int .i64) (.pair (.int .i64) (.pair (.int .i64) (.pair (.int .i64) (.pair (.int .i64) (.pair (.int .i64) (.pair (.int .i64) (.pair (.int .i64) (.pair (.int .i64) (.pair (.int .i64) (.pair (.sl (.int .i32)) (.pair (.int .i64) (.int .i64)))))))))))))), .val true (.pair (.int .i64) (.sl (.int .i32))), .val false (.sl (.int .u8)), .val false (.int .i64), .val false (.int .i64), .val false (.int .i64), .val true (.pair (.int .i64) (.int .i64)), .val true (.pair (.int .i64) (.pair (.int .i64) (.pair (.int .i64) (.int .i64))))]) (h : WFAs _ x) : f10 fuel x = some true := by
  obtain ⟨raw, b, seeds, n, cap, fill, ra, ct⟩ := x
  exact law10 big_fuel sane19 raw b seeds (D8_of h.2.2.1) n cap fill ra ct

/-- the half of a byte -/
theorem half_u8 {x : Int} (h : 0 ≤ x ∧ x ≤ 255) : ∃ t, Int.tmod (IntKind.wrap .i64 (Int.fdiv x (2 ^ (min (Int.toNat (1 : Int)) (IntKind.bits .u8))))) (24 : Int) = t ∧ 0 ≤ t ∧ t < 24 := by
  refine ⟨_, rfl, ?_⟩
  have e : (2 : Int) ^ (min (Int.toNat (1 : Int)) (IntKind.bits .u8)) = 2 := by decide
  rw [e, Int.fdiv_eq_ediv_of_nonneg _ (by omega), w64 (by omega) (by omega), tmod_pos (by omega)]
  omega
/-- BridgeCounts -/
theorem law11 {k : Nat} (hk : Big k) (hs : f49 k () = some true) (seeds ops : List Int) (hseeds : ∀ x ∈ seeds, 0 ≤ x ∧ x ≤ 255) (hops : ∀ x ∈ ops, 0 ≤ x ∧ x ≤ 255) : f11 k (seeds, ops) = some true := by
  unfold f11
  rw [hs]
  simp only [Option.bind_some, Bool.not_true, cond_false, gt_iff_lt]
  by_cases h1 : (20 : Int) < (ops.length : Int)
  · simp [h1]
  simp only [h1, decide_false, cond_false]
  obtain ⟨l, e1, hl⟩ := s22 k hseeds
  obtain ⟨cap, tgt, dead, gain, most, ch, num, den, adj, pos, frac, rest, lost, missed, l', e2, hl', hm⟩ := s50 hk hl
  have hrest := hm.ok.r.b.len_le
  have hw0 := hm.ok.w
  have q0 := frames_nonneg (d := rest) hm.ok.r.b.c1
  have p0 := hm.ok.r.p.p0
  have lo0 := hm.ok.l0
  have mi0 := hm.ok.m0
  have sm := hm.small
  have lo1 := hm.lost1
  have mi1 := hm.missed1
  have cp := hm.cap1
  have hfill : fillS cap tgt dead gain most ch num den adj pos frac rest lost missed = frames ch rest := by unfold fillS; rw [if_pos ((brOK_iff _ _ _ _ _ _ _ _ _ _ _ _ _ _).2 hm.ok)]
  simp only [e1, e2, Option.bind_some, s59 hk _ _ _ _ _ _ _ _ _ _ _ _ _ _ (show rest.length ≤ 1000000000000 by omega), hfill]
  obtain ⟨F0, hF0⟩ : ∃ F0, frames ch rest = F0 := ⟨_, rfl⟩
  simp only [hF0]
  rw [hF0] at sm q0 hw0
  refine loopC_spec (L11_9 k _ _) (fun y => ∃ (i : Nat) (P A B : Int) (adj' pos' frac' : Int) (rest' : List Int), y = (seeds, F0, pos, P, A, B, ops, (ops.length : Int), (i : Int), (cap, tgt, dead, gain, most, ch, num, den, adj', pos', frac', rest', lost + A, missed + B)) ∧ i ≤ ops.length ∧ BrOK cap tgt dead gain most ch num den adj' pos' frac' rest' (lost + A) (missed + B) ∧ 0 ≤ P ∧ P ≤ 24 * i ∧ 0 ≤ A ∧ A ≤ 24 * i ∧ 0 ≤ B ∧ B ≤ 24 * i ∧ F0 + P - A - frames ch rest' = pos' - pos ∧ pos' ≤ 1000 + 24 * i) (fun _ => some true) (fun y => (ops.length - y.2.2.2.2.2.2.2.2.1).toNat) ?_ k _ ⟨0, 0, 0, 0, adj, pos, frac, rest, by simp only [Int.add_zero]; rfl, by omega, by simpa using hm.ok, by omega, by omega, by omega, by omega, by omega, by omega, by omega⟩ (hk.lt (by simp only; omega))
  rintro y next ⟨i, P, A, B, adj', pos', frac', rest', rfl, hi, hb, P0, P1, A0, A1, B0, B1, hsum, hpos⟩ hnext
  simp only at hnext
  unfold L11_9
  simp only
  have hlen := hb.r.b.len_le
  have w0 := frames_nonneg (d := rest') hb.r.b.c1
  have w1 := hb.w
  have c1 := hb.r.b.c1
  have c2 := hb.r.b.c2
  by_cases hlt : i < ops.length
  · have d1 : decide ((i : Int) < (ops.length : Int)) = true := by simp; omega
    have d2 : decide ((0 : Int) ≤ (i : Int)) = true := by simp
    have hw : IntKind.wrap .i64 ((i : Int) + 1) = ((i + 1 : Nat) : Int) := by rw [w64 (by omega) (by omega)]; omega
    obtain ⟨t, ht, t0, t1⟩ := half_u8 (hops _ (getD_mem hlt))
    simp only [d1, d2, Bool.and_self, cond_true, Int.toNat_natCast, ht, hw]
    cases (Int.tmod (ops.getD i 0) 2 == 0) with
    | true =>
      simp only [cond_true]
      obtain ⟨x1, x2⟩ := wave_ok (i : Int) c1 c2 t0 (show t ≤ 65536 by omega)
      have xl := x1.len_le
      obtain ⟨n, n1, n2, n3, n4⟩ := pushS_ok hb x1 (by omega)
      rw [x2] at n1 n2 n3
      rw [s24 hk (i : Int) ch t (by omega) t0 (by omega), Option.bind_some, s52 hk _ _ _ _ _ _ _ _ _ _ _ _ _ _ _ _ (by omega) (by omega), n2, Option.bind_some]
      have f1 : decide (t - (n : Int) < 0) = false := by simp only [decide_eq_false_iff_not]; omega
      have f2 : decide (t - (n : Int) > t) = false := by simp only [decide_eq_false_iff_not]; omega
      simp only [bne_self_eq_false, cond_false, f1, f2]
      rw [w64 (x := P + t) (by omega) (by omega), w64 (x := A + (t - (n : Int))) (by omega) (by omega)]
      rw [show lost + A + (t - (n : Int)) = lost + (A + (t - n)) by omega] at n3 ⊢
      exact hnext _ ⟨i + 1, P + t, A + (t - n), B, _, _, _, _, rfl, by omega, n3, by omega, by omega, by omega, by omega, by omega, by omega, by rw [n4]; omega, by omega⟩ (by simp only; omega)
    | false =>
      simp only [cond_false]
      obtain ⟨v1, v2, v3, v4, v5, v6, v7, v8, v9⟩ := pullS_ok hb (by omega) (by omega) t0 (show t ≤ 65536 by omega) rfl rfl
      have hbk := pullS_bk v9 v6 v7 (show t ≤ 65536 by omega)
      rw [s55 hk _ _ _ _ _ _ _ _ _ _ _ _ _ _ _ (by omega), v1, Option.bind_some]
      generalize pullK tgt dead gain most ch num den pos' frac' rest' t = K at *
      generalize adjS tgt dead gain most (frames ch rest') = a at *
      have f1 : decide (t - K < 0) = false := by simp only [decide_eq_false_iff_not]; omega
      have f2 : decide (t - K > t) = false := by simp only [decide_eq_false_iff_not]; omega
      simp only [bne_self_eq_false, cond_false, f1, f2]
      rw [s47' hk hbk.1, Option.bind_some, hbk.2]
      simp only [bne_self_eq_false, cond_false]
      rw [w64 (x := B + (t - K)) (by omega) (by omega)]
      rw [show missed + B + (t - K) = missed + (B + (t - K)) by omega] at v2 ⊢
      exact hnext _ ⟨i + 1, P, A, B + (t - K), _, _, _, _, rfl, by omega, v2, by omega, by omega, by omega, by omega, by omega, by omega, by rw [v3]; omega, by omega⟩ (by simp only; omega)
  · have : i = ops.length := by omega
    subst this
    have d1 : decide ((ops.length : Int) < (ops.length : Int)) = false := by simp
    have hfill' : fillS cap tgt dead gain most ch num den adj' pos' frac' rest' (lost + A) (missed + B) = frames ch rest' := by unfold fillS; rw [if_pos ((brOK_iff _ _ _ _ _ _ _ _ _ _ _ _ _ _).2 hb)]
    simp only [d1, cond_false, e1, e2, Option.bind_some, s59 hk _ _ _ _ _ _ _ _ _ _ _ _ _ _ (show rest'.length ≤ 1000000000000 by omega), hfill']
    have p1 := hb.r.p.p0
    rw [w64 (x := lost + A - lost) (by omega) (by omega), w64 (x := missed + B - missed) (by omega) (by omega), w64 (x := F0 + P) (by omega) (by omega), w64 (x := F0 + P - A) (by omega) (by omega), w64 (x := F0 + P - A - frames ch rest') (by omega) (by omega), w64 (x := pos' - pos) (by omega) (by omega)]
    have g1 : (lost + A - lost == A) = true := by simp; omega
    have g2 : (missed + B - missed == B) = true := by simp; omega
    have g3 : (F0 + P - A - frames ch rest' == pos' - pos) = true := by simp only [beq_iff_eq]; exact hsum
    simp only [g1, g2, g3, cond_true]
theorem plain11 (x : argsI [.val false (.sl (.int .u8)), .val false (.sl (.int .u8))]) (h : WFAs _ x) : f11 fuel x = some true := by
  obtain ⟨seeds, ops⟩ := x
  exact law11 big_fuel sane19 seeds ops (D8_of h.1) (D8_of h.2)
end Go.Proofs.Ytbfkfobfhjgphaa.Sp
