import Derived.Test.YtbfkfobfhjgphaaGreatSpAlm
/- Lists of streams that can be counted. -/
set_option linter.unusedVariables false
set_option linter.unusedSimpArgs false
namespace Go.Proofs.YtbfkfobfhjgphaaGreat.Sp
open Go Go.Pev Go.Snd Go.Proofs.YtbfkfobfhjgphaaGreat.Fn

abbrev zeroT : StT := (0, 0, 0, 0, 0, 0, 0, 0, 0, 0, [], 0, 0, 0, 0, [], 0, 0, 0)
/-- a list of streams that can be counted -/
def Streams (l : List StT) : Prop := ∀ r ∈ l, ∃ s : St, r = s.t ∧ s.r.2.2.2.2.2.2.length ≤ 1000000 ∧ s.g.2.2.2.2.length ≤ 1000000
theorem Streams.get {l : List StT} (h : Streams l) {i : Nat} (hi : i < l.length) : ∃ s : St, l.getD i zeroT = s.t ∧ s.r.2.2.2.2.2.2.length ≤ 1000000 ∧ s.g.2.2.2.2.length ≤ 1000000 := h _ (getD_mem' hi)
theorem z44 (k : Nat) (x : StT) (n : Int) : f44 k (x, n) = some (decide (((mkSt x).r.2.2.2.2.2.2.length : Int) ≤ n) && decide (((mkSt x).g.2.2.2.2.length : Int) ≤ n)) := by
  unfold f44
  show (bif decide (((mkSt x).r.2.2.2.2.2.2.length : Int) ≤ n) then some (decide (((mkSt x).g.2.2.2.2.length : Int) ≤ n)) else some false) = _
  cases decide (((mkSt x).r.2.2.2.2.2.2.length : Int) ≤ n) <;> rfl
theorem made_len {s : St} (h : StOK s) : s.r.2.2.2.2.2.2.length ≤ 1000000 ∧ s.g.2.2.2.2.length ≤ 1000000 := by
  have h1 := h.r.b.len_le
  refine ⟨by omega, ?_⟩
  rcases h.d with ⟨_, _, h2⟩ | ⟨_, h2, _, _⟩
  · rw [h2]; simp [zeroG]
  · have := h2.b.len_le; omega
theorem two_streams {raw : StT} (h1 : ((mkSt raw).r.2.2.2.2.2.2.length : Int) ≤ 300) (h2 : ((mkSt raw).g.2.2.2.2.length : Int) ≤ 300) {s : St} (hs : StOK s) : Streams [raw, s.t] := by
  intro r hr
  simp only [List.mem_cons, List.not_mem_nil, or_false] at hr
  rcases hr with rfl | rfl
  · exact ⟨mkSt r, (mkSt_t r).symm, by omega, by omega⟩
  · exact ⟨s, rfl, made_len hs⟩
end Go.Proofs.YtbfkfobfhjgphaaGreat.Sp

/- The law StreamMoves, in plain words: program and reference give the same. -/
set_option linter.unusedVariables false
set_option linter.unusedSimpArgs false
namespace Go.Proofs.YtbfkfobfhjgphaaGreat.Sp
open Go Go.Pev Go.Snd Go.Proofs.YtbfkfobfhjgphaaGreat.Fn

theorem z56 (k : Nat) (b : BkT) (n : Int) : f56 k (b, n) = some (decide ((b.2.length : Int) ≤ n)) := rfl
theorem z62 (k : Nat) (s : St) : ∃ r, f62 k s.t = some r := by
  unfold f62
  cases decide (s.t.2.2.2.2.2.2.1 ≤ IntKind.wrap .i64 (100 * s.t.2.2.2.2.2.1)) <;> exact ⟨_, rfl⟩
theorem padS_len {n : Int} {r : RsT} {d : List Int} (hc : r.1 ≤ 8) (c1 : 1 ≤ r.1) (hn : n ≤ 65536) (hd : d.length ≤ 1000000) : (padS r.1 n d).length ≤ 3000000 := by
  unfold padS
  rw [List.length_append, List.length_replicate]
  by_cases h0 : 0 ≤ n
  · obtain ⟨a1, a2⟩ := mul_bd h0 hn (show 0 ≤ r.1 by omega) hc
    omega
  · have : n * r.1 ≤ 0 := by
      have := Int.mul_le_mul_of_nonneg_right (show n ≤ 0 by omega) (show 0 ≤ r.1 by omega)
      omega
    omega
/-- what is taken can be counted -/
theorem takeSt_len (s : St) (n : Int) (h1 : s.r.2.2.2.2.2.2.length ≤ 1000000) (h2 : s.g.2.2.2.2.length ≤ 1000000) :
    (takeSt s n).1.2.length ≤ 3000000 ∧ (takeSt s n).2.2.1.r.2.2.2.2.2.2.length ≤ 1000000 ∧ (takeSt s n).2.2.1.g.2.2.2.2.length ≤ 1000000 := by
  unfold takeSt
  split
  · rename_i hp
    have hs : stOK s = true ∧ s.dir = 1 := by simpa using hp
    have h := (stOK_iff s).1 hs.1
    have c1 := h.r.b.c1
    have c2 := h.r.b.c2
    split
    · simp [zeroB, zeroSt, zeroR, zeroG]
    · rename_i hn
      split
      · simp only
        split
        · rename_i he
          have hch := (takeS_ch (ch := s.r.1) he).1
          have ht := takeS_len s.r.1 s.r.2.1 s.r.2.2.1 s.r.2.2.2.1 s.r.2.2.2.2.1 s.r.2.2.2.2.2.1 s.r.2.2.2.2.2.2 (min n ((rPh s.r).make (rFr s.r)))
          have hch' : (rTake s.r (min n ((rPh s.r).make (rFr s.r)))).1.1 = s.r.1 := hch
          refine ⟨?_, Nat.le_trans ht.2 h1, h2⟩
          show (padS (rTake s.r (min n ((rPh s.r).make (rFr s.r)))).1.1 n _).length ≤ _
          rw [hch']
          exact padS_len (r := s.r) c2 c1 (by omega) ht.1
        · simp [zeroB, zeroSt, zeroR, zeroG]
      · split
        · simp only
          split
          · rename_i he
            have hf := finS_len s.r.1 s.r.2.1 s.r.2.2.1 s.r.2.2.2.1 s.r.2.2.2.2.1 s.r.2.2.2.2.2.1 s.r.2.2.2.2.2.2 n
            have hfp := fin_prod h (n := n) (by omega) (by omega)
            have hl0 := (rPh s.r).left_nonneg h.r.p.ok (rFr s.r)
            have hn1 := (next_ok h.r (n := min n ((rPh s.r).left (rFr s.r))) (by omega) (by omega) (by rw [← hfp]; exact he)).1
            have hch' : (rFin s.r n).1.1 = s.r.1 := by rw [hfp, hn1]
            refine ⟨?_, Nat.le_trans hf.2 h1, h2⟩
            show (padS (rFin s.r n).1.1 n _).length ≤ _
            rw [hch']
            exact padS_len (r := s.r) c2 c1 (by omega) hf.1
          · simp [zeroB, zeroSt, zeroR, zeroG]
        · obtain ⟨a1, a2⟩ := mul_bd (show 0 ≤ s.r.1 by omega) c2 (show 0 ≤ n by omega) (show n ≤ 65536 by omega)
          refine ⟨?_, h1, h2⟩
          show (List.replicate (s.r.1 * n).toNat (0 : Int)).length ≤ _
          rw [List.length_replicate]
          omega
  · simp [zeroB, zeroSt, zeroR, zeroG]
theorem writeG_len (g : RgT) (b : BkT) : (writeG g b).1.2.2.2.2.length ≤ g.2.2.2.2.length + b.2.length := by
  unfold writeG
  split
  · split
    · split
      · simp [zeroG]
      · simp only [List.length_append, List.length_take]; omega
    · simp [zeroG]
  · simp [zeroG]
theorem giveS_len (s : St) (b : BkT) (h1 : s.r.2.2.2.2.2.2.length ≤ 1000000) (h2 : s.g.2.2.2.2.length ≤ 1000000) (hb : b.2.length ≤ 1000000) :
    (giveS s b).2.1.r.2.2.2.2.2.2.length ≤ 2000000 ∧ (giveS s b).2.1.g.2.2.2.2.length ≤ 2000000 := by
  unfold giveS
  split
  · split
    · split
      · split
        · split
          · have hc := convS_len s.r.1 s.r.2.1 s.r.2.2.1 s.r.2.2.2.1 s.r.2.2.2.2.1 s.r.2.2.2.2.2.1 s.r.2.2.2.2.2.2 b.1 b.2
            have hw := writeG_len s.g (rConv s.r b).1
            have hr := rConv_len s.r b
            refine ⟨Nat.le_trans hc.2 (by omega), Nat.le_trans hw (by omega)⟩
          · simp [zeroSt, zeroR, zeroG]
        · simp [zeroSt, zeroR, zeroG]
      · exact ⟨by simp only; omega, by simp only; omega⟩
    · simp [zeroSt, zeroR, zeroG]
  · simp [zeroSt, zeroR, zeroG]
/-- StreamMoves -/
theorem law9 {k : Nat} (hk : Big k) (hs : f43 k () = some true) (raw : StT) (b : BkT) (seeds : List Int) (hseeds : ∀ x ∈ seeds, 0 ≤ x ∧ x ≤ 255) (n : Int) : f9 k (raw, b, seeds, n) = some true := by
  unfold f9
  rw [hs]
  simp only [Option.bind_some, Bool.not_true, cond_false]
  rw [z44, Option.bind_some]
  by_cases h1 : ((mkSt raw).r.2.2.2.2.2.2.length : Int) ≤ 300
  · by_cases h2 : ((mkSt raw).g.2.2.2.2.length : Int) ≤ 300
    · simp only [h1, h2, decide_true, Bool.and_self, Bool.not_true, cond_false, z56, Option.bind_some]
      by_cases h3 : (b.2.length : Int) ≤ 100
      · simp only [h3, decide_true, Bool.not_true, cond_false]
        obtain ⟨l, e1, hl⟩ := s22 k hseeds
        obtain ⟨s, l', e2, hl', hsm, _, _⟩ := z45 hk hl
        simp only [e1, e2, Option.bind_some]
        have hall := two_streams h1 h2 hsm.ok
        have hlen : [raw, s.t].length = 2 := rfl
        generalize [raw, s.t] = rs at hall hlen
        have hloop : loopC k (L9_7 k (fun z20 => some z20) (fun z21 => some true)) (n, (rs.length : Int), 0, b, l', rs) = some true := by
          rw [hlen]
          refine loopC_spec (L9_7 k _ _) (fun y => ∃ (i : Nat) (l : List Int), y = (n, 2, (i : Int), b, l, rs) ∧ i ≤ 2 ∧ D8 l) (fun _ => some true) (fun y => (2 - y.2.2.1).toNat) ?_ k _ ⟨0, l', rfl, by omega, hl'⟩ (hk.lt (by simp))
          rintro y next ⟨i, l, rfl, hi, hl⟩ hnext
          simp only at hnext
          unfold L9_7
          simp only
          by_cases hlt : i < 2
          · have c1 : decide ((i : Int) < 2) = true := by simp; omega
            have c2 : decide ((i : Int) < (rs.length : Int)) = true := by simp; omega
            have c3 : decide ((0 : Int) ≤ (i : Int)) = true := by simp
            have hw : IntKind.wrap .i64 ((i : Int) + 1) = ((i + 1 : Nat) : Int) := by rw [w64 (by omega) (by omega)]; omega
            simp only [c1, c2, c3, Bool.and_self, cond_true, Int.toNat_natCast]
            obtain ⟨s, hse, hl1, hl2⟩ := hall.get (show i < rs.length by omega)
            have hsh : Short s := ⟨by omega, by omega⟩
            have hse' : rs.getD i (0, 0, 0, 0, 0, 0, 0, 0, 0, 0, [], 0, 0, 0, 0, [], 0, 0, 0) = s.t := hse
            rw [hse']
            have hnl : [n, Int.tmod (IntKind.wrap .i64 (Int.tmod n 50 + 50)) 50].length = 2 := rfl
            generalize [n, Int.tmod (IntKind.wrap .i64 (Int.tmod n 50 + 50)) 50] = ns at hnl
            rw [hnl]
            refine loopC_spec (L9_10 k _ _) (fun y => ∃ j : Nat, y = (n, 2, (i : Int), 2, (j : Int), b, s.t, l, rs, ns) ∧ j ≤ 2) (fun _ => some true) (fun y => (2 - y.2.2.2.2.1).toNat) ?_ k _ ⟨0, rfl, by omega⟩ (hk.lt (by simp))
            rintro y next' ⟨j, rfl, hj⟩ hnext'
            simp only at hnext'
            unfold L9_10
            simp only
            by_cases hjl : j < 2
            · have c4 : decide ((j : Int) < 2) = true := by simp; omega
              have c5 : decide ((j : Int) < (ns.length : Int)) = true := by simp; omega
              have c6 : decide ((0 : Int) ≤ (j : Int)) = true := by simp
              have hw' : IntKind.wrap .i64 ((j : Int) + 1) = ((j + 1 : Nat) : Int) := by rw [w64 (by omega) (by omega)]; omega
              simp only [c4, c5, c6, Bool.and_self, cond_true, Int.toNat_natCast, hw']
              obtain ⟨m, hgm⟩ : ∃ m, ns.getD j (0 : Int) = m := ⟨_, rfl⟩
              obtain ⟨t1, t2, t3⟩ := takeSt_len s m hl1 hl2
              have g5 := same74 hk (takeSt s m).2.2.1 (by omega) (by omega)
              have g7 := same38 hk (takeSt s m).1 (by omega)
              rw [hgm, s75 hk s hsh, z61 hk s hsh, Option.bind_some, Option.bind_some]
              simp only [rt4, bne_self_eq_false, cond_false, g5, g7, Option.bind_some, Bool.not_true]
              exact hnext' _ ⟨j + 1, rfl, by omega⟩ (by simp only; omega)
            · have : j = 2 := by omega
              subst this
              have c4 : decide (((2 : Nat) : Int) < 2) = false := by decide
              simp only [c4, cond_false]
              obtain ⟨r, hr⟩ := z62 k s
              rw [hr, Option.bind_some]
              cases r with
              | false =>
                simp only [Bool.not_false, cond_true, hw]
                exact hnext _ ⟨i + 1, l, rfl, by omega, hl⟩ (by simp only; omega)
              | true =>
                simp only [Bool.not_true, cond_false]
                obtain ⟨r5, l5, e5, h5, a5, b5, _⟩ := s51 k hl 20
                have b5 := b5 (by omega)
                rw [e5, Option.bind_some]
                simp only
                rw [s24 hk 2 1 r5 (by omega) a5 (by omega), Option.bind_some]
                have hbs : ∀ x ∈ [b, (1, waveL 2 (Int.toNat 1) r5.toNat)], x.2.length ≤ 1000000 := by
                  intro x hx
                  simp only [List.mem_cons, List.not_mem_nil, or_false] at hx
                  rcases hx with rfl | rfl
                  · omega
                  · simp only [waveL_len]
                    have : r5.toNat * Int.toNat 1 ≤ 20 * 1 := Nat.mul_le_mul (by omega) (by decide)
                    omega
                have hbl : [b, (1, waveL 2 (Int.toNat 1) r5.toNat)].length = 2 := rfl
                generalize [b, (1, waveL 2 (Int.toNat 1) r5.toNat)] = bs at hbs hbl
                rw [hbl]
                refine loopC_spec (L9_19 k _ _) (fun y => ∃ j : Nat, y = (n, 2, (i : Int), 2, (j : Int), b, s.t, l5, rs, bs) ∧ j ≤ 2) (fun _ => some true) (fun y => (2 - y.2.2.2.2.1).toNat) ?_ k _ ⟨0, rfl, by omega⟩ (hk.lt (by simp))
                rintro y next'' ⟨j, rfl, hj⟩ hnext''
                simp only at hnext''
                unfold L9_19
                simp only
                by_cases hjl : j < 2
                · have c4 : decide ((j : Int) < 2) = true := by simp; omega
                  have c5 : decide ((j : Int) < (bs.length : Int)) = true := by simp; omega
                  have c6 : decide ((0 : Int) ≤ (j : Int)) = true := by simp
                  have hw' : IntKind.wrap .i64 ((j : Int) + 1) = ((j + 1 : Nat) : Int) := by rw [w64 (by omega) (by omega)]; omega
                  simp only [c4, c5, c6, Bool.and_self, cond_true, Int.toNat_natCast, hw']
                  have hmb := hbs _ (getD_mem' (e := ((0 : Int), [])) (show j < bs.length by omega))
                  obtain ⟨bb, hbb⟩ : ∃ bb, bs.getD j ((0 : Int), []) = bb := ⟨_, rfl⟩
                  rw [hbb] at hmb
                  obtain ⟨t1, t2⟩ := giveS_len s bb hl1 hl2 hmb
                  have g5 := same74 hk (giveS s bb).2.1 (by omega) (by omega)
                  rw [hbb, s78 hk s hsh bb (by omega), z64 hk s hsh bb (by omega), Option.bind_some, Option.bind_some]
                  simp only [rt3, bne_self_eq_false, cond_false, g5, Option.bind_some, Bool.not_true]
                  exact hnext'' _ ⟨j + 1, rfl, by omega⟩ (by simp only; omega)
                · have : j = 2 := by omega
                  subst this
                  have c4 : decide (((2 : Nat) : Int) < 2) = false := by decide
                  simp only [c4, cond_false, hw]
                  exact hnext _ ⟨i + 1, l5, rfl, by omega, h5⟩ (by simp only; omega)
          · have : i = 2 := by omega
            subst this
            have c1 : decide (((2 : Nat) : Int) < 2) = false := by decide
            simp only [c1, cond_false]
        simp only [hloop]
        cases decide (n > 500) <;> cases decide (n ≤ 65536) <;> rfl
      · simp [h3]
    · simp [h1, h2]
  · simp [h1]
theorem plain9 (x : argsI [.val true (.pair (.int .i64) (.pair (.int .i64) (.pair (.int .i64) (.pair (.int .i64) (.pair (.int .i64) (.pair (.int .i64) (.pair (.int .i64) (.pair (.int .i64) (.pair (.int .i64) (.pair (.int .i64) (.pair (.sl (.int .i32)) (.pair (.int .i64) (.pair (.int .i64) (.pair (.int .i64) (.pair (.int .i64) (.pair (.sl (.int .i32)) (.pair (.int .i64) (.pair (.int .i64) (.int .i64))))))))))))))))))), .val true (.pair (.int .i64) (.sl (.int .i32))), .val false (.sl (.int .u8)), .val false (.int .i64)]) (h : WFAs _ x) : f9 fuel x = some true := by
  obtain ⟨raw, b, seeds, n⟩ := x
  exact law9 big_fuel sane20 raw b seeds (D8_of h.2.2.1) n
end Go.Proofs.YtbfkfobfhjgphaaGreat.Sp
