import Derived.Test.YtbfkfobfhjgphaaGreatSpAlm
/- Lists of streams that can be counted. -/
set_option linter.unusedVariables false
set_option linter.unusedSimpArgs false
namespace Go.Proofs.YtbfkfobfhjgphaaGreat.Sp
open Go Go.Pev Go.Snd Go.Proofs.YtbfkfobfhjgphaaGreat.Fn

abbrev zeroT : StT := (0, 0, 0, 0, 0, 0, 0, 0, 0, 0, [], 0, 0, 0, 0, [], 0, 0, 0)
/-- a list of streams that can be counted -/
def Streams (l : List StT) : Prop := ∀ r ∈ l, ∃ s : St, r = s.t ∧ s.r.2.2.2.2.2.2.length ≤ 1000000 ∧ s.g.2.2.2.2.length ≤ 1000000
theorem Streams.get {l : List StT} (h : Streams l) {i : Nat} (hi : i < l.length) : ∃ s : St, l.getD i zeroT = s.t ∧ s.r.2.2.2.2.2.2.length ≤ 1000000 ∧ s.g.2.2.2.2.length ≤ 1000000 := h _ (getD_mem' hi)
theorem z44 (k : Nat) (x : StT) (n : Int) : f44 k (x, n) = some (decide (((mkSt x).r.2.2.2.2.2.2.length : Int) ≤ n) && decide (((mkSt x).g.2.2.2.2.length : Int) ≤ n)) := by
  unfold f44
  show (bif decide (((mkSt x).r.2.2.2.2.2.2.length : Int) ≤ n) then some (decide (((mkSt x).g.2.2.2.2.length : Int) ≤ n)) else some false) = _
  cases decide (((mkSt x).r.2.2.2.2.2.2.length : Int) ≤ n) <;> rfl
theorem made_len {s : St} (h : StOK s) : s.r.2.2.2.2.2.2.length ≤ 1000000 ∧ s.g.2.2.2.2.length ≤ 1000000 := by
  have h1 := h.r.b.len_le
  refine ⟨by omega, ?_⟩
  rcases h.d with ⟨_, _, h2⟩ | ⟨_, h2, _, _⟩
  · rw [h2]; simp [zeroG]
  · have := h2.b.len_le; omega
theorem two_streams {raw : StT} (h1 : ((mkSt raw).r.2.2.2.2.2.2.length : Int) ≤ 300) (h2 : ((mkSt raw).g.2.2.2.2.length : Int) ≤ 300) {s : St} (hs : StOK s) : Streams [raw, s.t] := by
  intro r hr
  simp only [List.mem_cons, List.not_mem_nil, or_false] at hr
  rcases hr with rfl | rfl
  · exact ⟨mkSt r, (mkSt_t r).symm, by omega, by omega⟩
  · exact ⟨s, rfl, made_len hs⟩
end Go.Proofs.YtbfkfobfhjgphaaGreat.Sp

/- The law StreamWrites, in plain words: program and reference give the same. -/
set_option linter.unusedVariables false
set_option linter.unusedSimpArgs false
namespace Go.Proofs.YtbfkfobfhjgphaaGreat.Sp
open Go Go.Pev Go.Snd Go.Proofs.YtbfkfobfhjgphaaGreat.Fn

theorem y56 (k : Nat) (b : BkT) (n : Int) : f56 k (b, n) = some (decide ((b.2.length : Int) ≤ n)) := rfl
theorem writeS_len (s : St) (b : BkT) (h1 : s.r.2.2.2.2.2.2.length ≤ 1000000) (h2 : s.g.2.2.2.2.length ≤ 1000000) (hb : b.2.length ≤ 1000000) :
    (writeS s b).1.r.2.2.2.2.2.2.length ≤ 2000000 ∧ (writeS s b).1.g.2.2.2.2.length ≤ 2000000 := by
  unfold writeS
  split
  · split
    · split
      · simp [zeroSt, zeroR, zeroG]
      · split
        · simp [zeroSt, zeroR, zeroG]
        · have hf := feedS_len s.r.1 s.r.2.1 s.r.2.2.1 s.r.2.2.2.1 s.r.2.2.2.2.1 s.r.2.2.2.2.2.1 s.r.2.2.2.2.2.2 b.1 b.2
          exact ⟨Nat.le_trans hf (by omega), by simp only; omega⟩
    · simp [zeroSt, zeroR, zeroG]
  · simp [zeroSt, zeroR, zeroG]
theorem emptyS_len (s : St) (h2 : s.g.2.2.2.2.length ≤ 1000000) : (emptyS s).r.2.2.2.2.2.2.length ≤ 1000000 ∧ (emptyS s).g.2.2.2.2.length ≤ 1000000 := by
  unfold emptyS
  refine ⟨by simp only [newS_len]; simp, ?_⟩
  simp only
  split
  · unfold clearG
    split <;> simp [zeroG]
  · exact h2
theorem doS_len (s : St) (c : Int) (h1 : s.r.2.2.2.2.2.2.length ≤ 1000000) (h2 : s.g.2.2.2.2.length ≤ 1000000) : (doS s c).1.r.2.2.2.2.2.2.length ≤ 1000000 ∧ (doS s c).1.g.2.2.2.2.length ≤ 1000000 := by
  have hz : zeroSt.r.2.2.2.2.2.2.length ≤ 1000000 ∧ zeroSt.g.2.2.2.2.length ≤ 1000000 := by simp [zeroSt, zeroR, zeroG]
  unfold doS
  split
  · split
    · split
      · exact hz
      · simp only
        unfold afterS
        split
        · exact ⟨h1, h2⟩
        · split
          · exact ⟨h1, h2⟩
          · split
            · exact ⟨h1, h2⟩
            · split
              · exact ⟨h1, h2⟩
              · split
                · exact emptyS_len _ h2
                · split
                  · exact emptyS_len _ h2
                  · exact emptyS_len _ h2
    · exact hz
  · exact hz
theorem readG_len (g : RgT) (n : Int) (hc : g.2.2.2.2.length ≤ 1000000) : (readG g n).1.2.length ≤ 3000000 ∧ (readG g n).2.2.1.2.2.2.2.length ≤ 1000000 := by
  unfold readG
  split
  · rename_i hg
    have h := (rgOK_iff g).1 hg
    split
    · simp [zeroB, zeroG]
    · simp only [List.length_append, List.length_take, List.length_replicate, List.length_drop]
      have hr := h.r1
      obtain ⟨m1, m2⟩ := mul_bd (show 0 ≤ n - min n (g.2.2.1 - g.2.2.2.1) by omega) (show n - min n (g.2.2.1 - g.2.2.2.1) ≤ 65536 by omega) (show 0 ≤ g.1 by have := h.b.c1; omega) h.b.c2
      omega
  · simp [zeroB, zeroG]
theorem readS_len (s : St) (n : Int) (h1 : s.r.2.2.2.2.2.2.length ≤ 1000000) (h2 : s.g.2.2.2.2.length ≤ 1000000) :
    (readS s n).1.2.length ≤ 3000000 ∧ (readS s n).2.1.r.2.2.2.2.2.2.length ≤ 1000000 ∧ (readS s n).2.1.g.2.2.2.2.length ≤ 1000000 := by
  unfold readS
  split
  · split
    · simp [zeroB, zeroSt, zeroR, zeroG]
    · split
      · simp [zeroB, zeroSt, zeroR, zeroG]
      · obtain ⟨a1, a2⟩ := readG_len s.g (min n (waitS s)) h2
        exact ⟨a1, h1, a2⟩
  · simp [zeroB, zeroSt, zeroR, zeroG]
/-- StreamWrites -/
theorem law8 {k : Nat} (hk : Big k) (hs : f43 k () = some true) (raw : StT) (b : BkT) (seeds : List Int) (hseeds : ∀ x ∈ seeds, 0 ≤ x ∧ x ≤ 255) (n cmd : Int) : f8 k (raw, b, seeds, n, cmd) = some true := by
  unfold f8
  rw [hs]
  simp only [Option.bind_some, Bool.not_true, cond_false]
  rw [z44, Option.bind_some]
  by_cases h1 : ((mkSt raw).r.2.2.2.2.2.2.length : Int) ≤ 300
  · by_cases h2 : ((mkSt raw).g.2.2.2.2.length : Int) ≤ 300
    · simp only [h1, h2, decide_true, Bool.and_self, Bool.not_true, cond_false, y56, Option.bind_some]
      by_cases h3 : (b.2.length : Int) ≤ 300
      · simp only [h3, decide_true, Bool.not_true, cond_false]
        obtain ⟨l, e1, hl⟩ := s22 k hseeds
        obtain ⟨s, l', e2, hl', hsm, _, _⟩ := z45 hk hl
        simp only [e1, e2, Option.bind_some]
        have hall := two_streams h1 h2 hsm.ok
        have hlen : [raw, s.t].length = 2 := rfl
        generalize [raw, s.t] = rs at hall hlen
        rw [hlen]
        refine loopC_spec (L8_7 k _ _) (fun y => ∃ (i : Nat) (l : List Int), y = (n, cmd, 2, (i : Int), b, l, rs) ∧ i ≤ 2 ∧ D8 l) (fun _ => some true) (fun y => (2 - y.2.2.2.1).toNat) ?_ k _ ⟨0, l', rfl, by omega, hl'⟩ (hk.lt (by simp))
        rintro y next ⟨i, l, rfl, hi, hl⟩ hnext
        simp only at hnext
        unfold L8_7
        simp only
        by_cases hlt : i < 2
        · have c1 : decide ((i : Int) < 2) = true := by simp; omega
          have c2 : decide ((i : Int) < (rs.length : Int)) = true := by simp; omega
          have c3 : decide ((0 : Int) ≤ (i : Int)) = true := by simp
          have hw : IntKind.wrap .i64 ((i : Int) + 1) = ((i + 1 : Nat) : Int) := by rw [w64 (by omega) (by omega)]; omega
          simp only [c1, c2, c3, Bool.and_self, cond_true, Int.toNat_natCast]
          obtain ⟨s, hse, hl1, hl2⟩ := hall.get (show i < rs.length by omega)
          have hsh : Short s := ⟨by omega, by omega⟩
          have hse' : rs.getD i (0, 0, 0, 0, 0, 0, 0, 0, 0, 0, [], 0, 0, 0, 0, [], 0, 0, 0) = s.t := hse
          rw [hse']
          obtain ⟨r6, l6, e6, h6, a6, b6, _⟩ := s51 k hl 30
          have b6 := b6 (by omega)
          rw [e6, Option.bind_some]
          simp only
          rw [s24 hk 1 1 r6 (by omega) a6 (by omega), Option.bind_some]
          have hbs : ∀ x ∈ [b, (1, waveL 1 (Int.toNat 1) r6.toNat), ((2 : Int), ([] : List Int))], x.2.length ≤ 1000000 := by
            intro x hx
            simp only [List.mem_cons, List.not_mem_nil, or_false] at hx
            rcases hx with rfl | rfl | rfl
            · omega
            · simp only [waveL_len]
              have : r6.toNat * Int.toNat 1 ≤ 30 * 1 := Nat.mul_le_mul (by omega) (by decide)
              omega
            · simp
          have hbl : [b, (1, waveL 1 (Int.toNat 1) r6.toNat), ((2 : Int), ([] : List Int))].length = 3 := rfl
          generalize [b, (1, waveL 1 (Int.toNat 1) r6.toNat), ((2 : Int), ([] : List Int))] = bs at hbs hbl
          rw [hbl]
          refine loopC_spec (L8_10 k _ _) (fun y => ∃ j : Nat, y = (n, cmd, 2, (i : Int), 3, (j : Int), b, s.t, l6, rs, bs) ∧ j ≤ 3) (fun _ => some true) (fun y => (3 - y.2.2.2.2.2.1).toNat) ?_ k _ ⟨0, rfl, by omega⟩ (hk.lt (by simp))
          rintro y next1 ⟨j, rfl, hj⟩ hnext1
          simp only at hnext1
          unfold L8_10
          simp only
          by_cases hjl : j < 3
          · have c4 : decide ((j : Int) < 3) = true := by simp; omega
            have c5 : decide ((j : Int) < (bs.length : Int)) = true := by simp; omega
            have c6 : decide ((0 : Int) ≤ (j : Int)) = true := by simp
            have hw' : IntKind.wrap .i64 ((j : Int) + 1) = ((j + 1 : Nat) : Int) := by rw [w64 (by omega) (by omega)]; omega
            simp only [c4, c5, c6, Bool.and_self, cond_true, Int.toNat_natCast, hw']
            have hmb := hbs _ (getD_mem' (e := ((0 : Int), [])) (show j < bs.length by omega))
            obtain ⟨bb, hbb⟩ : ∃ bb, bs.getD j ((0 : Int), []) = bb := ⟨_, rfl⟩
            rw [hbb] at hmb
            obtain ⟨t1, t2⟩ := writeS_len s bb hl1 hl2 hmb
            have g5 := same74 hk (writeS s bb).1 (by omega) (by omega)
            rw [hbb, s72 hk s hsh bb (by omega), z57 hk s hsh bb (by omega), Option.bind_some, Option.bind_some]
            simp only [rt, bne_self_eq_false, cond_false, g5, Option.bind_some, Bool.not_true]
            exact hnext1 _ ⟨j + 1, rfl, by omega⟩ (by simp only; omega)
          · have : j = 3 := by omega
            subst this
            have c4 : decide (((3 : Nat) : Int) < 3) = false := by decide
            simp only [c4, cond_false]
            have hnl : [n, Int.tmod n 40].length = 2 := rfl
            generalize [n, Int.tmod n 40] = ns at hnl
            rw [hnl]
            refine loopC_spec (L8_18 k _ _) (fun y => ∃ j : Nat, y = (n, cmd, 2, (i : Int), 2, (j : Int), b, s.t, l6, rs, ns) ∧ j ≤ 2) (fun _ => some true) (fun y => (2 - y.2.2.2.2.2.1).toNat) ?_ k _ ⟨0, rfl, by omega⟩ (hk.lt (by simp))
            rintro y next2 ⟨j, rfl, hj⟩ hnext2
            simp only at hnext2
            unfold L8_18
            simp only
            by_cases hjl : j < 2
            · have c4 : decide ((j : Int) < 2) = true := by simp; omega
              have c5 : decide ((j : Int) < (ns.length : Int)) = true := by simp; omega
              have c6 : decide ((0 : Int) ≤ (j : Int)) = true := by simp
              have hw' : IntKind.wrap .i64 ((j : Int) + 1) = ((j + 1 : Nat) : Int) := by rw [w64 (by omega) (by omega)]; omega
              simp only [c4, c5, c6, Bool.and_self, cond_true, Int.toNat_natCast, hw']
              obtain ⟨m, hgm⟩ : ∃ m, ns.getD j (0 : Int) = m := ⟨_, rfl⟩
              obtain ⟨t1, t2, t3⟩ := readS_len s m hl1 hl2
              have g5 := same74 hk (readS s m).2.1 (by omega) (by omega)
              have g7 := same38 hk (readS s m).1 (by omega)
              rw [hgm, s79 hk s hsh, z59 hk s hsh, Option.bind_some, Option.bind_some]
              simp only [rt5, bne_self_eq_false, cond_false, g5, g7, Option.bind_some, Bool.not_true]
              exact hnext2 _ ⟨j + 1, rfl, by omega⟩ (by simp only; omega)
            · have : j = 2 := by omega
              subst this
              have c4 : decide (((2 : Nat) : Int) < 2) = false := by decide
              simp only [c4, cond_false]
              have hcl : [cmd, 1, 2, 3, 4, 5, 6, (7 : Int)].length = 8 := rfl
              generalize [cmd, 1, 2, 3, 4, 5, 6, (7 : Int)] = cs at hcl
              rw [hcl]
              refine loopC_spec (L8_26 k _ _) (fun y => ∃ j : Nat, y = (n, cmd, 2, (i : Int), 8, (j : Int), b, s.t, l6, rs, cs) ∧ j ≤ 8) (fun _ => some true) (fun y => (8 - y.2.2.2.2.2.1).toNat) ?_ k _ ⟨0, rfl, by omega⟩ (hk.lt (by simp))
              rintro y next3 ⟨j, rfl, hj⟩ hnext3
              simp only at hnext3
              unfold L8_26
              simp only
              by_cases hjl : j < 8
              · have c4 : decide ((j : Int) < 8) = true := by simp; omega
                have c5 : decide ((j : Int) < (cs.length : Int)) = true := by simp; omega
                have c6 : decide ((0 : Int) ≤ (j : Int)) = true := by simp
                have hw' : IntKind.wrap .i64 ((j : Int) + 1) = ((j + 1 : Nat) : Int) := by rw [w64 (by omega) (by omega)]; omega
                simp only [c4, c5, c6, Bool.and_self, cond_true, Int.toNat_natCast, hw']
                obtain ⟨m, hgm⟩ : ∃ m, cs.getD j (0 : Int) = m := ⟨_, rfl⟩
                obtain ⟨t1, t2⟩ := doS_len s m hl1 hl2
                have g5 := same74 hk (doS s m).1 (by omega) (by omega)
                rw [hgm, s73 hk s hsh, z60 hk s hsh, Option.bind_some, Option.bind_some]
                simp only [rt, bne_self_eq_false, cond_false, g5, Option.bind_some, Bool.not_true]
                exact hnext3 _ ⟨j + 1, rfl, by omega⟩ (by simp only; omega)
              · have : j = 8 := by omega
                subst this
                have c4 : decide (((8 : Nat) : Int) < 8) = false := by decide
                simp only [c4, cond_false, hw]
                exact hnext _ ⟨i + 1, l6, rfl, by omega, h6⟩ (by simp only; omega)
        · have : i = 2 := by omega
          subst this
          have c1 : decide (((2 : Nat) : Int) < 2) = false := by decide
          simp only [c1, cond_false]
      · simp [h3]
    · simp [h1, h2]
  · simp [h1]
theorem plain8 (x : argsI [.val true (.pair (.int .i64) (.pair (.int .i64) (.pair (.int .i64) (.pair (.int .i64) (.pair (.int .i64) (.pair (.int .i64) (.pair (.int .i64) (.pair (.int .i64) (.pair (.int .i64) (.pair (.int .i64) (.pair (.sl (.int .i32)) (.pair (.int .i64) (.pair (.int .i64) (.pair (.int .i64) (.pair (.int .i64) (.pair (.sl (.int .i32)) (.pair (.int .i64) (.pair (.int .i64) (.int .i64))))))))))))))))))), .val true (.pair (.int .i64) (.sl (.int .i32))), .val false (.sl (.int .u8)), .val false (.int .i64), .val false (.int .i64)]) (h : WFAs _ x) : f8 fuel x = some true := by
  obtain ⟨raw, b, seeds, n, cmd⟩ := x
  exact law8 big_fuel sane20 raw b seeds (D8_of h.2.2.1) n cmd
end Go.Proofs.YtbfkfobfhjgphaaGreat.Sp
