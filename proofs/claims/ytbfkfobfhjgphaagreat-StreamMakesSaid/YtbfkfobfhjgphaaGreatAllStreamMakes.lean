import Derived.Test.YtbfkfobfhjgphaaGreatSpAlm
/- The law StreamMakes, in plain words: program and reference give the same. -/
set_option linter.unusedVariables false
set_option linter.unusedSimpArgs false
namespace Go.Proofs.YtbfkfobfhjgphaaGreat.Sp
open Go Go.Pev Go.Snd Go.Proofs.YtbfkfobfhjgphaaGreat.Fn

abbrev zeroT : StT := (0, 0, 0, 0, 0, 0, 0, 0, 0, 0, [], 0, 0, 0, 0, [], 0, 0, 0)
/-- a list of streams that can be counted -/
def Streams (l : List StT) : Prop := ∀ r ∈ l, ∃ s : St, r = s.t ∧ s.r.2.2.2.2.2.2.length ≤ 1000000 ∧ s.g.2.2.2.2.length ≤ 1000000
theorem Streams.get {l : List StT} (h : Streams l) {i : Nat} (hi : i < l.length) : ∃ s : St, l.getD i zeroT = s.t ∧ s.r.2.2.2.2.2.2.length ≤ 1000000 ∧ s.g.2.2.2.2.length ≤ 1000000 := h _ (getD_mem' hi)
theorem z44 (k : Nat) (x : StT) (n : Int) : f44 k (x, n) = some (decide (((mkSt x).r.2.2.2.2.2.2.length : Int) ≤ n) && decide (((mkSt x).g.2.2.2.2.length : Int) ≤ n)) := by
  unfold f44
  show (bif decide (((mkSt x).r.2.2.2.2.2.2.length : Int) ≤ n) then some (decide (((mkSt x).g.2.2.2.2.length : Int) ≤ n)) else some false) = _
  cases decide (((mkSt x).r.2.2.2.2.2.2.length : Int) ≤ n) <;> rfl
theorem made_len {s : St} (h : StOK s) : s.r.2.2.2.2.2.2.length ≤ 1000000 ∧ s.g.2.2.2.2.length ≤ 1000000 := by
  have h1 := h.r.b.len_le
  refine ⟨by omega, ?_⟩
  rcases h.d with ⟨_, _, h2⟩ | ⟨_, h2, _, _⟩
  · rw [h2]; simp [zeroG]
  · have := h2.b.len_le; omega
theorem two_streams {raw : StT} (h1 : ((mkSt raw).r.2.2.2.2.2.2.length : Int) ≤ 300) (h2 : ((mkSt raw).g.2.2.2.2.length : Int) ≤ 300) {s : St} (hs : StOK s) : Streams [raw, s.t] := by
  intro r hr
  simp only [List.mem_cons, List.not_mem_nil, or_false] at hr
  rcases hr with rfl | rfl
  · exact ⟨mkSt r, (mkSt_t r).symm, by omega, by omega⟩
  · exact ⟨s, rfl, made_len hs⟩
theorem newSt_len (dir ch num den cap start : Int) : (newSt dir ch num den cap start).1.r.2.2.2.2.2.2 = [] ∧ (newSt dir ch num den cap start).1.g.2.2.2.2 = [] := by
  unfold newSt
  simp only
  cases hb : stOK ⟨dir, 1, cap, start, (newS ch num den).1, if dir = 2 then (newG ch cap).1 else zeroG, 0, 0, 0⟩ with
  | false => simp [zeroSt, zeroR, zeroG]
  | true =>
    simp only [if_true]
    refine ⟨newS_len _ _ _, ?_⟩
    by_cases h : dir = 2
    · rw [if_pos h]; exact newG_len _ _
    · rw [if_neg h]; rfl
/-- StreamMakes -/
theorem law5 {k : Nat} (hk : Big k) (hs : f43 k () = some true) (raw : StT) (seeds : List Int) (hseeds : ∀ x ∈ seeds, 0 ≤ x ∧ x ≤ 255) (n dir ch cap start num den : Int) : f5 k (raw, seeds, n, dir, ch, cap, start, num, den) = some true := by
  unfold f5
  rw [hs]
  simp only [Option.bind_some, Bool.not_true, cond_false]
  rw [z44, Option.bind_some]
  by_cases h1 : ((mkSt raw).r.2.2.2.2.2.2.length : Int) ≤ 300
  · by_cases h2 : ((mkSt raw).g.2.2.2.2.length : Int) ≤ 300
    · simp only [h1, h2, decide_true, Bool.and_self, Bool.not_true, cond_false]
      obtain ⟨l, e1, hl⟩ := s22 k hseeds
      obtain ⟨s, l', e2, _, hsm, _, _⟩ := z45 hk hl
      simp only [e1, e2, Option.bind_some]
      have hall := two_streams h1 h2 hsm.ok
      have hlen : [raw, s.t].length = 2 := rfl
      generalize [raw, s.t] = rs at hall hlen
      have hfin : loopC k (L5_20 k (fun z20 => some z20) (fun z21 => some true)) (ch, cap, start, (([dir, IntKind.wrap .i64 (1 + Int.tmod (IntKind.wrap .i64 (Int.tmod dir 2 + 2)) 2)].length : Nat) : Int), 0, (num, den), [dir, IntKind.wrap .i64 (1 + Int.tmod (IntKind.wrap .i64 (Int.tmod dir 2 + 2)) 2)]) = some true := by
        have hdl : [dir, IntKind.wrap .i64 (1 + Int.tmod (IntKind.wrap .i64 (Int.tmod dir 2 + 2)) 2)].length = 2 := rfl
        generalize [dir, IntKind.wrap .i64 (1 + Int.tmod (IntKind.wrap .i64 (Int.tmod dir 2 + 2)) 2)] = ds at hdl
        rw [hdl]
        refine loopC_spec (L5_20 k _ _) (fun y => ∃ i : Nat, y = (ch, cap, start, 2, (i : Int), (num, den), ds) ∧ i ≤ 2) (fun _ => some true) (fun y => (2 - y.2.2.2.2.1).toNat) ?_ k _ ⟨0, rfl, by omega⟩ (hk.lt (by simp))
        rintro y next ⟨i, rfl, hi⟩ hnext
        simp only at hnext
        unfold L5_20
        simp only
        by_cases hlt : i < 2
        · have c1 : decide ((i : Int) < 2) = true := by simp; omega
          have c2 : decide ((i : Int) < (ds.length : Int)) = true := by simp; omega
          have c3 : decide ((0 : Int) ≤ (i : Int)) = true := by simp
          have hw : IntKind.wrap .i64 ((i : Int) + 1) = ((i + 1 : Nat) : Int) := by rw [w64 (by omega) (by omega)]; omega
          simp only [c1, c2, c3, Bool.and_self, cond_true, Int.toNat_natCast, hw, s71 hk, z53 hk, Option.bind_some]
          obtain ⟨n1, n2⟩ := newSt_len (ds.getD i 0) ch num den cap start
          have hsame := same74 hk (newSt (ds.getD i 0) ch num den cap start).1 (by rw [n1]; simp) (by rw [n2]; simp)
          simp only [rt, bne_self_eq_false, cond_false, hsame, Option.bind_some, Bool.not_true]
          exact hnext _ ⟨i + 1, rfl, by omega⟩ (by simp only; omega)
        · have : i = 2 := by omega
          subst this
          have c1 : decide (((2 : Nat) : Int) < 2) = false := by decide
          simp only [c1, cond_false]
      rw [hlen]
      refine loopC_spec (L5_6 k _ _) (fun y => ∃ i : Nat, y = (n, dir, ch, cap, start, 2, (i : Int), (num, den), rs) ∧ i ≤ 2) (fun _ => some true) (fun y => (2 - y.2.2.2.2.2.2.1).toNat) ?_ k _ ⟨0, rfl, by omega⟩ (hk.lt (by simp))
      rintro y next ⟨i, rfl, hi⟩ hnext
      simp only at hnext
      unfold L5_6
      simp only
      by_cases hlt : i < 2
      · have c1 : decide ((i : Int) < 2) = true := by simp; omega
        have c2 : decide ((i : Int) < (rs.length : Int)) = true := by simp; omega
        have c3 : decide ((0 : Int) ≤ (i : Int)) = true := by simp
        have hw : IntKind.wrap .i64 ((i : Int) + 1) = ((i + 1 : Nat) : Int) := by rw [w64 (by omega) (by omega)]; omega
        simp only [c1, c2, c3, Bool.and_self, cond_true, Int.toNat_natCast, hw]
        obtain ⟨s, hse, hl1, hl2⟩ := hall.get (show i < rs.length by omega)
        have hsh : Short s := ⟨by omega, by omega⟩
        have hse' : rs.getD i (0, 0, 0, 0, 0, 0, 0, 0, 0, 0, [], 0, 0, 0, 0, [], 0, 0, 0) = s.t := hse
        rw [hse']
        have hnl : [n, Int.tmod n 300].length = 2 := rfl
        generalize [n, Int.tmod n 300] = ns at hnl
        rw [hnl]
        refine loopC_spec (L5_9 k _ _) (fun y => ∃ j : Nat, y = (n, dir, ch, cap, start, 2, (i : Int), 2, (j : Int), (num, den), s.t, rs, ns) ∧ j ≤ 2) (fun _ => some true) (fun y => (2 - y.2.2.2.2.2.2.2.2.1).toNat) ?_ k _ ⟨0, rfl, by omega⟩ (hk.lt (by simp))
        rintro y next' ⟨j, rfl, hj⟩ hnext'
        simp only at hnext'
        unfold L5_9
        simp only
        by_cases hjl : j < 2
        · have c4 : decide ((j : Int) < 2) = true := by simp; omega
          have c5 : decide ((j : Int) < (ns.length : Int)) = true := by simp; omega
          have c6 : decide ((0 : Int) ≤ (j : Int)) = true := by simp
          have hw' : IntKind.wrap .i64 ((j : Int) + 1) = ((j + 1 : Nat) : Int) := by rw [w64 (by omega) (by omega)]; omega
          simp only [c4, c5, c6, Bool.and_self, cond_true, Int.toNat_natCast, hw', s119 hk s hsh, z46 hk s hsh, Option.bind_some, bne_self_eq_false, cond_false]
          exact hnext' _ ⟨j + 1, rfl, by omega⟩ (by simp only; omega)
        · have : j = 2 := by omega
          subst this
          have c4 : decide (((2 : Nat) : Int) < 2) = false := by decide
          simp only [c4, cond_false, s120 hk s hsh, z48 hk s hsh, s77 hk s hsh, z50 hk s hsh, s76 hk s hsh, z52 hk s hsh, Option.bind_some, bne_self_eq_false, hw]
          exact hnext _ ⟨i + 1, rfl, by omega⟩ (by simp only; omega)
      · have : i = 2 := by omega
        subst this
        have c1 : decide (((2 : Nat) : Int) < 2) = false := by decide
        simp only [c1, cond_false]
        exact hfin
    · simp [h1, h2]
  · simp [h1]
theorem plain5 (x : argsI [.val true (.pair (.int .i64) (.pair (.int .i64) (.pair (.int .i64) (.pair (.int .i64) (.pair (.int .i64) (.pair (.int .i64) (.pair (.int .i64) (.pair (.int .i64) (.pair (.int .i64) (.pair (.int .i64) (.pair (.sl (.int .i32)) (.pair (.int .i64) (.pair (.int .i64) (.pair (.int .i64) (.pair (.int .i64) (.pair (.sl (.int .i32)) (.pair (.int .i64) (.pair (.int .i64) (.int .i64))))))))))))))))))), .val false (.sl (.int .u8)), .val false (.int .i64), .val false (.int .i64), .val false (.int .i64), .val false (.int .i64), .val false (.int .i64), .val true (.pair (.int .i64) (.int .i64))]) (h : WFAs _ x) : f5 fuel x = some true := by
  obtain ⟨raw, seeds, n, dir, ch, cap, start, num, den⟩ := x
  exact law5 big_fuel sane20 raw seeds (D8_of h.2.1) n dir ch cap start num den
end Go.Proofs.YtbfkfobfhjgphaaGreat.Sp
