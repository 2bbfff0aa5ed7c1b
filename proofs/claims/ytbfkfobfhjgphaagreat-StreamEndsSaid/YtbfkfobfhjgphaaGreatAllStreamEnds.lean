import Derived.Test.YtbfkfobfhjgphaaGreatSpAlm
/- The law StreamEnds, in plain words. -/
set_option linter.unusedVariables false
set_option linter.unusedSimpArgs false
namespace Go.Proofs.YtbfkfobfhjgphaaGreat.Sp
open Go Go.Pev Go.Snd Go.Proofs.YtbfkfobfhjgphaaGreat.Fn

/-- the loop over the samples of silence -/
theorem ends_loop {k : Nat} (hk : Big k) {R : Type} (K0 : Bool → Option R) (K1 : (Int × Int × Int × Int × StT × (Int × List Int) × StT) → Option R) (a b c d : Int) (xs : List Int) (hx : xs.length ≤ 1000000) (hz : ∀ x ∈ xs, x = 0) (s : StT) (bl : Int × List Int) (u : StT) :
    loopC k (L10_16 k K0 K1) (a, b, c, d, xs, (xs.length : Int), 0, s, bl, u) = K1 (a, b, c, d, s, bl, u) := by
  refine loopC_spec (L10_16 k K0 K1) (fun y => ∃ i : Nat, y = (a, b, c, d, xs, (xs.length : Int), (i : Int), s, bl, u) ∧ i ≤ xs.length) (fun _ => K1 (a, b, c, d, s, bl, u)) (fun y => (xs.length - y.2.2.2.2.2.2.1).toNat) ?_ k _ ⟨0, rfl, by omega⟩ (hk.lt (by simp only; omega))
  rintro y next ⟨i, rfl, hi⟩ hnext
  simp only at hnext
  unfold L10_16
  simp only
  by_cases hlt : i < xs.length
  · have c1 : decide ((i : Int) < (xs.length : Int)) = true := by simp; omega
    have c2 : decide ((0 : Int) ≤ (i : Int)) = true := by simp
    have hw : IntKind.wrap .i64 ((i : Int) + 1) = ((i + 1 : Nat) : Int) := by rw [w64 (by omega) (by omega)]; omega
    have h0 : xs.getD i 0 = 0 := hz _ (getD_mem hlt)
    simp only [c1, c2, Bool.and_self, cond_true, Int.toNat_natCast, h0, bne_self_eq_false, cond_false, hw]
    exact hnext _ ⟨i + 1, rfl, by omega⟩ (by simp only; omega)
  · have : i = xs.length := by omega
    subst this
    have c1 : decide ((xs.length : Int) < (xs.length : Int)) = false := by simp
    simp only [c1, cond_false]
/-- a stream that has ended: its state is Stopped or Dead, and nothing waits -/
structure Ended (s : St) : Prop where
  ok : StOK s
  st : s.state = 6 ∨ s.state = 7
  none : waitS s = 0
theorem ended_do {s : St} {B : Int} (h : Small s B) {c : Int} (hc : c = 5 ∨ c = 6) (he : (doS s c).2 = 0) : Ended (doS s c).1 ∧ (doS s c).1.dir = s.dir ∧ (doS s c).1.r.1 = s.r.1 := by
  have hk := do_keeps h he
  have hform : (doS s c).1 = emptyS { s with state := c + 1 } := by
    rw [doS_n s c (by omega) (by omega)] at he ⊢
    rw [if_pos ((stOK_iff s).2 h.ok)] at he ⊢
    split at he
    · rename_i h1
      rw [if_pos h1]
      rcases hc with rfl | rfl <;> simp [afterS]
    · simp at he
  refine ⟨⟨hk.small.ok, ?_, ?_⟩, hk.dir, hk.ch⟩
  · rw [hform]
    show c + 1 = 6 ∨ c + 1 = 7
    omega
  · have hq := (newS_ok h.ok.r.b.c1 h.ok.r.b.c2 h.base).1
    have hr : (doS s c).1.r = (s.r.1, s.r.2.1, s.r.2.2.1, 0, 0, 0, []) := by
      rw [hform]
      show (newS s.r.1 s.r.2.1 s.r.2.2.1).1 = _
      rw [hq]
    rcases waitS_eq hk.small.ok with ⟨_, e⟩ | ⟨e1, e⟩
    · rw [e]
      unfold rFr
      rw [hr]
      exact (nil_ok h.ok.r.b.c1 h.ok.r.b.c2).2
    · rw [e]
      have hd : s.dir = 2 := by rw [← hk.dir]; exact e1
      rcases h.ok.d with ⟨d, _⟩ | ⟨_, d2, _, _⟩
      · omega
      · have hg : (doS s c).1.g = (s.g.1, s.g.2.1, s.g.2.2.1, s.g.2.2.1, []) := by
          rw [hform]
          show (if s.dir = 2 then (clearG s.g).1 else s.g) = _
          rw [if_pos hd]; unfold clearG; rw [if_pos ((rgOK_iff _).2 d2)]
        rw [hg]
        simp
/-- whatever command an ended stream is given -/
theorem ended_again {s : St} (h : Ended s) (c : Int) : (doS s c).2 = 0 ∧ (doS s c).1.state = 7 ∨ (doS s c).2 ≠ 0 ∧ (doS s c).1.state = 0 := by
  unfold doS
  by_cases h1 : stOK s = true ∧ 1 ≤ c ∧ c ≤ 7
  · rw [if_pos h1]
    by_cases h2 : mayS s c = true
    · rw [if_pos h2]
      have h6 : c = 6 := by
        have hst := h.st
        unfold mayS at h2
        rcases (show c = 1 ∨ c = 2 ∨ c = 3 ∨ c = 4 ∨ c = 5 ∨ c = 6 ∨ c = 7 by omega) with rfl | rfl | rfl | rfl | rfl | rfl | rfl
        all_goals first | rfl | (exfalso; simp at h2; omega)
      subst h6
      rw [if_neg (by omega)]
      exact .inl ⟨rfl, by simp [afterS, emptyS]⟩
    · rw [if_neg h2]; exact .inr ⟨by decide, rfl⟩
  · rw [if_neg h1]; exact .inr ⟨by decide, rfl⟩

/-- StreamEnds -/
theorem law10 {k : Nat} (hk : Big k) (hs : f43 k () = some true) (seeds : List Int) (hseeds : ∀ x ∈ seeds, 0 ≤ x ∧ x ≤ 255) (cmd n : Int) (hcmd : 0 ≤ cmd ∧ cmd ≤ 255) (hn : 0 ≤ n ∧ n ≤ 255) : f10 k (seeds, cmd, n) = some true := by
  unfold f10
  rw [hs]
  simp only [Option.bind_some, Bool.not_true, cond_false]
  obtain ⟨l, e1, hl⟩ := s22 k hseeds
  obtain ⟨s0, l', e2, hl', hsm, hch, hdir⟩ := z45 hk hl
  obtain ⟨r4, l4, e4, _, a4, b4, _⟩ := s51 k hl' 2
  have b4 := b4 (by omega)
  have hsh0 := hsm.ok.short
  rw [e1, Option.bind_some, e2, Option.bind_some]
  simp only
  rw [e4, Option.bind_some]
  simp only
  have d1 : decide (r4 < (([(5 : Int), (6 : Int)]).length : Int)) = true := by simp; omega
  simp only [a4, d1, decide_true, Bool.and_self, cond_true]
  obtain ⟨c, hc⟩ : ∃ c, c = ([(5 : Int), (6 : Int)]).getD r4.toNat 0 := ⟨_, rfl⟩
  have hc56 : c = 5 ∨ c = 6 := by
    rw [hc]
    rcases (show r4 = 0 ∨ r4 = 1 by omega) with rfl | rfl
    · exact .inl rfl
    · exact .inr rfl
  rw [← hc, s73 hk s0 hsh0, Option.bind_some]
  by_cases he : (doS s0 c).2 = 0
  · obtain ⟨hE, hEd, hEc⟩ := ended_do hsm hc56 he
    obtain ⟨s, hsd⟩ : ∃ s, s = (doS s0 c).1 := ⟨_, rfl⟩
    have hr5 : rt (doS s0 c) = (s.t, 0) := by unfold rt; rw [he, hsd]
    rw [← hsd] at hE hEd hEc
    rw [hr5]
    simp only [bne_self_eq_false, cond_false]
    have hsh := hE.ok.short
    have c1 := hE.ok.r.b.c1
    rw [s73 hk s hsh, Option.bind_some]
    obtain ⟨m1, m2, m3⟩ := u8_mod hn (show (1 : Int) ≤ 20 by omega) (by omega)
    obtain ⟨p1, p2, p3⟩ := u8_mod hn (show (1 : Int) ≤ 40 by omega) (by omega)
    rw [m1, p1]
    -- what comes behind
    have hrest : (bif s.t.1 == (2 : Int) then
          Option.bind (f55 k (1, s.t.2.2.2.2.1, 0, n % 20)) fun r7 => Option.bind (f63 k (s.t, r7)) fun r8 =>
            bif r8.2.2 == (0 : Int) then bif r8.1 == (0 : Int) then Option.bind (f54 k (r8.2.1, s.t)) fun r9 => bif r9 then Option.bind (f49 k s.t) fun r10 => some (r10 == (0 : Int)) else some false else some false else some false
        else
          Option.bind (f33 k (s.t, n % 40)) fun r11 => Option.bind (f55 k (1, s.t.2.2.2.2.1, 0, 1)) fun r12 => Option.bind (f27 k (s.t, r12)) fun r13 =>
            loopC k (L10_16 k (fun z14 => some z14) (fun z15 =>
                bif z15.2.2.1 == (0 : Int) then bif z15.2.1 == (0 : Int) then Option.bind (f54 k (z15.2.2.2.2.2.2, z15.2.2.2.2.1)) fun r16 => bif r16 then bif z15.2.2.2.1 == (9 : Int) then Option.bind (f42 k z15.2.2.2.2.2.1) fun r17 => some (r17 == IntKind.wrap .i64 (Int.tmod z15.1 40)) else some false else some false else some false else some false))
              (n, r11.2.1, r11.2.2.2, r13.2, r11.1.2, (r11.1.2.length : Int), 0, s.t, r11.1, r11.2.2.1)) = some true := by
      have hst := hE.st
      rw [show s.t.2.2.2.2.1 = s.r.1 from rfl, show s.t.1 = s.dir from rfl]
      by_cases hd2 : s.dir = 2
      · rw [show (s.dir == 2) = true by simpa using hd2, cond_true]
        obtain ⟨v1, v2⟩ := wave_ok 1 c1 (show s.r.1 ≤ 8 by omega) m2 (show n % 20 ≤ 65536 by omega)
        have vl := v1.len_le
        rw [s24 hk 1 s.r.1 (n % 20) (by omega) m2 (by omega), Option.bind_some]
        have hg : giveS s (s.r.1, waveL 1 s.r.1.toNat (n % 20).toNat) = (0, s, 0) := by
          unfold giveS
          rw [if_pos ⟨by rw [(stOK_iff s).2 hE.ok, hd2]; rfl, (bkOK_iff _ _).2 v1⟩, if_pos rfl, if_neg (by omega)]
        rw [s78 hk s hsh _ (by simp only; omega), hg, Option.bind_some]
        simp only [rt3, beq_self_eq_true, cond_true]
        rw [same74' hk hE.ok, Option.bind_some, cond_true, s77 hk s hsh, hE.none, Option.bind_some]
        rfl
      · have hd1 : s.dir = 1 := by omega
        rw [c_ne hd2, cond_false]
        have ht : takeSt s (n % 40) = ((s.r.1, List.replicate (s.r.1 * (n % 40)).toNat 0), 0, s, 0) := by
          unfold takeSt
          rw [if_pos (play_is hE.ok hd1), if_neg (by omega), if_neg (by omega), if_neg (by omega)]
        have hf75 := (s75 hk s hsh (n % 40)).trans (congrArg some (congrArg rt4 ht))
        rw [show ∀ A B C D, rt4 (A, B, C, D) = (A, B, C.t, D) from fun _ _ _ _ => rfl] at hf75
        obtain ⟨v1, v2⟩ := wave_ok 1 c1 (show s.r.1 ≤ 8 by omega) (show (0 : Int) ≤ 1 by omega) (show (1 : Int) ≤ 65536 by omega)
        have vl := v1.len_le
        have hwr : writeS s (s.r.1, waveL 1 s.r.1.toNat (Int.toNat 1)) = (zeroSt, 9) := by
          unfold writeS
          rw [if_pos ⟨play_is hE.ok hd1, (bkOK_iff _ _).2 v1⟩, if_pos rfl, if_pos (by omega)]
        obtain ⟨q1, q2⟩ := mul_bd (show 0 ≤ s.r.1 by omega) (show s.r.1 ≤ 8 by omega) p2 (show n % 40 ≤ 40 by omega)
        have hrl : (List.replicate (s.r.1 * (n % 40)).toNat (0 : Int)).length = (s.r.1 * (n % 40)).toNat := List.length_replicate
        rw [hf75, Option.bind_some, s24 hk 1 s.r.1 1 (by omega) (by omega) (by omega), Option.bind_some, s72 hk s hsh _ (by simp only; omega), hwr, Option.bind_some]
        simp only [rt]
        rw [ends_loop hk _ _ n 0 0 9 (List.replicate (s.r.1 * (n % 40)).toNat 0) (by rw [hrl]; omega) (fun x hx => (List.mem_replicate.1 hx).2)]
        simp only [beq_self_eq_true, cond_true]
        rw [same74' hk hE.ok, Option.bind_some, cond_true]
        obtain ⟨o1, o2⟩ := BkOK.mk' c1 (show s.r.1 ≤ 8 by omega) (d := List.replicate (s.r.1 * (n % 40)).toNat (0 : Int)) (w := n % 40) (by rw [hrl, Int.toNat_of_nonneg q1, Int.mul_comm]) (by omega) (fun x hx => by
          have := (List.mem_replicate.1 hx).2; subst this; unfold isS; omega)
        rw [s47 hk o1, o2, Option.bind_some, p1]
        simp
    rcases ended_again hE (IntKind.wrap .i64 (Int.tmod cmd 9)) with ⟨g1, g2⟩ | ⟨g1, g2⟩
    · have hr6 : rt (doS s (IntKind.wrap .i64 (Int.tmod cmd 9))) = ((doS s (IntKind.wrap .i64 (Int.tmod cmd 9))).1.t, 0) := by unfold rt; rw [g1]
      have hr6s : (doS s (IntKind.wrap .i64 (Int.tmod cmd 9))).1.t.2.1 = 7 := g2
      rw [hr6]
      simp only [beq_self_eq_true, bne_self_eq_false, cond_true, cond_false, hr6s]
      exact hrest
    · obtain ⟨e, hee⟩ : ∃ e, e = (doS s (IntKind.wrap .i64 (Int.tmod cmd 9))).2 := ⟨_, rfl⟩
      have hr6 : rt (doS s (IntKind.wrap .i64 (Int.tmod cmd 9))) = ((doS s (IntKind.wrap .i64 (Int.tmod cmd 9))).1.t, e) := by unfold rt; rw [hee]
      rw [← hee] at g1
      have hr6s : (doS s (IntKind.wrap .i64 (Int.tmod cmd 9))).1.t.2.1 = 0 := g2
      have z1 : (e != 0) = true := by simpa using g1
      rw [hr6]
      simp only [c_ne g1, z1, bne_self_eq_false, cond_true, cond_false, hr6s]
      exact hrest
  · have h9 : (doS s0 c).2 = 9 := by
      rw [doS_n s0 c (by omega) (by omega), if_pos ((stOK_iff s0).2 hsm.ok)] at he ⊢
      split at he
      · simp at he
      · rename_i h1; rw [if_neg h1]
    simp only [rt, h9]
    rfl
theorem plain10 (x : argsI [.val false (.sl (.int .u8)), .val false (.int .u8), .val false (.int .u8)]) (h : WFAs _ x) : f10 fuel x = some true := by
  obtain ⟨seeds, cmd, n⟩ := x
  exact law10 big_fuel sane20 seeds (D8_of h.1) cmd n (u8_of h.2.1) (u8_of h.2.2)
end Go.Proofs.YtbfkfobfhjgphaaGreat.Sp
