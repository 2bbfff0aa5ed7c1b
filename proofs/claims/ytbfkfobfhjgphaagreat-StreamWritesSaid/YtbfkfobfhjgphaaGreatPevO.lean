/- The abstract evaluator: each operation that it carries out is the machine's. -/
import Derived.Test.YtbfkfobfhjgphaaGreatPevN
set_option linter.unusedVariables false
set_option linter.unusedSimpArgs false
namespace Go.Pev
open Go

section
variable {C : Ctx} {o : Oper} {st : AS} {TAB : TypeId → Option TI} {EQ : TypeId → Option (List Ty)} {E : Env}

theorem callK_sound (hE : EnvOK C.P E) (hd : ∀ d, o.dst = some d → d < C.n) {c : Call} (ho : o.op = .call c) {f : Operand} (hc : c.callee = .value f) {g : FuncId} {caps : List Nat} (hf : closeIds (evalO st f) = some (g, caps)) {d : Nat} (hdst : o.dst = some d)
    {v : AV} {us : List (Nat × Blk)} (h : callK E st d g (c.args.toList.map (evalO st)) caps (fun v us => some (v, us)) = some (v, us)) : OpOK C o st v us := by
  unfold callK at h
  simp only [cond_eq_ite] at h
  split at h
  · rename_i xs ids css h1 h2
    split at h
    · rename_i hn
      obtain ⟨res, h3, _, h4⟩ := hE.1 _ _ _ _ _ h
      split at h3
      · rename_i l us' bs h5 h6
        split at h3
        · rename_i av h7
          simp only [Option.some.injEq, Prod.mk.injEq] at h3
          obtain ⟨rfl, rfl⟩ := h3
          exact ok_call hd ho hc hf hdst h1 h2 hn h4 h5 h6 h7
        · cases h3
      · cases h3
    · cases h
  · cases h

theorem appendK_sound (hT : TabOK C.P TAB) (hd : ∀ d, o.dst = some d → d < C.n) {c : Call} (ho : o.op = .call c) (hc : c.callee = .builtin .append) {s x : Operand} {t xt : TypeId} (h1 : c.args.toList = [s, x]) (h2 : c.argTypes.toList = [t, xt])
    {e : TypeId} {te : TI} (ht : elemOf TAB t = some (e, te)) {d : Nat} (hdst : o.dst = some d) (hH : st.H d = .none) {sv : SV} (hsv : evalO st s = .sc sv) {ys : List te.ty.I} (hsrc : ((ys.length : Int) * te.bytes ≤ maxBytes) → SrcOK C st xt x te ys)
    {v : AV} {us : List (Nat × Blk)} (h : opK.appendK st d e te sv ys (fun v us => some (v, us)) = some (v, us)) : OpOK C o st v us := by
  unfold opK.appendK at h
  simp only [cond_eq_ite] at h
  split at h
  · rename_i h0
    rw [Bool.and_eq_true] at h0
    have hsz : 0 < te.size := by simpa [Nat.blt_eq] using h0.1
    split at h
    · split at h
      · rename_i hn
        simp only [Bool.and_eq_true, decide_eq_true_eq] at hn
        simp only [Option.some.injEq, Prod.mk.injEq] at h
        obtain ⟨rfl, rfl⟩ := h
        exact ok_appendNil hd hT ho hc h1 h2 ht hdst hH hsv (hsrc (by rw [← Int.natCast_mul]; exact Int.ofNat_le.2 hn.1)) (by rw [← Int.natCast_mul]; exact Int.ofNat_le.2 hn.1) (by have := hn.2; omega) hsz
      · cases h
    · rename_i id
      split at h
      · rename_i tid e' xs hid
        split at h
        · rename_i hb
          have htid := Nat.eq_of_beq_eq_true hb
          subst htid
          split at h
          · rename_i xs' hx
            obtain ⟨rfl, rfl⟩ := castL_eq hx
            split at h
            · rename_i hn
              simp only [Bool.and_eq_true, decide_eq_true_eq] at hn
              simp only [Option.some.injEq, Prod.mk.injEq] at h
              obtain ⟨rfl, rfl⟩ := h
              have h3 := hn.1
              refine ok_appendRow hd hT ho hc h1 h2 ht hdst hH hsv hid (hsrc ?_) ?_ ?_ hsz
              · have h4 := Nat.le_trans (Nat.mul_le_mul_right _ (Nat.le_add_left _ _)) h3
                rw [← Int.natCast_mul]
                exact Int.ofNat_le.2 h4
              · rw [← Int.natCast_add, ← Int.natCast_mul]
                exact Int.ofNat_le.2 h3
              · have := hn.2
                omega
            · cases h
          · cases h
        · cases h
      · cases h
    · cases h
  · cases h

theorem op_sound (hT : TabOK C.P TAB) (hQ : EqOK C.P EQ) (hE : EnvOK C.P E) (hd : ∀ d, o.dst = some d → d < C.n) {v : AV} {us : List (Nat × Blk)} (h : opK TAB EQ E st o (fun v us => some (v, us)) = some (v, us)) : OpOK C o st v us := by
  unfold opK at h
  simp only [cond_eq_ite] at h
  split at h
  case h_1 x ho =>
    simp only [Option.some.injEq, Prod.mk.injEq] at h
    obtain ⟨rfl, rfl⟩ := h
    exact ok_move hd (.inl ho)
  case h_2 x ho =>
    simp only [Option.some.injEq, Prod.mk.injEq] at h
    obtain ⟨rfl, rfl⟩ := h
    exact ok_move hd (.inr ho)
  case h_3 c x y ho =>
    split at h
    · rename_i b hc
      have := ok_pick hd ho hc
      cases b <;> simp only [if_true, if_false, Bool.false_eq_true, Option.some.injEq, Prod.mk.injEq] at h this <;> obtain ⟨rfl, rfl⟩ := h <;> exact this
    · cases h
  case h_4 t ho =>
    split at h
    · rename_i ti d ht hdst
      split at h
      · rename_i hH
        simp only [Option.some.injEq, Prod.mk.injEq] at h
        obtain ⟨rfl, rfl⟩ := h
        exact ok_alloc hd hT ho ht hdst hH
      · cases h
    · cases h
  case h_5 t x ho =>
    split at h
    · rename_i cs d hx hdst
      split at h
      · rename_i hH
        simp only [Option.some.injEq, Prod.mk.injEq] at h
        obtain ⟨rfl, rfl⟩ := h
        exact ok_box hd ho hx hdst hH
      · cases h
    · cases h
  case h_6 t parts ho =>
    split at h
    · rename_i ti ht
      split at h
      · rename_i fs hf
        split at h
        · rename_i hfs
          split at h
          · rename_i cs hc
            simp only [Option.some.injEq, Prod.mk.injEq] at h
            obtain ⟨rfl, rfl⟩ := h
            exact ok_build hd hT ho ht hf hc hfs
          · cases h
        · cases h
      · cases h
    · cases h
  case h_7 t len parts ho =>
    split at h
    · rename_i e te d ht hdst
      split at h
      · rename_i hH
        split at h
        · rename_i hn
          rw [Bool.and_eq_true] at hn
          split at h
          · rename_i cs hc
            split at h
            · rename_i xs hx
              simp only [Option.some.injEq, Prod.mk.injEq] at h
              obtain ⟨rfl, rfl⟩ := h
              exact ok_buildSlice hd hT ho ht hdst hH (Nat.le_of_ble_eq_true hn.1) (by simpa [Nat.blt_eq] using hn.2) hc hx
            · cases h
          · cases h
        · cases h
      · cases h
    · cases h
  case h_8 t x ho =>
    split at h
    · rename_i ti s ht hx
      split at h
      · rename_i cs hl
        split at h
        · rename_i v' hv
          simp only [Option.some.injEq, Prod.mk.injEq] at h
          obtain ⟨rfl, rfl⟩ := h
          exact ok_load hd hT ho ht hx hl hv
        · cases h
      · cases h
    · cases h
  case h_9 t x y ho =>
    split at h
    · rename_i ti id off vs ht hx hy hdst
      split at h
      · rename_i cs hH
        split at h
        · rename_i hn
          rw [Bool.and_eq_true] at hn
          simp only [Option.some.injEq, Prod.mk.injEq] at h
          obtain ⟨rfl, rfl⟩ := h
          exact ok_store hd hT ho ht hx hy hH (Nat.eq_of_beq_eq_true hn.1) (Nat.le_of_ble_eq_true hn.2) hdst
        · cases h
      · cases h
    · cases h
  case h_10 op xt x y yt ho =>
    obtain ⟨v', h1, h2⟩ := binK_cases h
    simp only [Option.some.injEq, Prod.mk.injEq] at h1
    obtain ⟨rfl, rfl⟩ := h1
    exact ok_bin hd hQ ho (h2 _ _)
  case h_11 op t x ho =>
    split at h
    · rename_i b hx
      simp only [Option.some.injEq, Prod.mk.injEq] at h
      obtain ⟨rfl, rfl⟩ := h
      exact ok_not hd ho hx
    · rename_i k n hx
      simp only [Option.some.injEq, Prod.mk.injEq] at h
      obtain ⟨rfl, rfl⟩ := h
      exact ok_neg hd ho hx
    · cases h
  case h_12 s t x ho =>
    split at h
    · rename_i ts ti k' n h1 h2 hx
      split at h
      · rename_i k hk
        simp only [Option.some.injEq, Prod.mk.injEq] at h
        obtain ⟨rfl, rfl⟩ := h
        exact ok_convert hd hT ho h1 h2 hx hk
      · cases h
    · cases h
  case h_13 t x f ho =>
    split at h
    · rename_i ti s ht hx
      split at h
      · rename_i fs hf
        split at h
        · rename_i off sz hfs
          split at h
          · rename_i hsz
            have hsz' : 0 < sz := by simpa [Nat.blt_eq] using hsz
            split at h
            · simp only [Option.some.injEq, Prod.mk.injEq] at h
              obtain ⟨rfl, rfl⟩ := h
              exact ok_fieldPtr hd hT ho ht hf hfs hsz' hx
            · simp only [Option.some.injEq, Prod.mk.injEq] at h
              obtain ⟨rfl, rfl⟩ := h
              exact ok_fieldEl hd hT ho ht hf hfs hsz' hx
            · cases h
          · cases h
        · cases h
      · cases h
    · cases h
  case h_14 t x y ho =>
    split at h
    · rename_i e te s k n ht hx hy
      unfold indexK at h
      simp only [cond_eq_ite] at h
      split at h
      · rename_i xs hv
        split at h
        · rename_i hn
          simp only [Bool.and_eq_true, decide_eq_true_eq] at hn
          simp only [Option.some.injEq, Prod.mk.injEq] at h
          obtain ⟨rfl, rfl⟩ := h
          exact ok_index hd hT ho ht hx hy hv hn.1 hn.2
        · cases h
      · cases h
    · cases h
  case h_15 t l c ho =>
    split at h
    · rename_i e te d n m ht hdst hn hm
      split at h
      · rename_i hH
        split at h
        · rename_i hc
          simp only [Bool.and_eq_true, decide_eq_true_eq, Nat.blt_eq] at hc
          obtain ⟨⟨⟨⟨c1, c2⟩, c3⟩, c4⟩, c5⟩ := hc
          split at h
          · simp only [Option.some.injEq, Prod.mk.injEq] at h
            obtain ⟨rfl, rfl⟩ := h
            exact ok_makeRaw hd hT ho ht hdst hH hn hm c1 c2 c3 c4 c5
          · simp only [Option.some.injEq, Prod.mk.injEq] at h
            obtain ⟨rfl, rfl⟩ := h
            exact ok_make hd hT ho ht hdst hH hn hm c1 c2 c3 c4 c5
        · cases h
      · cases h
    · cases h
  case h_16 t x lo hi mx ho =>
    split at h
    · rename_i e te s ht hx
      split at h
      · rename_i xs hv
        split at h
        · rename_i hh l h1 h2
          split at h
          · rename_i m h3
            split at h
            · rename_i hc
              simp only [Bool.and_eq_true, decide_eq_true_eq] at hc
              simp only [Option.some.injEq, Prod.mk.injEq] at h
              obtain ⟨rfl, rfl⟩ := h
              obtain ⟨⟨⟨c1, c2⟩, c3⟩, c4⟩ := hc
              exact ok_slice hd hT ho ht hx hv h1 h2 h3 c1 c2 c3 c4
            · cases h
          · cases h
        · cases h
      · cases h
    · cases h
  case h_17 x ix ho =>
    split at h
    · rename_i l hx
      split at h
      · rename_i b cs hl
        split at h
        · rename_i v' hv
          simp only [Option.some.injEq, Prod.mk.injEq] at h
          obtain ⟨rfl, rfl⟩ := h
          exact ok_extract hd ho hx hl hv
        · cases h
      · cases h
    · cases h
  case h_18 x ho =>
    split at h
    · rename_i id off hx
      simp only [Option.some.injEq, Prod.mk.injEq] at h
      obtain ⟨rfl, rfl⟩ := h
      exact ok_nil hd ho hx
    · cases h
  case h_19 f first captured ho =>
    split at h
    · rename_i ids hf hc
      simp only [Option.some.injEq, Prod.mk.injEq] at h
      obtain ⟨rfl, rfl⟩ := h
      exact ok_makeFunc hd ho hf hc
    · cases h
  case h_20 c ho =>
    split at h
    · rename_i f hc
      split at h
      · rename_i g caps d hf hdst
        split at h
        · rename_i hpad
          have e := Nat.eq_of_beq_eq_true hpad
          subst e
          unfold padK at h
          split at h
          · rename_i cc id n hargs hH
            obtain ⟨xs, h1, h2, h3, h4⟩ := padRow_cases h
            simp only [Option.some.injEq, Prod.mk.injEq] at h4
            obtain ⟨rfl, rfl⟩ := h4
            exact ok_pad hE.2 hd ho hc hf hdst hH hargs h1 h2 h3
          · cases h
        · exact callK_sound hE hd ho hc hf hdst h
      · cases h
    · rename_i hc
      split at h
      · rename_i x t h1 h2
        split at h
        · rename_i ti s ht hx
          split at h
          · rename_i e he
            split at h
            · rename_i n hn
              simp only [Option.some.injEq, Prod.mk.injEq] at h
              obtain ⟨rfl, rfl⟩ := h
              exact ok_len hd hT ho hc h1 h2 ht he hx hn
            · cases h
          · cases h
        · cases h
      · cases h
    · rename_i hc
      split at h
      · rename_i k a0 r h1
        split at h
        · rename_i n hn
          simp only [Option.some.injEq, Prod.mk.injEq] at h
          obtain ⟨rfl, rfl⟩ := h
          exact ok_min hd false ho hc h1 hn
        · cases h
      · cases h
    · rename_i hc
      split at h
      · rename_i k a0 r h1
        split at h
        · rename_i n hn
          simp only [Option.some.injEq, Prod.mk.injEq] at h
          obtain ⟨rfl, rfl⟩ := h
          exact ok_min hd true ho hc h1 hn
        · cases h
      · cases h
    · rename_i hc
      split at h
      · rename_i s x t xt d h1 h2 hdst
        split at h
        · rename_i e te tx ht htx hH
          obtain ⟨_, hte, htok⟩ := elemOf_ok hT ht
          obtain ⟨_, _, _, _, _, _, _, g6⟩ := hte.info
          have hsz7 := (g6 htok).1
          split at h
          · rename_i k sv n hk hs hx
            split at h
            · rename_i hn
              simp only [Bool.and_eq_true, decide_eq_true_eq] at hn
              refine appendK_sound hT hd ho hc h1 h2 ht hdst hH hs (fun hb => ?_) h
              have hsz : 0 < te.size := by
                rw [← hsz7]
                have : ∀ t : Ty, 0 < t.size := by
                  intro t
                  induction t with
                  | pair a b iha ihb => simp only [Ty.size]; omega
                  | _ => simp [Ty.size]
                exact this _
              refine SrcOK.zeros hT htx hk hx hn.1 hn.2 ?_ hsz7 hsz
              rw [List.length_replicate, Int.toNat_of_nonneg hn.1] at hb
              unfold maxBytes at hb
              omega
            · cases h
          · rename_i e' sv xv hk hs hx
            split at h
            · rename_i ys hv
              split at h
              · rename_i hb
                exact appendK_sound hT hd ho hc h1 h2 ht hdst hH hs (fun _ => SrcOK.view hT htx hk hx hv hsz7) h
              · cases h
            · cases h
          · cases h
        · cases h
      · cases h
    · rename_i hc
      split at h
      · rename_i y x t xt h1 h2
        split at h
        · rename_i e te id xv ht hy hx
          obtain ⟨e', n, ys, g1, g2, g3, g4⟩ := copyK_cases h
          simp only [Option.some.injEq, Prod.mk.injEq] at g4
          obtain ⟨rfl, rfl⟩ := g4
          exact ok_copy hd hT ho hc h1 h2 ht hy hx g1 g2 g3
        · cases h
      · cases h
    · cases h
  case h_21 t x f ho =>
    split at h
    · rename_i ti cs ht hx
      split at h
      · rename_i fs hf
        split at h
        · rename_i off sz hfs
          split at h
          · rename_i s hcs
            split at h
            · rename_i hn
              rw [Bool.and_eq_true] at hn
              simp only [Option.some.injEq, Prod.mk.injEq] at h
              obtain ⟨rfl, rfl⟩ := h
              have hsz := Nat.eq_of_beq_eq_true hn.2
              subst hsz
              exact ok_field hd hT ho ht hf hn.1 hfs hx hcs
            · cases h
          · cases h
        · cases h
      · cases h
    · cases h
  case h_22 => cases h
end
end Go.Pev
