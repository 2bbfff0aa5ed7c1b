/- The abstract evaluator: what an operation yields doesn't hang on what follows. -/
import Derived.Test.YtbfkfobfhjgphaaGreatPevE
set_option linter.unusedVariables false
set_option linter.unusedSimpArgs false
namespace Go.Pev
open Go

def EnvNat (E : Env) : Prop := ∀ g xs (R : Type) (K : Res → Option R) r, E g xs K = some r → ∃ res, K res = some r ∧ ∀ (R' : Type) (K' : Res → Option R'), E g xs K' = K' res

section
variable {TAB : TypeId → Option TI} {EQ : TypeId → Option (List Ty)} {E : Env} {st : AS}

theorem binK_cases {R : Type} {op : BinOp} {xt : TypeId} {x y : AV} {K : AV → Option R} {r : R} (h : binK EQ op xt x y K = some r) :
    ∃ v, K v = some r ∧ ∀ (R' : Type) (K' : AV → Option R'), binK EQ op xt x y K' = K' v := by
  unfold binK at h ⊢
  simp only [cond_eq_ite] at h ⊢
  split at h
  · split at h
    · split at h
      · cases h
      · rename_i hn
        exact ⟨_, h, fun R' K' => by rw [if_neg hn]⟩
    · split at h
      · cases h
      · rename_i hn
        exact ⟨_, h, fun R' K' => by rw [if_neg hn]⟩
    · split at h
      · rename_i hk
        split at h
        · exact ⟨_, h, fun R' K' => by simp [hk]⟩
        · exact ⟨_, h, fun R' K' => by simp [hk]⟩
        · exact ⟨_, h, fun R' K' => by simp [hk]⟩
        · split at h
          · cases h
          · rename_i hn; exact ⟨_, h, fun R' K' => by simp only [hk, if_true, if_neg hn]⟩
        · split at h
          · cases h
          · rename_i hn; exact ⟨_, h, fun R' K' => by simp only [hk, if_true, if_neg hn]⟩
        · split at h
          · rename_i hb; exact ⟨_, h, fun R' K' => by simp only [hk, if_true, hb]⟩
          · cases h
        · split at h
          · rename_i hb; exact ⟨_, h, fun R' K' => by simp only [hk, if_true, hb]⟩
          · cases h
        · split at h
          · rename_i hb; exact ⟨_, h, fun R' K' => by simp only [hk, if_true, hb]⟩
          · cases h
        · split at h
          · rename_i hb; exact ⟨_, h, fun R' K' => by simp only [hk, if_true, hb]⟩
          · cases h
      · cases h
  · split at h
    · rename_i hts
      split at h
      · exact ⟨_, h, fun R' K' => by simp only [hts]⟩
      · exact ⟨_, h, fun R' K' => by simp only [hts]⟩
      · cases h
    · cases h
  · split at h
    · rename_i t ts hts
      split at h
      · split at h
        · rename_i hc; exact ⟨_, h, fun R' K' => by simp only [hts, hc]⟩
        · cases h
      · split at h
        · rename_i hc; exact ⟨_, h, fun R' K' => by simp only [hts, hc]⟩
        · cases h
      · cases h
    · cases h
  · cases h

theorem callK_cases (hE : EnvNat E) {R : Type} {dst : Nat} {f : FuncId} {args : List AV} {caps : List Nat} {K : AV → List (Nat × Blk) → Option R} {r : R} (h : callK E st dst f args caps K = some r) :
    ∃ v us, K v us = some r ∧ ∀ (R' : Type) (K' : AV → List (Nat × Blk) → Option R'), callK E st dst f args caps K' = K' v us := by
  unfold callK at h ⊢
  simp only [cond_eq_ite] at h ⊢
  split at h
  · rename_i xs ids css h1 h2
    split at h
    · rename_i hn
      obtain ⟨res, h3, h4⟩ := hE _ _ _ _ _ h
      split at h3
      · rename_i l us bs h5 h6
        split at h3
        · rename_i av h7
          exact ⟨_, _, h3, fun R' K' => by simp only [h1, h2, hn, if_true, h4, h5, h6, h7]⟩
        · cases h3
      · cases h3
    · cases h
  · cases h

theorem copyK_cases {R : Type} {te : TI} {id : Nat} {xv : SV} {K : AV → List (Nat × Blk) → Option R} {r : R} (h : copyK st te id xv K = some r) :
    ∃ e n ys, st.H id = .raw e te.ty n ∧ viewOf st.H te.ty xv = some ys ∧ te.size = 1 ∧ K (.sc (.int .i64 ((min (List.length ys) n : Nat) : Int))) [(id, .row e te.ty (List.take n ys ++ List.replicate (n - List.length ys) te.ty.dflt))] = some r := by
  unfold copyK at h
  simp only [cond_eq_ite] at h
  split at h
  · rename_i e ty n ys h1 h2
    split at h
    · rename_i ys' h3
      split at h
      · rename_i h4
        obtain ⟨rfl, rfl⟩ := castL_eq h3
        exact ⟨e, n, ys', h1, h2, Nat.eq_of_beq_eq_true h4, h⟩
      · cases h
    · cases h
  · cases h
theorem copyK_of {R : Type} {te : TI} {id : Nat} {xv : SV} {e : TypeId} {n : Nat} {ys : List te.ty.I} (h1 : st.H id = .raw e te.ty n) (h2 : viewOf st.H te.ty xv = some ys) (h3 : te.size = 1) (K : AV → List (Nat × Blk) → Option R) :
    copyK st te id xv K = K (.sc (.int .i64 ((min (List.length ys) n : Nat) : Int))) [(id, .row e te.ty (List.take n ys ++ List.replicate (n - List.length ys) te.ty.dflt))] := by
  have hc : castL te.ty te.ty ys = some ys := by simp [castL]
  have h4 : Nat.beq te.size 1 = true := by rw [h3]; rfl
  simp only [copyK, h1, h2, hc, h4, cond_true]

theorem padRow_cases {R : Type} {d id : Nat} {c n : Int} {K : AV → List (Nat × Blk) → Option R} {r : R} (h : padRow st d id c n K = some r) :
    ∃ xs : List Int, st.H id = .row padEl (.int .i32) xs ∧ 0 ≤ padCount c n xs.length ∧ (xs.length + (padCount c n xs.length).toNat) * 4 ≤ maxBytes ∧
      K (.agg [.int .i64 c, .row d]) [(id, .dead), (d, .row padEl (.int .i32) (xs ++ List.replicate (padCount c n xs.length).toNat (0 : Int)))] = some r := by
  unfold padRow at h
  simp only [cond_eq_ite] at h
  split at h
  · rename_i tid ty xs hH
    split at h
    · rename_i htid
      have e := Nat.eq_of_beq_eq_true htid
      subst e
      split at h
      · rename_i xs' hx
        split at h
        · rename_i hc
          simp only [Bool.and_eq_true, decide_eq_true_eq] at hc
          unfold castL at hx
          split at hx
          · rename_i ety
            subst ety
            injection hx with hx
            subst hx
            exact ⟨xs, hH, hc.1, hc.2, h⟩
          · cases hx
        · cases h
      · cases h
    · cases h
  · cases h
theorem padRow_of {R : Type} {d id : Nat} {c n : Int} {xs : List Int} (h1 : st.H id = .row padEl (.int .i32) xs) (h2 : 0 ≤ padCount c n xs.length) (h3 : (xs.length + (padCount c n xs.length).toNat) * 4 ≤ maxBytes) (K : AV → List (Nat × Blk) → Option R) :
    padRow st d id c n K = K (.agg [.int .i64 c, .row d]) [(id, .dead), (d, .row padEl (.int .i32) (xs ++ List.replicate (padCount c n xs.length).toNat (0 : Int)))] := by
  unfold padRow
  have hc : castL (.int .i32) (.int .i32) xs = some xs := rfl
  simp only [h1, Nat.beq_refl, cond_true, hc]
  rw [decide_eq_true h2, decide_eq_true h3]
  rfl
theorem padK_cases {R : Type} {d : Nat} {args : List AV} {caps : List Nat} {K : AV → List (Nat × Blk) → Option R} {r : R} (h : padK st d args caps K = some r) :
    ∃ v us, K v us = some r ∧ ∀ (R' : Type) (K' : AV → List (Nat × Blk) → Option R'), padK st d args caps K' = K' v us := by
  unfold padK at h ⊢
  split at h
  · rename_i c id n hd
    obtain ⟨xs, h1, h2, h3, h4⟩ := padRow_cases h
    refine ⟨_, _, h4, fun R' K' => ?_⟩
    exact padRow_of h1 h2 h3 K'
  · cases h

theorem indexK_cases {R : Type} {e : Ty} {x : SV} {i : Int} {K : AV → Option R} {r : R} (h : indexK st e x i K = some r) :
    ∃ v, K v = some r ∧ ∀ (R' : Type) (K' : AV → Option R'), indexK st e x i K' = K' v := by
  unfold indexK at h ⊢
  simp only [cond_eq_ite] at h ⊢
  split at h
  · rename_i xs h1
    split at h
    · rename_i hn; exact ⟨_, h, fun R' K' => by simp only [h1, hn, if_true]⟩
    · cases h
  · cases h

theorem appendK_cases {R : Type} {d : Nat} {e : TypeId} {te : TI} {s : SV} {ys : List te.ty.I} {K : AV → List (Nat × Blk) → Option R} {r : R} (h : opK.appendK st d e te s ys K = some r) :
    ∃ v us, K v us = some r ∧ ∀ (R' : Type) (K' : AV → List (Nat × Blk) → Option R'), opK.appendK st d e te s ys K' = K' v us := by
  unfold opK.appendK at h ⊢
  simp only [cond_eq_ite] at h ⊢
  split at h
  · rename_i h0
    split at h
    · split at h
      · rename_i hn; exact ⟨_, _, h, fun R' K' => by simp only [h0, hn, if_true]⟩
      · cases h
    · split at h
      · rename_i h1
        split at h
        · rename_i h2
          split at h
          · rename_i h3
            split at h
            · rename_i hn; exact ⟨_, _, h, fun R' K' => by simp only [h0, h1, h2, h3, hn, if_true]⟩
            · cases h
          · cases h
        · cases h
      · cases h
    · cases h
  · cases h

/-- What an operation yields, whatever follows. -/
theorem op_cases (hE : EnvNat E) {R : Type} {o : Oper} {K : AV → List (Nat × Blk) → Option R} {r : R} (h : opK TAB EQ E st o K = some r) :
    ∃ v us, K v us = some r ∧ ∀ (R' : Type) (K' : AV → List (Nat × Blk) → Option R'), opK TAB EQ E st o K' = K' v us := by
  unfold opK at h ⊢
  simp only [cond_eq_ite] at h ⊢
  split at h
  case h_1 => exact ⟨_, _, h, fun R' K' => by simp only [*]⟩
  case h_2 => exact ⟨_, _, h, fun R' K' => by simp only [*]⟩
  case h_3 =>
    split at h
    · split at h
      · exact ⟨_, _, h, fun R' K' => by simp only [*, if_true]⟩
      · exact ⟨_, _, h, fun R' K' => by simp [*]⟩
    · cases h
  all_goals (repeat' (split at h))
  all_goals first
    | (cases h; done)
    | (with_reducible have hh := copyK_cases h; obtain ⟨e, n, ys, h1, h2, h3, h4⟩ := hh; refine ⟨_, _, h4, fun R' K' => ?_⟩; exact copyK_of h1 h2 h3 K')
    | (with_reducible have hh := appendK_cases h; obtain ⟨v, us, h1, h2⟩ := hh; exact ⟨v, us, h1, fun R' K' => by simp only [*, if_true]⟩)
    | exact ⟨_, _, h, fun R' K' => by simp only [*, if_true, if_false, Bool.false_eq_true]⟩
    | (with_reducible have hh := binK_cases h; obtain ⟨v, h1, h2⟩ := hh; exact ⟨v, [], h1, fun R' K' => by simp only [*]⟩)
    | (with_reducible have hh := indexK_cases h; obtain ⟨v, h1, h2⟩ := hh; exact ⟨v, [], h1, fun R' K' => by simp only [*]⟩)
    | (with_reducible have hh := padK_cases h; obtain ⟨v, us, h1, h2⟩ := hh; exact ⟨v, us, h1, fun R' K' => by simp only [*, if_true]⟩)
    | (with_reducible have hh := callK_cases hE h; obtain ⟨v, us, h1, h2⟩ := hh; exact ⟨v, us, h1, fun R' K' => by simp only [*, if_true, if_false, Bool.false_eq_true]⟩)
end
end Go.Pev
