/- The abstract evaluator: an operation yields the same wherever what it reads is the same. -/
import Derived.Test.YtbfkfobfhjgphaaGreatPevP
set_option linter.unusedVariables false
set_option linter.unusedSimpArgs false
namespace Go.Pev
open Go

section
variable {P : Program} {TAB : TypeId → Option TI} {EQ : TypeId → Option (List Ty)} {E : Env} {st st2 : AS} {o : Oper}

theorem appendK_frame {d : Nat} {e : TypeId} {te : TI} {s : SV} {ys : List te.ty.I} {v : AV} {us : List (Nat × Blk)} (hH : ∀ id ∈ rowIds [s], st2.H id = st.H id)
    (h : opK.appendK st d e te s ys (fun v us => some (v, us)) = some (v, us)) : opK.appendK st2 d e te s ys (fun v us => some (v, us)) = some (v, us) := by
  cases s with
  | row id => simp only [opK.appendK, hH id (by simp [rowIds])] at h ⊢; exact h
  | _ => exact h

theorem op_frame (hT : TabOK P TAB) (hE : EnvNat E) (hev : ∀ x ∈ o.op.operands.toList, evalO st2 x = evalO st x) {v : AV} {us : List (Nat × Blk)} (h : opK TAB EQ E st o (fun v us => some (v, us)) = some (v, us))
    (hH : ∀ id ∈ hreads st o ++ us.map (·.1), st2.H id = st.H id) : opK TAB EQ E st2 o (fun v us => some (v, us)) = some (v, us) := by
  have hr : ∀ id ∈ hreads st o, st2.H id = st.H id := fun id hid => hH id (List.mem_append.2 (.inl hid))
  have hu : ∀ id ∈ us.map (·.1), st2.H id = st.H id := fun id hid => hH id (List.mem_append.2 (.inr hid))
  unfold opK at h ⊢
  unfold hreads at hr
  split at h
  case h_1 x ho => simp only [ho] at hr hev ⊢; rw [hev x (by simp [Op.operands])]; exact h
  case h_2 x ho => simp only [ho] at hr hev ⊢; rw [hev x (by simp [Op.operands])]; exact h
  case h_3 c x y ho =>
    simp only [ho] at hr hev ⊢
    rw [hev x (by simp [Op.operands]), hev y (by simp [Op.operands]), hev c (by simp [Op.operands])]; exact h
  case h_4 t ho =>
    simp only [ho] at hr hev ⊢
    split at h
    · rename_i ti d ht hdst
      simp only [hdst, Option.toList_some] at hr ⊢
      rw [hr d (by simp)]
      exact h
    · cases h
  case h_5 t x ho =>
    simp only [ho] at hr hev ⊢
    rw [hev x (by simp [Op.operands])]
    split at h
    · rename_i cs d hx hdst
      simp only [hdst, Option.toList_some] at hr ⊢
      rw [hr d (by simp)]
      exact h
    · cases h
  case h_6 t parts ho =>
    simp only [ho] at hr hev ⊢
    have hp : ∀ p ∈ parts.toList, evalO st2 p.2 = evalO st p.2 := fun p hp => hev p.2 (by simp [Op.operands]; exact ⟨p.1, by simpa using hp⟩)
    simp only [fill_frame _ parts.toList _ hp]
    exact h
  case h_7 t len parts ho =>
    simp only [ho] at hr hev ⊢
    have hp : ∀ p ∈ parts.toList, evalO st2 p.2 = evalO st p.2 := fun p hp => hev p.2 (by simp [Op.operands]; exact ⟨p.1, by simpa using hp⟩)
    simp only [fill_frame _ parts.toList _ hp]
    split at h
    · rename_i e te d ht hdst
      simp only [hdst, Option.toList_some] at hr ⊢
      rw [hr d (by simp)]
      split at h
      · rename_i hHd
        simp only [cond_eq_ite] at h ⊢
        split at h
        · rename_i hn
          split at h
          · rename_i cs hc
            have hrows : ∀ id ∈ rowIds cs, st2.H id = st.H id := fun id hid => by
              rcases fill_rows _ _ _ _ hc id hid with h3 | h3
              · have hti : ∃ e', TAB e' = some te := by
                  unfold elemOf at ht
                  split at ht
                  · split at ht
                    · split at ht
                      · rename_i te' hte
                        cases hk : te'.tok with
                        | false => rw [hk] at ht; cases ht
                        | true =>
                          rw [hk] at ht
                          simp only [cond_true, Option.some.injEq, Prod.mk.injEq] at ht
                          exact ⟨_, by rw [hte, ht.2]⟩
                      · cases ht
                    · cases ht
                  · cases ht
                obtain ⟨e', hte⟩ := hti
                have hz0 := zero_rows hT hte
                have hz : ∀ n, rowIds (List.replicate n te.zero).flatten = [] := by
                  intro n
                  induction n with
                  | zero => rfl
                  | succ n ih => rw [List.replicate_succ, List.flatten_cons, rowIds_append, hz0, ih]; rfl
                rw [hz len] at h3
                cases h3
              · exact hr id (List.mem_append.2 (.inr h3))
            rw [if_pos hn, parseN_frame te.ty len cs hrows]
            exact h
          · cases h
        · cases h
      · cases h
    · cases h
  case h_8 t x ho =>
    simp only [ho] at hr hev ⊢
    rw [hev x (by simp [Op.operands])]
    split at h
    · rename_i ti s ht hx
      rw [hx] at hr
      simp only [loadA_frame hr]
      exact h
    · cases h
  case h_9 t x y ho =>
    simp only [ho] at hr hev ⊢
    rw [hev x (by simp [Op.operands]), hev y (by simp [Op.operands])]
    split at h
    · rename_i ti id off vs ht hx hy hdst
      rw [hx] at hr
      simp only [hdst, hr id (by simp [avPtrs])]
      exact h
    · cases h
  case h_10 op xt x y yt ho =>
    simp only [ho] at hr hev ⊢
    rw [hev x (by simp [Op.operands]), hev y (by simp [Op.operands])]; exact h
  case h_11 op t x ho =>
    simp only [ho] at hr hev ⊢
    rw [hev x (by simp [Op.operands])]; exact h
  case h_12 s t x ho =>
    simp only [ho] at hr hev ⊢
    rw [hev x (by simp [Op.operands])]; exact h
  case h_13 t x f ho =>
    simp only [ho] at hr hev ⊢
    rw [hev x (by simp [Op.operands])]; exact h
  case h_14 t x y ho =>
    simp only [ho] at hr hev ⊢
    rw [hev x (by simp [Op.operands]), hev y (by simp [Op.operands])]
    split at h
    · rename_i e te s k n ht hx hy
      rw [hx] at hr
      simp only [indexK, viewOf_frame (H := st.H) (H2 := st2.H) (e := te.ty) (s := s) hr] at h ⊢
      exact h
    · cases h
  case h_15 t l c ho =>
    simp only [ho] at hr hev ⊢
    rw [hev l (by simp [Op.operands]), hev c (by simp [Op.operands])]
    split at h
    · rename_i e te d n m ht hdst hn hm
      simp only [hdst, Option.toList_some] at hr ⊢
      rw [hr d (by simp)]
      exact h
    · cases h
  case h_16 t x lo hi mx ho =>
    simp only [ho] at hr hev ⊢
    rw [hev x (by simp [Op.operands])]
    have e1 : ∀ y ∈ lo, evalO st2 y = evalO st y := fun y hy => hev y (by rw [Option.mem_def] at hy; simp [Op.operands, hy])
    have e2 : ∀ y ∈ hi, evalO st2 y = evalO st y := fun y hy => hev y (by rw [Option.mem_def] at hy; simp [Op.operands, hy])
    have e3 : ∀ y ∈ mx, evalO st2 y = evalO st y := fun y hy => hev y (by rw [Option.mem_def] at hy; simp [Op.operands, hy])
    split at h
    · rename_i e te s ht hx
      rw [hx] at hr
      simp only [viewOf_frame (H := st.H) (H2 := st2.H) (e := te.ty) (s := s) hr, intO_frame e1, intO_frame e2, maxO_frame e3] at h ⊢
      exact h
    · cases h
  case h_17 x ix ho =>
    simp only [ho] at hr hev ⊢
    rw [hev x (by simp [Op.operands])]; exact h
  case h_18 x ho =>
    simp only [ho] at hr hev ⊢
    rw [hev x (by simp [Op.operands])]; exact h
  case h_19 f first captured ho =>
    simp only [ho] at hr hev ⊢
    rw [ptrIds_frame captured.toList (fun x hx => hev x (by simp [Op.operands]; exact .inr (by simpa using hx)))]; exact h
  case h_20 c ho =>
    simp only [ho] at hr hev ⊢
    have hargs : ∀ x ∈ c.args.toList, evalO st2 x = evalO st x := fun x hx => hev x (by simp [Op.operands, Call.operands]; exact .inr (by simpa using hx))
    have hmap : c.args.toList.map (evalO st2) = c.args.toList.map (evalO st) := List.map_congr_left hargs
    split at h
    · rename_i f hc
      simp only [hc] at hr ⊢
      have hf : evalO st2 f = evalO st f := hev f (by simp [Op.operands, Call.operands, hc])
      rw [hf, hmap]
      split at h
      · rename_i g caps d hcl hdst
        cases hpad : Nat.beq g padFn with
        | true =>
          simp only [hpad, cond_true] at h ⊢
          unfold padK at h ⊢
          split at h
          · rename_i cc id n hargs hHd
            obtain ⟨xs, h1, h2, h3, h4⟩ := padRow_cases h
            simp only [Option.some.injEq, Prod.mk.injEq] at h4
            obtain ⟨rfl, rfl⟩ := h4
            have g1 := hu id (by simp)
            have g2 := hu d (by simp)
            rw [hHd] at g2
            simp only [g2, hargs]
            exact padRow_of (by rw [g1]; exact h1) h2 h3 _
          · cases h
        | false =>
        simp only [hpad, cond_false] at h ⊢
        unfold callK at h ⊢
        have hcaps : avPtrs (evalO st f) = caps := by
          unfold closeIds at hcl
          split at hcl
          · rename_i f' ids' e
            injection hcl with hcl
            simp only [Prod.mk.injEq] at hcl
            rw [e]
            exact hcl.2
          · cases hcl
        have a1 : argsOf st2.H (c.args.toList.map (evalO st)) = argsOf st.H (c.args.toList.map (evalO st)) := argsOf_frame _ (fun id hid => hr id (List.mem_append.2 (.inr (by
          obtain ⟨v', hv', hi⟩ := List.mem_flatMap.1 hid
          obtain ⟨x, hx, rfl⟩ := List.mem_map.1 hv'
          exact List.mem_flatMap.2 ⟨x, hx, hi⟩))))
        have a2 : boxesOf st2.H caps = boxesOf st.H caps := boxesOf_frame caps (fun i hi => hr i (List.mem_append.2 (.inl (by
            unfold avReads
            rw [hcaps]
            exact List.mem_append.2 (.inl (List.mem_append.2 (.inr hi))))))) (fun i hi => hr i (List.mem_append.2 (.inl (by
            unfold avReads
            rw [hcaps]
            exact List.mem_append.2 (.inr hi)))))
        rw [a1, a2]
        split at h
        · rename_i xs ids css h1 h2
          simp only [cond_eq_ite] at h ⊢
          split at h
          · rename_i hn
            rw [if_pos hn]
            obtain ⟨res, h3, h4⟩ := hE _ _ _ _ _ h
            rw [h4]
            split at h3
            · rename_i l us' bs h5 h6
              split at h3
              · rename_i av h7
                simp only [Option.some.injEq, Prod.mk.injEq] at h3
                obtain ⟨rfl, rfl⟩ := h3
                rw [importAll_frame d _ _ _ _ h5 (fun id hid => hu id (by rw [List.map_append]; exact List.mem_append.2 (.inr hid)))]
                simp only [h6, h7]
              · cases h3
            · cases h3
          · cases h
        · cases h
      · cases h
    · rename_i hc
      simp only [hc] at hr ⊢
      split at h
      · rename_i x t h1 h2
        simp only [h1, h2] at hr ⊢
        rw [hargs x (by simp [h1])]
        split at h
        · rename_i ti s ht hx
          simp only [List.flatMap_cons, List.flatMap_nil, List.append_nil, hx] at hr
          simp only [lenSV_frame (H := st.H) (H2 := st2.H) (s := s) hr] at h ⊢
          exact h
        · cases h
      · cases h
    · rename_i hc
      simp only [hc] at hr ⊢
      rw [hmap]
      exact h
    · rename_i hc
      simp only [hc] at hr ⊢
      rw [hmap]
      exact h
    · rename_i hc
      simp only [hc] at hr ⊢
      split at h
      · rename_i s x t xt d h1 h2 hdst
        simp only [h1, h2, hdst, Option.toList_some] at hr ⊢
        rw [hargs x (by simp [h1]), hargs s (by simp [h1]), hr d (by simp)]
        split at h
        · rename_i e te tx ht htx hHd
          split at h
          · rename_i k sv n hk hs hx
            simp only [cond_eq_ite] at h ⊢
            split at h
            · rename_i hn
              rw [if_pos hn]
              exact appendK_frame (fun id hid => hr id (by simp only [List.flatMap_cons, hs]; simp [avRows]; exact .inr (.inl hid))) h
            · cases h
          · rename_i e' sv xv hk hs hx
            have hv : viewOf st2.H te.ty xv = viewOf st.H te.ty xv := viewOf_frame (fun id hid => hr id (by simp only [List.flatMap_cons, hx]; simp [avRows]; exact .inr (.inr hid)))
            simp only [hv, cond_eq_ite] at h ⊢
            split at h
            · rename_i ys hys
              split at h
              · rename_i hb
                rw [if_pos hb]
                exact appendK_frame (fun id hid => hr id (by simp only [List.flatMap_cons, hs]; simp [avRows]; exact .inr (.inl hid))) h
              · cases h
            · cases h
          · cases h
        · cases h
      · cases h
    · rename_i hc
      simp only [hc] at hr ⊢
      split at h
      · rename_i y x t xt h1 h2
        simp only [h1, h2] at hr ⊢
        rw [hargs x (by simp [h1]), hargs y (by simp [h1])]
        split at h
        · rename_i e te id xv ht hy hx
          obtain ⟨e', n, ys, g1, g2, g3, g4⟩ := copyK_cases h
          simp only [Option.some.injEq, Prod.mk.injEq] at g4
          obtain ⟨rfl, rfl⟩ := g4
          refine copyK_of ?_ ?_ g3 _
          · rw [hr id (by simp only [List.flatMap_cons, hy]; simp [avRows, rowIds])]; exact g1
          · rw [← g2]
            exact viewOf_frame (fun id hid => hr id (by simp only [List.flatMap_cons, hx]; simp [avRows]; exact .inr hid))
        · cases h
      · cases h
    · cases h
  case h_21 t x f ho =>
    simp only [ho] at hr hev ⊢
    rw [hev x (by simp [Op.operands])]; exact h
  case h_22 => cases h
end
end Go.Pev
