/- The abstract evaluator: an operation hangs on nothing but the slots, boxes and rows that it reads. -/
import Derived.Test.YtbfkfobfhjgphaaGreatPevO
set_option linter.unusedVariables false
set_option linter.unusedSimpArgs false
namespace Go.Pev
open Go

theorem evalO_frame {st st2 : AS} {x : Operand} (h : ∀ t ∈ opTmps x, st2.T t = st.T t) : evalO st2 x = evalO st x := by
  cases x with
  | tmp t => exact h t (by simp [opTmps])
  | _ => rfl

theorem viewOf_frame {H H2 : Nat → Blk} {e : Ty} {s : SV} (h : ∀ id ∈ rowIds [s], H2 id = H id) : viewOf H2 e s = viewOf H e s := by
  cases s with
  | row id => simp only [viewOf, h id (by simp [rowIds])]
  | _ => rfl

theorem rowIds_cons (s : SV) (r : List SV) : rowIds (s :: r) = rowIds [s] ++ rowIds r := by cases s <;> simp [rowIds]
theorem rowIds_append : ∀ (l m : List SV), rowIds (l ++ m) = rowIds l ++ rowIds m
  | [], m => rfl
  | s :: l, m => by rw [List.cons_append, rowIds_cons, rowIds_append l m, ← List.append_assoc, ← rowIds_cons]

theorem parse_suffix (H : Nat → Blk) : ∀ (t : Ty) (cs : List SV) (x : t.I) (r : List SV), parse H t cs = some (x, r) → ∃ p, cs = p ++ r
  | .int k, s :: r', x, r, h => by
    cases s <;> simp only [parse, cond_eq_ite] at h <;> try (cases h; done)
    split at h
    · simp only [Option.some.injEq, Prod.mk.injEq] at h; exact ⟨[_], by rw [h.2]; rfl⟩
    · cases h
  | .bool, s :: r', x, r, h => by
    cases s <;> simp only [parse] at h <;> try (cases h; done)
    simp only [Option.some.injEq, Prod.mk.injEq] at h; exact ⟨[_], by rw [h.2]; rfl⟩
  | .str, s :: r', x, r, h => by
    cases s <;> simp only [parse] at h <;> try (cases h; done)
    simp only [Option.some.injEq, Prod.mk.injEq] at h; exact ⟨[_], by rw [h.2]; rfl⟩
  | .pair a b, cs, x, r, h => by
    simp only [parse] at h
    split at h
    · rename_i y l hy
      split at h
      · rename_i z l' hz
        simp only [Option.some.injEq, Prod.mk.injEq] at h
        obtain ⟨p, rfl⟩ := parse_suffix H a cs y l hy
        obtain ⟨q, rfl⟩ := parse_suffix H b l z l' hz
        exact ⟨p ++ q, by rw [h.2, List.append_assoc]⟩
      · cases h
    · cases h
  | .sl e, s :: r', x, r, h => by
    simp only [parse] at h
    split at h
    · simp only [Option.some.injEq, Prod.mk.injEq] at h; exact ⟨[_], by rw [h.2]; rfl⟩
    · cases h
  | .int k, [], _, _, h => by simp [parse] at h
  | .bool, [], _, _, h => by simp [parse] at h
  | .str, [], _, _, h => by simp [parse] at h
  | .sl e, [], _, _, h => by simp [parse] at h

theorem parse_frame {H H2 : Nat → Blk} : ∀ (t : Ty) (cs : List SV), (∀ id ∈ rowIds cs, H2 id = H id) → parse H2 t cs = parse H t cs
  | .int k, cs, h => by cases cs with | nil => rfl | cons s r => cases s <;> rfl
  | .bool, cs, h => by cases cs with | nil => rfl | cons s r => cases s <;> rfl
  | .str, cs, h => by cases cs with | nil => rfl | cons s r => cases s <;> rfl
  | .pair a b, cs, h => by
    simp only [parse, parse_frame a cs h]
    split
    · rename_i x l hx
      obtain ⟨p, rfl⟩ := parse_suffix H a cs x l hx
      rw [parse_frame b l (fun id hid => h id (by rw [rowIds_append]; exact List.mem_append.2 (.inr hid)))]
    · rfl
  | .sl e, cs, h => by
    cases cs with
    | nil => rfl
    | cons s r => simp only [parse, viewOf_frame (H := H) (H2 := H2) (e := e) (s := s) (fun id hid => h id (by rw [rowIds_cons]; exact List.mem_append.2 (.inl hid)))]

theorem parseN_frame {H H2 : Nat → Blk} (t : Ty) : ∀ (n : Nat) (cs : List SV), (∀ id ∈ rowIds cs, H2 id = H id) → parseN H2 t n cs = parseN H t n cs
  | 0, _, _ => rfl
  | n + 1, cs, h => by
    simp only [parseN, parse_frame t cs h]
    split
    · rename_i x l hx
      obtain ⟨p, rfl⟩ := parse_suffix H t cs x l hx
      rw [parseN_frame t n l (fun id hid => h id (by rw [rowIds_append]; exact List.mem_append.2 (.inr hid)))]
    · rfl

theorem resolveAll_frame {H H2 : Nat → Blk} : ∀ (cs : List SV), (∀ id ∈ rowIds cs, H2 id = H id) → resolveAll H2 cs = resolveAll H cs
  | [], _ => rfl
  | s :: r, h => by
    have h1 : resolveSV H2 s = resolveSV H s := by
      cases s with
      | row id => simp only [resolveSV, h id (by simp [rowIds])]
      | _ => rfl
    simp only [resolveAll, h1, resolveAll_frame r (fun id hid => h id (by rw [rowIds_cons]; exact List.mem_append.2 (.inr hid)))]

theorem boxOf_frame {H H2 : Nat → Blk} {id : Nat} (h : H2 id = H id) (hr : ∀ i ∈ boxRows H id, H2 i = H i) : boxOf H2 id = boxOf H id := by
  unfold boxOf
  rw [h]
  split
  · rename_i cs hc
    exact resolveAll_frame cs (fun i hi => hr i (by unfold boxRows; rw [hc]; exact hi))
  · rfl
theorem boxesOf_frame {H H2 : Nat → Blk} : ∀ (ids : List Nat), (∀ i ∈ ids, H2 i = H i) → (∀ i ∈ ids.flatMap (boxRows H), H2 i = H i) → boxesOf H2 ids = boxesOf H ids
  | [], _, _ => rfl
  | i :: r, h, hr => by
    simp only [boxesOf, boxOf_frame (h i (by simp)) (fun j hj => hr j (List.mem_flatMap.2 ⟨i, by simp, hj⟩)),
      boxesOf_frame r (fun j hj => h j (List.mem_cons_of_mem _ hj)) (fun j hj => by obtain ⟨x, hx, hj⟩ := List.mem_flatMap.1 hj; exact hr j (List.mem_flatMap.2 ⟨x, List.mem_cons_of_mem _ hx, hj⟩))]

theorem argOf_frame {H H2 : Nat → Blk} {v : AV} (h : ∀ id ∈ avReads H v, H2 id = H id) : argOf H2 v = argOf H v := by
  have hr : ∀ id ∈ avRows v, H2 id = H id := fun id hid => h id (List.mem_append.2 (.inl (List.mem_append.2 (.inl hid))))
  have hp : ∀ id ∈ avPtrs v, H2 id = H id := fun id hid => h id (List.mem_append.2 (.inl (List.mem_append.2 (.inr hid))))
  have hb : ∀ id ∈ (avPtrs v).flatMap (boxRows H), H2 id = H id := fun id hid => h id (List.mem_append.2 (.inr hid))
  cases v with
  | tup as => rfl
  | agg cs => simp only [argOf, resolveAll_frame cs hr]
  | sc s =>
    cases s with
    | ptr id off =>
      cases off with
      | zero => simp only [argOf, boxOf_frame (hp id (by simp [avPtrs])) (fun i hi => hb i (by simpa [avPtrs] using hi))]
      | succ n => rfl
    | clo f ids => simp only [argOf, boxesOf_frame ids hp hb]
    | row id => simp only [argOf, resolveSV, hr id (by simp [avRows, rowIds])]
    | _ => rfl

theorem argsOf_frame {H H2 : Nat → Blk} : ∀ (l : List AV), (∀ id ∈ l.flatMap (avReads H), H2 id = H id) → argsOf H2 l = argsOf H l
  | [], _ => rfl
  | v :: r, h => by
    simp only [argsOf, argOf_frame (fun id hid => h id (List.mem_flatMap.2 ⟨v, by simp, hid⟩)),
      argsOf_frame r (fun id hid => by obtain ⟨x, hx, hi⟩ := List.mem_flatMap.1 hid; exact h id (List.mem_flatMap.2 ⟨x, List.mem_cons_of_mem _ hx, hi⟩))]

theorem importRC_frame {H H2 : Nat → Blk} (dst : Nat) : ∀ (rcs : List RC) (k : Nat) (vs : List SV) (us : List (Nat × Blk)) (k' : Nat), importRC H dst k rcs = some (vs, us, k') → (∀ id ∈ us.map (·.1), H2 id = H id) → importRC H2 dst k rcs = some (vs, us, k')
  | [], k, vs, us, k', h, _ => h
  | .s v :: r, k, vs, us, k', h, hu => by
    simp only [importRC] at h ⊢
    split at h
    · rename_i vs' us' k1 h1
      simp only [Option.some.injEq, Prod.mk.injEq] at h
      obtain ⟨rfl, rfl, rfl⟩ := h
      rw [importRC_frame dst r k _ _ _ h1 hu]
    · cases h
  | .own tid e xs :: r, k, vs, us, k', h, hu => by
    simp only [importRC] at h ⊢
    split at h
    · rename_i vs' us' k1 h0 h1
      simp only [Option.some.injEq, Prod.mk.injEq] at h
      obtain ⟨rfl, rfl, rfl⟩ := h
      rw [importRC_frame dst r (k + 1) _ _ _ h1 (fun id hid => hu id (List.mem_cons_of_mem _ hid)), hu (freshId dst k) (by simp), h0]
    · cases h
  | .nbox cs :: r, k, vs, us, k', h, hu => by
    simp only [importRC] at h ⊢
    split at h
    · rename_i vs' us' k1 h0 h1
      simp only [Option.some.injEq, Prod.mk.injEq] at h
      obtain ⟨rfl, rfl, rfl⟩ := h
      rw [importRC_frame dst r (k + 1) _ _ _ h1 (fun id hid => hu id (List.mem_cons_of_mem _ hid)), hu (freshId dst k) (by simp), h0]
    · cases h
theorem importAll_frame {H H2 : Nat → Blk} (dst : Nat) : ∀ (rets : List (Bool × List RC)) (k : Nat) (l : List (Bool × List SV)) (us : List (Nat × Blk)), importAll H dst k rets = some (l, us) → (∀ id ∈ us.map (·.1), H2 id = H id) → importAll H2 dst k rets = some (l, us)
  | [], k, l, us, h, _ => h
  | (b, cs) :: r, k, l, us, h, hu => by
    simp only [importAll] at h ⊢
    split at h
    · rename_i vs us1 k1 h1
      split at h
      · rename_i l' us' h2
        simp only [Option.some.injEq, Prod.mk.injEq] at h
        obtain ⟨rfl, rfl⟩ := h
        rw [importRC_frame dst cs k _ _ _ h1 (fun id hid => hu id (by rw [List.map_append]; exact List.mem_append.2 (.inl hid)))]
        simp only
        rw [importAll_frame dst r k1 _ _ h2 (fun id hid => hu id (by rw [List.map_append]; exact List.mem_append.2 (.inr hid)))]
      · cases h
    · cases h

theorem fill_frame {st st2 : AS} (fs : List (Nat × Nat)) : ∀ (parts : List (Nat × Operand)) (cs : List SV), (∀ p ∈ parts, evalO st2 p.2 = evalO st p.2) → fillCells fs st2 cs parts = fillCells fs st cs parts
  | [], _, _ => rfl
  | (i, x) :: r, cs, h => by
    simp only [fillCells, h (i, x) (by simp)]
    split
    · rename_i off sz vs h1 h2
      rw [fill_frame fs r _ (fun p hp => h p (List.mem_cons_of_mem _ hp))]
    · rfl

/-- The rows that the laid parts bring with them are those of the parts. -/
theorem fill_rows {st : AS} (fs : List (Nat × Nat)) : ∀ (parts : List (Nat × Operand)) (cs cs' : List SV), fillCells fs st cs parts = some cs' → ∀ id ∈ rowIds cs', id ∈ rowIds cs ∨ id ∈ parts.flatMap fun p => avRows (evalO st p.2)
  | [], cs, cs', h, id, hid => by simp only [fillCells, Option.some.injEq] at h; subst h; exact .inl hid
  | (i, x) :: r, cs, cs', h, id, hid => by
    simp only [fillCells, cond_eq_ite] at h
    split at h
    · rename_i off sz vs h1 h2
      split at h
      · rcases fill_rows fs r _ cs' h id hid with h3 | h3
        · have mem : ∀ (vs cs : List SV) (k : Nat), id ∈ rowIds (setCells cs k vs) → id ∈ rowIds cs ∨ id ∈ rowIds vs := by
            have mrow : ∀ (l : List SV), id ∈ rowIds l ↔ ∃ s ∈ l, s = .row id := by
              intro l
              induction l with
              | nil => simp [rowIds]
              | cons s l ih => rw [rowIds_cons]; cases s <;> simp [rowIds, ih, eq_comm]
            intro vs
            induction vs with
            | nil => intro cs k h; exact .inl h
            | cons v vs ih =>
              intro cs k h
              rcases ih _ _ h with h | h
              · obtain ⟨s, hs, e⟩ := (mrow _).1 h
                rcases List.mem_or_eq_of_mem_set hs with h' | h'
                · exact .inl ((mrow _).2 ⟨s, h', e⟩)
                · exact .inr ((mrow _).2 ⟨s, by simp [h'], e⟩)
              · rw [rowIds_cons]; exact .inr (List.mem_append.2 (.inr h))
          rcases mem vs cs off h3 with h4 | h4
          · exact .inl h4
          · refine .inr (List.mem_flatMap.2 ⟨(i, x), by simp, ?_⟩)
            unfold AV.cells at h2
            split at h2
            · cases h2
            · rename_i s _ e
              injection h2 with h2
              subst h2
              show id ∈ avRows (evalO st x)
              rw [e]
              exact h4
            · rename_i cs2 e
              injection h2 with h2
              subst h2
              show id ∈ avRows (evalO st x)
              rw [e]
              exact h4
            · cases h2
        · exact .inr (by rw [List.flatMap_cons]; exact List.mem_append.2 (.inr h3))
      · cases h
    · cases h
theorem zero_rows {P : Program} {TAB : TypeId → Option TI} (hT : TabOK P TAB) {t : TypeId} {ti : TI} (h : TAB t = some ti) : rowIds ti.zero = [] := by
  obtain ⟨i, z, _, _, _, _, h5, _⟩ := (hT t ti h).info
  have key : ∀ (l : List SV) (vs : List Value), All2 zrep l vs → rowIds l = [] := by
    intro l
    induction l with
    | nil => intro _ _; rfl
    | cons s l ih =>
      intro vs h
      match vs, h with
      | v :: vs, ⟨h1, h2⟩ =>
        rw [rowIds_cons, ih vs h2]
        cases s <;> first | rfl | exact h1.elim
  exact key _ _ h5

theorem ptrIds_frame {st st2 : AS} : ∀ (l : List Operand), (∀ x ∈ l, evalO st2 x = evalO st x) → ptrIds st2 l = ptrIds st l
  | [], _ => rfl
  | x :: r, h => by simp only [ptrIds, h x (by simp), ptrIds_frame r (fun y hy => h y (List.mem_cons_of_mem _ hy))]
theorem intO_frame {st st2 : AS} {x : Option Operand} {d : Int} (h : ∀ y ∈ x, evalO st2 y = evalO st y) : intO st2 x d = intO st x d := by
  cases x with
  | none => rfl
  | some y => simp only [intO, h y rfl]
theorem maxO_frame {st st2 : AS} {hi x : Option Operand} {d : Int} (h : ∀ y ∈ x, evalO st2 y = evalO st y) : maxO st2 hi x d = maxO st hi x d := by
  cases hi <;> cases x <;> first | rfl | (simp only [maxO]; exact intO_frame h)
theorem loadA_frame {st st2 : AS} {s : SV} {n : Nat} (h : ∀ id ∈ avPtrs (.sc s), st2.H id = st.H id) : loadCellsA st2 s n = loadCellsA st s n := by
  cases s with
  | ptr id off => simp only [loadCellsA, h id (by simp [avPtrs])]
  | _ => rfl
theorem lenSV_frame {H H2 : Nat → Blk} {s : SV} (h : ∀ id ∈ rowIds [s], H2 id = H id) : lenSV H2 s = lenSV H s := by
  cases s with
  | row id => simp only [lenSV, h id (by simp [rowIds])]
  | _ => rfl
end Go.Pev
