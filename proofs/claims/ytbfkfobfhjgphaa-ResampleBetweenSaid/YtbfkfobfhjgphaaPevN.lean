/- The abstract evaluator: calls; each operation. -/
import Derived.Test.YtbfkfobfhjgphaaPevM
set_option linter.unusedVariables false
set_option linter.unusedSimpArgs false
namespace Go.Pev
open Go

theorem upds_append {α : Type} : ∀ (l m : List (Nat × α)) (f : Nat → α), upds f (l ++ m) = upds (upds f l) m
  | [], _, _ => rfl
  | (k, v) :: l, m, f => upds_append l m (upd f k v)

section
variable {C : Ctx} {o : Oper} {st : AS}

theorem importAll_ok {I : Imm} {a : Act} {w : World} {base : Nat} (hbase : C.base ≤ base) (dst : Nat) (H0 : Nat → Blk) : ∀ (rets : List (Bool × List RC)) (k : Nat) (l : List (Bool × List SV)) (us : List (Nat × Blk)) (uvs : List Value) (Cs : List Nat) (ρ : Nat → Value) (T : Nat → AV) (H : Nat → Blk),
    importAll H0 dst k rets = some (l, us) → retsRep I w base rets uvs Cs → Cs.Nodup → Sim C I ρ ⟨T, H⟩ a w → (∀ id g, bk ρ id (H id) = some g → g ∉ Cs) → (∀ j, k ≤ j → H0 (freshId dst j) = .none → H (freshId dst j) = .none) →
    ∃ ρ' k', k ≤ k' ∧ Imported C I ρ ρ' T H (upds H us) a w dst k' Cs ∧ All2 (compRep I w ρ') l uvs ∧ ∀ p ∈ l, ∀ s ∈ p.2, ∀ id ∈ refs s, upds H us id ≠ .none
  | [], k, l, us, uvs, Cs, ρ, T, H, h, hr, hn, hs, hd, hf => by
    simp only [importAll, Option.some.injEq, Prod.mk.injEq] at h
    obtain ⟨rfl, rfl⟩ := h
    match uvs, hr with
    | [], hr =>
      have : Cs = [] := hr
      subst this
      exact ⟨ρ, k, Nat.le_refl _, Imported.refl hs dst k, trivial, by simp⟩
  | (b, cs) :: r, k, l, us, uvs, Cs, ρ, T, H, h, hr, hn, hs, hd, hf => by
    simp only [importAll] at h
    split at h
    · rename_i vs us1 k1 h1
      split at h
      · rename_i l' us' h2
        simp only [Option.some.injEq, Prod.mk.injEq] at h
        obtain ⟨rfl, rfl⟩ := h
        match uvs, hr with
        | u :: uvs, ⟨B1, B2, e, h3, h4⟩ =>
          subst e
          have hnd := List.nodup_append.1 hn
          have hrcs : ∃ ws, rcsRep I w base cs ws B1 ∧ ∀ ρ', All2 (SRep I w ρ') vs ws → compRep I w ρ' (b, vs) u := by
            match b, cs, h3, h1 with
            | true, cs, ⟨ws, e, h5⟩, h1 => exact ⟨ws.toList, h5, fun ρ' h => ⟨ws, e, h⟩⟩
            | false, [rc], h5, h1 =>
              refine ⟨[u], ⟨B1, [], by simp, h5, rfl⟩, fun ρ' h => ?_⟩
              match vs, h with
              | [s], h => exact h.1
          obtain ⟨ws, h5, h6⟩ := hrcs
          obtain ⟨hk, ρ1, hi, ha, hl⟩ := importRC_ok hbase dst H0 cs k k1 vs us1 ws B1 ρ T H h1 h5 hnd.1 hs (fun id g hg hm => hd id g hg (List.mem_append.2 (.inl hm))) hf
          obtain ⟨ρ2, k2, hk2, hi2, ha2, hl2⟩ := importAll_ok hbase dst H0 r k1 l' us' uvs B2 ρ1 T (upds H us1) h2 h4 hnd.2.1 hi.sim (fun id g hg hm => by
            rcases hi.blocks id g hg with h | h
            · exact hd id g h (List.mem_append.2 (.inr hm))
            · exact hnd.2.2 g h g hm rfl) (fun j hj h0 => by rw [hi.fresh j hj]; exact hf j (by omega) h0)
          rw [upds_append]
          refine ⟨ρ2, k2, by omega, hi.trans hi2 hk2, ⟨?_, ha2⟩, fun p hp s hsm id hid => ?_⟩
          · exact h6 ρ2 (All2.imp _ _ (fun s v hsm hr => SRep.ren (fun i hi' => hi2.ren i (hl s hsm i hi')) hr) ha)
          · rcases List.mem_cons.1 hp with rfl | hp
            · exact hi2.live id (hl s hsm id hid)
            · exact hl2 p hp s hsm id hid
      · cases h
    · cases h

theorem zipBox_out {α : Type} (f : α → Blk) : ∀ (ids : List Nat) (css : List (List SV)) (bs : List (Nat × Blk)) (H : Nat → Blk), zipBox ids css = some bs → ∀ id, id ∉ ids → upds H bs id = H id
  | [], [], bs, H, h, id, _ => by simp only [zipBox, Option.some.injEq] at h; subst h; rfl
  | i :: is, cs :: css, bs, H, h, id, hid => by
    simp only [zipBox] at h
    split at h
    · rename_i l hl
      injection h with h
      subst h
      have h1 := zipBox_out f is css l (upd H i (.box cs)) hl id (fun hm => hid (List.mem_cons_of_mem _ hm))
      show upds (upd H i (.box cs)) l id = _
      rw [h1, upd_ne _ _ (fun e : id = i => hid (by rw [e]; exact List.mem_cons_self))]
    · cases h
  | [], _ :: _, _, _, h, _, _ => by simp [zipBox] at h
  | _ :: _, [], _, _, h, _, _ => by simp [zipBox] at h
theorem zipBox_in {R : List SV → Nat → Prop} (f : Nat → Nat) : ∀ (ids : List Nat) (css : List (List SV)) (bs : List (Nat × Blk)) (H : Nat → Blk), zipBox ids css = some bs → ids.Nodup → All2 R css (ids.map f) → ∀ id ∈ ids, ∃ cs ∈ css, upds H bs id = .box cs ∧ R cs (f id)
  | [], [], bs, H, h, _, _, id, hid => by cases hid
  | i :: is, cs :: css, bs, H, h, hn, ⟨h1, h2⟩, id, hid => by
    simp only [zipBox] at h
    split at h
    · rename_i l hl
      injection h with h
      subst h
      have hn' := List.nodup_cons.1 hn
      rcases List.mem_cons.1 hid with rfl | hid
      · refine ⟨cs, by simp, ?_, h1⟩
        show upds (upd H id (.box cs)) l id = _
        rw [zipBox_out (fun _ : Nat => Blk.none) is css l _ hl id hn'.1, upd_same]
      · obtain ⟨c, hc, h3, h4⟩ := zipBox_in f is css l (upd H i (.box cs)) hl hn'.2 h2 id hid
        exact ⟨c, List.mem_cons_of_mem _ hc, h3, h4⟩
    · cases h

theorem retAV_rep {I : Imm} {w : World} {ρ : Nat → Value} {l : List (Bool × List SV)} {av : AV} (h : retAV l = some av) {base : Nat} {rets : List (Bool × List RC)} {v : Value} {Cs : List Nat} (hr : resRep I w base rets v Cs) :
    ∃ uvs, retsRep I w base rets uvs Cs ∧ (rets.length = l.length → ∀ ρ', All2 (compRep I w ρ') l uvs → AVRep I w ρ' av v) := by
  match rets, hr with
  | [r], hr =>
    refine ⟨[v], ⟨Cs, [], by simp, hr, rfl⟩, fun hlen ρ' ha => ?_⟩
    match l, hlen, h, ha with
    | [(b, cs)], _, h, ⟨h1, _⟩ =>
      simp only [retAV, mkAV] at h
      cases b with
      | true => simp only [cond_true, Option.some.injEq] at h; subst h; exact h1
      | false =>
        simp only [cond_false] at h
        split at h
        · injection h with h; subst h; exact SRep.av h1
        · cases h
  | [], ⟨vs, e, h1⟩ =>
    refine ⟨vs.toList, h1, fun hlen ρ' ha => ?_⟩
    match l, hlen, h, ha with
    | [], _, h, ha =>
      simp only [retAV, Option.some.injEq] at h
      subst h
      exact ⟨vs, e, ha⟩
  | _ :: _ :: _, ⟨vs, e, h1⟩ =>
    refine ⟨vs.toList, h1, fun hlen ρ' ha => ?_⟩
    match l, hlen, h, ha with
    | _ :: _ :: _, _, h, ha =>
      simp only [retAV, Option.some.injEq] at h
      subst h
      exact ⟨vs, e, ha⟩

theorem importAll_length (H : Nat → Blk) (dst : Nat) : ∀ (rets : List (Bool × List RC)) (k : Nat) (l : List (Bool × List SV)) (us : List (Nat × Blk)), importAll H dst k rets = some (l, us) → rets.length = l.length
  | [], k, l, us, h => by simp only [importAll, Option.some.injEq, Prod.mk.injEq] at h; obtain ⟨rfl, rfl⟩ := h; rfl
  | (b, cs) :: r, k, l, us, h => by
    simp only [importAll] at h
    split at h
    · rename_i vs us1 k1 h1
      split at h
      · rename_i l' us' h2
        simp only [Option.some.injEq, Prod.mk.injEq] at h
        obtain ⟨rfl, rfl⟩ := h
        simp [importAll_length H dst r k1 l' us' h2]
      · cases h
    · cases h

theorem retAV_refs {l : List (Bool × List SV)} {av : AV} (h : retAV l = some av) : ∀ id ∈ refsAV av, ∃ p ∈ l, ∃ s ∈ p.2, id ∈ refs s := by
  intro id hid
  unfold retAV at h
  split at h
  · injection h with h; subst h; simp [refsAV] at hid
  · rename_i b cs
    unfold mkAV at h
    cases b with
    | true =>
      simp only [cond_true, Option.some.injEq] at h
      subst h
      obtain ⟨s, hs, hi⟩ := List.mem_flatMap.1 hid
      exact ⟨(true, cs), by simp, s, hs, hi⟩
    | false =>
      simp only [cond_false] at h
      split at h
      · rename_i s
        injection h with h
        subst h
        exact ⟨(false, [s]), by simp, s, by simp, hid⟩
      · cases h
  · injection h with h
    subst h
    obtain ⟨p, hp, hi⟩ := List.mem_flatMap.1 hid
    obtain ⟨s, hs, hi⟩ := List.mem_flatMap.1 hi
    exact ⟨p, hp, s, hs, hi⟩

theorem ok_call (hd : ∀ d, o.dst = some d → d < C.n) {c : Call} (ho : o.op = .call c) {f : Operand} (hc : c.callee = .value f) {g : FuncId} {caps : List Nat} (hf : closeIds (evalO st f) = some (g, caps)) {d : Nat} (hdst : o.dst = some d)
    {xs : List XA} {ids : List Nat} {css : List (List SV)} (h1 : argsOf st.H (c.args.toList.map (evalO st)) = some (xs, ids)) (h2 : boxesOf st.H caps = some css) (h3 : nodup (ids ++ caps) = true) {res : Res} (hok : CallOK C.P g (xs ++ css.map .box) res)
    {l : List (Bool × List SV)} {us bs : List (Nat × Blk)} (h4 : importAll st.H d 0 res.rets = some (l, us)) (h5 : zipBox (ids ++ caps) res.boxes = some bs) {av : AV} (h6 : retAV l = some av) : OpOK C o st av (bs ++ us) := by
  intro I ρ a w hs next Q hnx
  have hf' : evalO st f = .sc (.clo g caps) := by
    unfold closeIds at hf
    split at hf
    · rename_i f' ids' e
      injection hf with hf
      simp only [Prod.mk.injEq] at hf
      rw [e, hf.1, hf.2]
    · cases hf
  have hev := (hs.eval f).1
  rw [hf'] at hev
  have hev' : a.eval f = .func (.func g) #[] (caps.map (ptrV ρ)).toArray := hev
  obtain ⟨k1, k2⟩ := argsOf_rep hs _ _ _ h1
  obtain ⟨k3, k4⟩ := boxesOf_rep hs _ _ h2
  have hargs := argsRep_boxes _ _ _ _ _ k1 k3
  rw [← List.map_append] at hargs
  have hboxes : ∀ id ∈ ids ++ caps, ∃ cs, boxOf st.H id = some cs := fun id hid => (List.mem_append.1 hid).elim (k2 id) (k4 id)
  have hnd := nodup_spec _ h3
  have hinj : ((ids ++ caps).map (bl ρ)).Nodup := by
    have key : ∀ (l : List Nat), l.Nodup → (∀ id ∈ l, ∃ cs, boxOf st.H id = some cs) → (l.map (bl ρ)).Nodup := by
      intro l
      induction l with
      | nil => intro _ _; exact List.nodup_nil
      | cons x l ih =>
        intro hn hb
        rw [List.map_cons]
        refine List.nodup_cons.2 ⟨fun hm => ?_, ih (List.nodup_cons.1 hn).2 (fun id hid => hb id (List.mem_cons_of_mem _ hid))⟩
        obtain ⟨y, hy, e⟩ := List.mem_map.1 hm
        obtain ⟨cs, hx'⟩ := hb x (by simp)
        obtain ⟨cs', hy'⟩ := hb y (List.mem_cons_of_mem _ hy)
        have e1 := (boxOf_rep hs hx').2.1
        have e2 := (boxOf_rep hs hy').2.1
        rw [e] at e2
        have := hs.apart x y _ e1 e2
        subst this
        exact (List.nodup_cons.1 hn).1 hy
    exact key _ hnd hboxes
  have hcall := hok w I _ _ hs.immIn hargs hinj
  have hrun : (execOp a.eval o).run C.P w = (callFunc g (c.args.toList.map a.eval ++ (caps.map (bl ρ)).map bptr).toArray).run C.P w := by
    have e : (c.args.toList.map a.eval ++ (caps.map (bl ρ)).map bptr).toArray = c.args.map a.eval ++ (caps.map (ptrV ρ)).toArray := by
      apply Array.ext'
      simp [List.map_map]
      intro id _
      rfl
    rw [e]
    simp [execOp, ho, resolve, hc, hev', Deferred.ofValue, invoke]
  have fin : ∀ v w' I' Cs, Post I w ((ids ++ caps).map (bl ρ)) res v w' I' Cs → next (a.put o.dst v) w' := by
    intro v w' I' Cs hp
    have hlt : ∀ id ∈ ids ++ caps, ∀ o, ¬ I (bl ρ id) o := fun id hid o => by
      obtain ⟨cs, hcs⟩ := hboxes id hid
      obtain ⟨⟨cur, T, _, _, him⟩, _⟩ := boxOf_rep hs hcs
      exact him o
    have hnot : ∀ i, (∃ k, I i k) → i ∉ (ids ++ caps).map (bl ρ) := fun i ⟨k, hk⟩ hm => by
      obtain ⟨id, hid, e⟩ := List.mem_map.1 hm
      exact hlt id hid k (by rw [e]; exact hk)
    have hkeep : Keeps I w w' := fun p u hpi hcell => by
      rw [cell?_of_heap (hp.old p.block (hs.immIn _ _ hpi) (hnot _ ⟨_, hpi⟩)) p rfl]
      exact hcell
    have hstep := hs.step (H' := upds st.H bs) hp.imm hkeep
      (fun b k h => (hp.immNew b k h).elim (hs.immNew b k) (fun h => .inr (Nat.le_trans hs.size h)))
      hp.immIn hp.size (fun i hi hF => hp.old i (Nat.lt_of_lt_of_le hi hs.size) (fun hm => by
        obtain ⟨id, hid, e⟩ := List.mem_map.1 hm
        obtain ⟨cs, hcs⟩ := hboxes id hid
        rcases hs.home id _ (boxOf_rep hs hcs).2.1 with h | h
        · rw [e] at h; omega
        · rw [e] at h; exact hF h)) hp.os hp.tape hp.output (fun id => by
        by_cases hid : id ∈ ids ++ caps
        · obtain ⟨cs, hcs⟩ := hboxes id hid
          obtain ⟨_, _, b3, b4⟩ := boxOf_rep hs hcs
          obtain ⟨cs', hm, e1, e2⟩ := zipBox_in (bl ρ) _ _ _ st.H h5 hnd hp.boxes id hid
          exact .inr ⟨cs', e1, b3, b4, e2, hp.boxRefs cs' hm⟩
        · refine .inl ⟨zipBox_out (fun _ : Nat => Blk.none) _ _ _ _ h5 id hid, fun g' hg' => ?_⟩
          have hlt' := bk_lt hs hg'
          refine ⟨hp.old g' hlt' (fun hm => ?_), fun k => ⟨fun h => (hp.immNew g' k h).elim (fun h => h) (fun h => by omega), hp.imm g' k⟩⟩
          obtain ⟨id', hid', e⟩ := List.mem_map.1 hm
          obtain ⟨cs, hcs⟩ := hboxes id' hid'
          have e1 := (boxOf_rep hs hcs).2.1
          rw [e] at e1
          exact hid ((hs.apart id id' g' hg' e1) ▸ hid'))
    obtain ⟨uvs, q1, q2⟩ := retAV_rep (ρ := ρ) h6 hp.rets
    have hge : ∀ gg ∈ Cs, w.heap.size ≤ gg := by
      have rc : ∀ (rcs : List RC) (vs : List Value) (Bs : List Nat), rcsRep I' w' w.heap.size rcs vs Bs → ∀ gg ∈ Bs, w.heap.size ≤ gg := by
        intro rcs
        induction rcs with
        | nil => intro vs Bs h gg hg; match vs, h with | [], h => have : Bs = [] := h; subst this; cases hg
        | cons r rcs ih =>
          intro vs Bs h gg hg
          match vs, h with
          | v :: vs, ⟨B1, B2, e, hr, hrs⟩ =>
            subst e
            rcases List.mem_append.1 hg with hg | hg
            · match r, hr with
              | .s sv, ⟨_, e, _⟩ => subst e; cases hg
              | .own tid e xs, ⟨⟨cs, _, r2, _⟩, e'⟩ =>
                subst e'
                exact (r2.lt gg (by simpa using hg)).1
              | .nbox cs, ⟨B, _, hB, _, e, _⟩ => subst e; simp at hg; subst hg; exact hB
            · exact ih vs B2 hrs gg hg
      have rr : ∀ (rets : List (Bool × List RC)) (vs : List Value) (Bs : List Nat), retsRep I' w' w.heap.size rets vs Bs → ∀ gg ∈ Bs, w.heap.size ≤ gg := by
        intro rets
        induction rets with
        | nil => intro vs Bs h gg hg; match vs, h with | [], h => have : Bs = [] := h; subst this; cases hg
        | cons r rets ih =>
          intro vs Bs h gg hg
          match vs, h with
          | v :: vs, ⟨B1, B2, e, hr, hrs⟩ =>
            subst e
            rcases List.mem_append.1 hg with hg | hg
            · match r, hr with
              | (true, l), ⟨vs', _, h⟩ => exact rc l _ _ h gg hg
              | (false, [rc1]), h => exact rc [rc1] [v] B1 ⟨B1, [], by simp, h, rfl⟩ gg hg
            · exact ih vs B2 hrs gg hg
      exact rr _ _ _ q1
    obtain ⟨ρ', k', _, hi, ha, hl⟩ := importAll_ok (C := C) (base := w.heap.size) hs.size d st.H res.rets 0 l us uvs Cs ρ st.T (upds st.H bs) h4 q1 hp.nodup hstep (fun id gg hg hm => by
        have h7 : bk ρ id (st.H id) = some gg := by
          by_cases hid : id ∈ ids ++ caps
          · obtain ⟨cs, hcs⟩ := hboxes id hid
            obtain ⟨_, _, ⟨bs', b3⟩, b4⟩ := boxOf_rep hs hcs
            obtain ⟨cs', _, e1, _⟩ := zipBox_in (bl ρ) _ _ _ st.H h5 hnd hp.boxes id hid
            rw [e1] at hg
            rw [b3]
            exact hg
          · rw [zipBox_out (fun _ : Nat => Blk.none) _ _ _ _ h5 id hid] at hg
            exact hg
        have := bk_lt hs h7
        have := hge gg hm
        omega) (fun j _ h0 => by
        rw [zipBox_out (fun _ : Nat => Blk.none) _ _ _ _ h5 _ (fun hm => by
          obtain ⟨cs, hcs⟩ := hboxes _ hm
          obtain ⟨_, _, ⟨bs', b3⟩, _⟩ := boxOf_rep hs hcs
          rw [h0] at b3
          cases b3)]
        exact h0)
    have hav := q2 (importAll_length _ _ _ _ _ _ h4) ρ' ha
    have := hi.sim.put hd (v := av) (x := v) hav (fun id hid => by
      obtain ⟨p, hp, s, hsm, hi'⟩ := retAV_refs h6 id hid
      exact hl p hp s hsm id hi')
    refine hnx I' ρ' _ _ ?_
    simpa [AS.apply, upds_append, upds] using this
  unfold Oper.wp
  rw [hrun]
  rcases hcall with ⟨e1, e2⟩ | ⟨v, e1, v', I', Cs, e2, hp⟩
  · rw [e1, Oper.upon_enter]
    refine e2.mono ?_
    rintro e w' ⟨v, I', Cs, rfl, hp⟩
    exact fin v w' I' Cs hp
  · rw [e1, Oper.upon_value]
    injection e2 with e2
    subst e2
    exact fin v w I' Cs hp
end
end Go.Pev
