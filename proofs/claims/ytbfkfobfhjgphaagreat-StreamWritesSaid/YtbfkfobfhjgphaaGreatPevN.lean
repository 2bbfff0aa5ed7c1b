/- The abstract evaluator: calls; each operation. -/
import Derived.Test.YtbfkfobfhjgphaaGreatPevM
set_option linter.unusedVariables false
set_option linter.unusedSimpArgs false
namespace Go.Pev
open Go

theorem upds_append {α : Type} : ∀ (l m : List (Nat × α)) (f : Nat → α), upds f (l ++ m) = upds (upds f l) m
  | [], _, _ => rfl
  | (k, v) :: l, m, f => upds_append l m (upd f k v)

section
variable {C : Ctx} {o : Oper} {st : AS}

theorem importAll_ok {I : Imm} {a : Act} {w : World} {base : Nat} (hbase : C.base ≤ base) (dst : Nat) (H0 : Nat → Blk) : ∀ (rets : List (Bool × List RC)) (k : Nat) (l : List (Bool × List SV)) (us : List (Nat × Blk)) (uvs : List Value) (Cs : List Nat) (ρ : Nat → Value) (T : Nat → AV) (H : Nat → Blk),
    importAll H0 dst k rets = some (l, us) → retsRep I w base rets uvs Cs → Cs.Nodup → Sim C I ρ ⟨T, H⟩ a w → (∀ id g, bk ρ id (H id) = some g → g ∉ Cs) → (∀ j, k ≤ j → H0 (freshId dst j) = .none → H (freshId dst j) = .none) →
    ∃ ρ' k', k ≤ k' ∧ Imported C I ρ ρ' T H (upds H us) a w dst k' Cs ∧ All2 (compRep I w ρ') l uvs ∧ ∀ p ∈ l, ∀ s ∈ p.2, ∀ id ∈ refs s, upds H us id ≠ .none
  | [], k, l, us, uvs, Cs, ρ, T, H, h, hr, hn, hs, hd, hf => by
    simp only [importAll, Option.some.injEq, Prod.mk.injEq] at h
    obtain ⟨rfl, rfl⟩ := h
    match uvs, hr with
    | [], hr =>
      have : Cs = [] := hr
      subst this
      exact ⟨ρ, k, Nat.le_refl _, Imported.refl hs dst k, trivial, by simp⟩
  | (b, cs) :: r, k, l, us, uvs, Cs, ρ, T, H, h, hr, hn, hs, hd, hf => by
    simp only [importAll] at h
    split at h
    · rename_i vs us1 k1 h1
      split at h
      · rename_i l' us' h2
        simp only [Option.some.injEq, Prod.mk.injEq] at h
        obtain ⟨rfl, rfl⟩ := h
        match uvs, hr with
        | u :: uvs, ⟨B1, B2, e, h3, h4⟩ =>
          subst e
          have hnd := List.nodup_append.1 hn
          have hrcs : ∃ ws, rcsRep I w base cs ws B1 ∧ ∀ ρ', All2 (SRep I w ρ') vs ws → compRep I w ρ' (b, vs) u := by
            match b, cs, h3, h1 with
            | true, cs, ⟨ws, e, h5⟩, h1 => exact ⟨ws.toList, h5, fun ρ' h => ⟨ws, e, h⟩⟩
            | false, [rc], h5, h1 =>
              refine ⟨[u], ⟨B1, [], by simp, h5, rfl⟩, fun ρ' h => ?_⟩
              match vs, h with
              | [s], h => exact h.1
          obtain ⟨ws, h5, h6⟩ := hrcs
          obtain ⟨hk, ρ1, hi, ha, hl⟩ := importRC_ok hbase dst H0 cs k k1 vs us1 ws B1 ρ T H h1 h5 hnd.1 hs (fun id g hg hm => hd id g hg (List.mem_append.2 (.inl hm))) hf
          obtain ⟨ρ2, k2, hk2, hi2, ha2, hl2⟩ := importAll_ok hbase dst H0 r k1 l' us' uvs B2 ρ1 T (upds H us1) h2 h4 hnd.2.1 hi.sim (fun id g hg hm => by
            rcases hi.blocks id g hg with h | h
            · exact hd id g h (List.mem_append.2 (.inr hm))
            · exact hnd.2.2 g h g hm rfl) (fun j hj h0 => by rw [hi.fresh j hj]; exact hf j (by omega) h0)
          rw [upds_append]
          refine ⟨ρ2, k2, by omega, hi.trans hi2 hk2, ⟨?_, ha2⟩, fun p hp s hsm id hid => ?_⟩
          · exact h6 ρ2 (All2.imp _ _ (fun s v hsm hr => SRep.ren (fun i hi' => hi2.ren i (hl s hsm i hi')) hr) ha)
          · rcases List.mem_cons.1 hp with rfl | hp
            · exact hi2.live id (hl s hsm id hid)
            · exact hl2 p hp s hsm id hid
      · cases h
    · cases h

theorem zipBox_out {α : Type} (f : α → Blk) : ∀ (ids : List Nat) (css : List (List SV)) (bs : List (Nat × Blk)) (H : Nat → Blk), zipBox ids css = some bs → ∀ id, id ∉ ids → upds H bs id = H id
  | [], [], bs, H, h, id, _ => by simp only [zipBox, Option.some.injEq] at h; subst h; rfl
  | i :: is, cs :: css, bs, H, h, id, hid => by
    simp only [zipBox] at h
    split at h
    · rename_i l hl
      injection h with h
      subst h
      have h1 := zipBox_out f is css l (upd H i (.box cs)) hl id (fun hm => hid (List.mem_cons_of_mem _ hm))
      show upds (upd H i (.box cs)) l id = _
      rw [h1, upd_ne _ _ (fun e : id = i => hid (by rw [e]; exact List.mem_cons_self))]
    · cases h
  | [], _ :: _, _, _, h, _, _ => by simp [zipBox] at h
  | _ :: _, [], _, _, h, _, _ => by simp [zipBox] at h
theorem zipBox_in {R : List SV → Nat → Prop} (f : Nat → Nat) : ∀ (ids : List Nat) (css : List (List SV)) (bs : List (Nat × Blk)) (H : Nat → Blk), zipBox ids css = some bs → ids.Nodup → All2 R css (ids.map f) → ∀ id ∈ ids, ∃ cs ∈ css, upds H bs id = .box cs ∧ R cs (f id)
  | [], [], bs, H, h, _, _, id, hid => by cases hid
  | i :: is, cs :: css, bs, H, h, hn, ⟨h1, h2⟩, id, hid => by
    simp only [zipBox] at h
    split at h
    · rename_i l hl
      injection h with h
      subst h
      have hn' := List.nodup_cons.1 hn
      rcases List.mem_cons.1 hid with rfl | hid
      · refine ⟨cs, by simp, ?_, h1⟩
        show upds (upd H id (.box cs)) l id = _
        rw [zipBox_out (fun _ : Nat => Blk.none) is css l _ hl id hn'.1, upd_same]
      · obtain ⟨c, hc, h3, h4⟩ := zipBox_in f is css l (upd H i (.box cs)) hl hn'.2 h2 id hid
        exact ⟨c, List.mem_cons_of_mem _ hc, h3, h4⟩
    · cases h

theorem retAV_rep {I : Imm} {w : World} {ρ : Nat → Value} {l : List (Bool × List SV)} {av : AV} (h : retAV l = some av) {base : Nat} {rets : List (Bool × List RC)} {v : Value} {Cs : List Nat} (hr : resRep I w base rets v Cs) :
    ∃ uvs, retsRep I w base rets uvs Cs ∧ (rets.length = l.length → ∀ ρ', All2 (compRep I w ρ') l uvs → AVRep I w ρ' av v) := by
  match rets, hr with
  | [r], hr =>
    refine ⟨[v], ⟨Cs, [], by simp, hr, rfl⟩, fun hlen ρ' ha => ?_⟩
    match l, hlen, h, ha with
    | [(b, cs)], _, h, ⟨h1, _⟩ =>
      simp only [retAV, mkAV] at h
      cases b with
      | true => simp only [cond_true, Option.some.injEq] at h; subst h; exact h1
      | false =>
        simp only [cond_false] at h
        split at h
        · injection h with h; subst h; exact SRep.av h1
        · cases h
  | [], ⟨vs, e, h1⟩ =>
    refine ⟨vs.toList, h1, fun hlen ρ' ha => ?_⟩
    match l, hlen, h, ha with
    | [], _, h, ha =>
      simp only [retAV, Option.some.injEq] at h
      subst h
      exact ⟨vs, e, ha⟩
  | _ :: _ :: _, ⟨vs, e, h1⟩ =>
    refine ⟨vs.toList, h1, fun hlen ρ' ha => ?_⟩
    match l, hlen, h, ha with
    | _ :: _ :: _, _, h, ha =>
      simp only [retAV, Option.some.injEq] at h
      subst h
      exact ⟨vs, e, ha⟩

theorem importAll_length (H : Nat → Blk) (dst : Nat) : ∀ (rets : List (Bool × List RC)) (k : Nat) (l : List (Bool × List SV)) (us : List (Nat × Blk)), importAll H dst k rets = some (l, us) → rets.length = l.length
  | [], k, l, us, h => by simp only [importAll, Option.some.injEq, Prod.mk.injEq] at h; obtain ⟨rfl, rfl⟩ := h; rfl
  | (b, cs) :: r, k, l, us, h => by
    simp only [importAll] at h
    split at h
    · rename_i vs us1 k1 h1
      split at h
      · rename_i l' us' h2
        simp only [Option.some.injEq, Prod.mk.injEq] at h
        obtain ⟨rfl, rfl⟩ := h
        simp [importAll_length H dst r k1 l' us' h2]
      · cases h
    · cases h

theorem retAV_refs {l : List (Bool × List SV)} {av : AV} (h : retAV l = some av) : ∀ id ∈ refsAV av, ∃ p ∈ l, ∃ s ∈ p.2, id ∈ refs s := by
  intro id hid
  unfold retAV at h
  split at h
  · injection h with h; subst h; simp [refsAV] at hid
  · rename_i b cs
    unfold mkAV at h
    cases b with
    | true =>
      simp only [cond_true, Option.some.injEq] at h
      subst h
      obtain ⟨s, hs, hi⟩ := List.mem_flatMap.1 hid
      exact ⟨(true, cs), by simp, s, hs, hi⟩
    | false =>
      simp only [cond_false] at h
      split at h
      · rename_i s
        injection h with h
        subst h
        exact ⟨(false, [s]), by simp, s, by simp, hid⟩
      · cases h
  · injection h with h
    subst h
    obtain ⟨p, hp, hi⟩ := List.mem_flatMap.1 hid
    obtain ⟨s, hs, hi⟩ := List.mem_flatMap.1 hi
    exact ⟨p, hp, s, hs, hi⟩

theorem ok_call (hd : ∀ d, o.dst = some d → d < C.n) {c : Call} (ho : o.op = .call c) {f : Operand} (hc : c.callee = .value f) {g : FuncId} {caps : List Nat} (hf : closeIds (evalO st f) = some (g, caps)) {d : Nat} (hdst : o.dst = some d)
    {xs : List XA} {ids : List Nat} {css : List (List SV)} (h1 : argsOf st.H (c.args.toList.map (evalO st)) = some (xs, ids)) (h2 : boxesOf st.H caps = some css) (h3 : nodup (ids ++ caps) = true) {res : Res} (hok : CallOK C.P g (xs ++ css.map .box) res)
    {l : List (Bool × List SV)} {us bs : List (Nat × Blk)} (h4 : importAll st.H d 0 res.rets = some (l, us)) (h5 : zipBox (ids ++ caps) res.boxes = some bs) {av : AV} (h6 : retAV l = some av) : OpOK C o st av (bs ++ us) := by
  intro I ρ a w hs next Q hnx
  have hf' : evalO st f = .sc (.clo g caps) := by
    unfold closeIds at hf
    split at hf
    · rename_i f' ids' e
      injection hf with hf
      simp only [Prod.mk.injEq] at hf
      rw [e, hf.1, hf.2]
    · cases hf
  have hev := (hs.eval f).1
  rw [hf'] at hev
  have hev' : a.eval f = .func (.func g) #[] (caps.map (ptrV ρ)).toArray := hev
  obtain ⟨k1, k2⟩ := argsOf_rep hs _ _ _ h1
  obtain ⟨k3, k4⟩ := boxesOf_rep hs _ _ h2
  have hargs := argsRep_boxes _ _ _ _ _ k1 k3
  rw [← List.map_append] at hargs
  have hboxes : ∀ id ∈ ids ++ caps, ∃ cs, boxOf st.H id = some cs := fun id hid => (List.mem_append.1 hid).elim (k2 id) (k4 id)
  have hnd := nodup_spec _ h3
  have hinj : ((ids ++ caps).map (bl ρ)).Nodup := by
    have key : ∀ (l : List Nat), l.Nodup → (∀ id ∈ l, ∃ cs, boxOf st.H id = some cs) → (l.map (bl ρ)).Nodup := by
      intro l
      induction l with
      | nil => intro _ _; exact List.nodup_nil
      | cons x l ih =>
        intro hn hb
        rw [List.map_cons]
        refine List.nodup_cons.2 ⟨fun hm => ?_, ih (List.nodup_cons.1 hn).2 (fun id hid => hb id (List.mem_cons_of_mem _ hid))⟩
        obtain ⟨y, hy, e⟩ := List.mem_map.1 hm
        obtain ⟨cs, hx'⟩ := hb x (by simp)
        obtain ⟨cs', hy'⟩ := hb y (List.mem_cons_of_mem _ hy)
        have e1 := (boxOf_rep hs hx').2.1
        have e2 := (boxOf_rep hs hy').2.1
        rw [e] at e2
        have := hs.apart x y _ e1 e2
        subst this
        exact (List.nodup_cons.1 hn).1 hy
    exact key _ hnd hboxes
  have hcall := hok w I _ _ hs.immIn hargs hinj
  have hrun : (execOp a.eval o).run C.P w = (callFunc g (c.args.toList.map a.eval ++ (caps.map (bl ρ)).map bptr).toArray).run C.P w := by
    have e : (c.args.toList.map a.eval ++ (caps.map (bl ρ)).map bptr).toArray = c.args.map a.eval ++ (caps.map (ptrV ρ)).toArray := by
      apply Array.ext'
      simp [List.map_map]
      intro id _
      rfl
    rw [e]
    simp [execOp, ho, resolve, hc, hev', Deferred.ofValue, invoke]
  have fin : ∀ v w' I' Cs, Post I w ((ids ++ caps).map (bl ρ)) res v w' I' Cs → next (a.put o.dst v) w' := by
    intro v w' I' Cs hp
    have hlt : ∀ id ∈ ids ++ caps, ∀ o, ¬ I (bl ρ id) o := fun id hid o => by
      obtain ⟨cs, hcs⟩ := hboxes id hid
      obtain ⟨⟨cur, T, _, _, him⟩, _⟩ := boxOf_rep hs hcs
      exact him o
    have hnot : ∀ i, (∃ k, I i k) → i ∉ (ids ++ caps).map (bl ρ) := fun i ⟨k, hk⟩ hm => by
      obtain ⟨id, hid, e⟩ := List.mem_map.1 hm
      exact hlt id hid k (by rw [e]; exact hk)
    have hkeep : Keeps I w w' := fun p u hpi hcell => by
      rw [cell?_of_heap (hp.old p.block (hs.immIn _ _ hpi) (hnot _ ⟨_, hpi⟩)) p rfl]
      exact hcell
    have hstep := hs.step (H' := upds st.H bs) hp.imm hkeep
      (fun b k h => (hp.immNew b k h).elim (hs.immNew b k) (fun h => .inr (Nat.le_trans hs.size h)))
      hp.immIn hp.size (fun i hi hF => hp.old i (Nat.lt_of_lt_of_le hi hs.size) (fun hm => by
        obtain ⟨id, hid, e⟩ := List.mem_map.1 hm
        obtain ⟨cs, hcs⟩ := hboxes id hid
        rcases hs.home id _ (boxOf_rep hs hcs).2.1 with h | h
        · rw [e] at h; omega
        · rw [e] at h; exact hF h)) hp.os hp.tape hp.output (fun id => by
        by_cases hid : id ∈ ids ++ caps
        · obtain ⟨cs, hcs⟩ := hboxes id hid
          obtain ⟨_, _, b3, b4⟩ := boxOf_rep hs hcs
          obtain ⟨cs', hm, e1, e2⟩ := zipBox_in (bl ρ) _ _ _ st.H h5 hnd hp.boxes id hid
          exact .inr ⟨cs', e1, b3, b4, e2, hp.boxRefs cs' hm⟩
        · refine .inl ⟨zipBox_out (fun _ : Nat => Blk.none) _ _ _ _ h5 id hid, fun g' hg' => ?_⟩
          have hlt' := bk_lt hs hg'
          refine ⟨hp.old g' hlt' (fun hm => ?_), fun k => ⟨fun h => (hp.immNew g' k h).elim (fun h => h) (fun h => by omega), hp.imm g' k⟩⟩
          obtain ⟨id', hid', e⟩ := List.mem_map.1 hm
          obtain ⟨cs, hcs⟩ := hboxes id' hid'
          have e1 := (boxOf_rep hs hcs).2.1
          rw [e] at e1
          exact hid ((hs.apart id id' g' hg' e1) ▸ hid'))
    obtain ⟨uvs, q1, q2⟩ := retAV_rep (ρ := ρ) h6 hp.rets
    have hge : ∀ gg ∈ Cs, w.heap.size ≤ gg := by
      have rc : ∀ (rcs : List RC) (vs : List Value) (Bs : List Nat), rcsRep I' w' w.heap.size rcs vs Bs → ∀ gg ∈ Bs, w.heap.size ≤ gg := by
        intro rcs
        induction rcs with
        | nil => intro vs Bs h gg hg; match vs, h with | [], h => have : Bs = [] := h; subst this; cases hg
        | cons r rcs ih =>
          intro vs Bs h gg hg
          match vs, h with
          | v :: vs, ⟨B1, B2, e, hr, hrs⟩ =>
            subst e
            rcases List.mem_append.1 hg with hg | hg
            · match r, hr with
              | .s sv, ⟨_, e, _⟩ => subst e; cases hg
              | .own tid e xs, ⟨⟨cs, _, r2, _⟩, e'⟩ =>
                subst e'
                exact (r2.lt gg (by simpa using hg)).1
              | .nbox cs, ⟨B, _, hB, _, e, _⟩ => subst e; simp at hg; subst hg; exact hB
            · exact ih vs B2 hrs gg hg
      have rr : ∀ (rets : List (Bool × List RC)) (vs : List Value) (Bs : List Nat), retsRep I' w' w.heap.size rets vs Bs → ∀ gg ∈ Bs, w.heap.size ≤ gg := by
        intro rets
        induction rets with
        | nil => intro vs Bs h gg hg; match vs, h with | [], h => have : Bs = [] := h; subst this; cases hg
        | cons r rets ih =>
          intro vs Bs h gg hg
          match vs, h with
          | v :: vs, ⟨B1, B2, e, hr, hrs⟩ =>
            subst e
            rcases List.mem_append.1 hg with hg | hg
            · match r, hr with
              | (true, l), ⟨vs', _, h⟩ => exact rc l _ _ h gg hg
              | (false, [rc1]), h => exact rc [rc1] [v] B1 ⟨B1, [], by simp, h, rfl⟩ gg hg
            · exact ih vs B2 hrs gg hg
      exact rr _ _ _ q1
    obtain ⟨ρ', k', _, hi, ha, hl⟩ := importAll_ok (C := C) (base := w.heap.size) hs.size d st.H res.rets 0 l us uvs Cs ρ st.T (upds st.H bs) h4 q1 hp.nodup hstep (fun id gg hg hm => by
        have h7 : bk ρ id (st.H id) = some gg := by
          by_cases hid : id ∈ ids ++ caps
          · obtain ⟨cs, hcs⟩ := hboxes id hid
            obtain ⟨_, _, ⟨bs', b3⟩, b4⟩ := boxOf_rep hs hcs
            obtain ⟨cs', _, e1, _⟩ := zipBox_in (bl ρ) _ _ _ st.H h5 hnd hp.boxes id hid
            rw [e1] at hg
            rw [b3]
            exact hg
          · rw [zipBox_out (fun _ : Nat => Blk.none) _ _ _ _ h5 id hid] at hg
            exact hg
        have := bk_lt hs h7
        have := hge gg hm
        omega) (fun j _ h0 => by
        rw [zipBox_out (fun _ : Nat => Blk.none) _ _ _ _ h5 _ (fun hm => by
          obtain ⟨cs, hcs⟩ := hboxes _ hm
          obtain ⟨_, _, ⟨bs', b3⟩, _⟩ := boxOf_rep hs hcs
          rw [h0] at b3
          cases b3)]
        exact h0)
    have hav := q2 (importAll_length _ _ _ _ _ _ h4) ρ' ha
    have := hi.sim.put hd (v := av) (x := v) hav (fun id hid => by
      obtain ⟨p, hp, s, hsm, hi'⟩ := retAV_refs h6 id hid
      exact hl p hp s hsm id hi')
    refine hnx I' ρ' _ _ ?_
    simpa [AS.apply, upds_append, upds] using this
  unfold Oper.wp
  rw [hrun]
  rcases hcall with ⟨e1, e2⟩ | ⟨v, e1, v', I', Cs, e2, hp⟩
  · rw [e1, Oper.upon_enter]
    refine e2.mono ?_
    rintro e w' ⟨v, I', Cs, rfl, hp⟩
    exact fin v w' I' Cs hp
  · rw [e1, Oper.upon_value]
    injection e2 with e2
    subst e2
    exact fin v w I' Cs hp

/-- The call that pads a block. -/
theorem ok_pad (hP : PadOK C.P) (hd : ∀ d, o.dst = some d → d < C.n) {c : Call} (ho : o.op = .call c) {f : Operand} (hc : c.callee = .value f) (hf : closeIds (evalO st f) = some (padFn, [])) {d : Nat} (hdst : o.dst = some d) (hH : st.H d = .none)
    {cc n : Int} {id : Nat} (hargs : c.args.toList.map (evalO st) = [.agg [.int .i64 cc, .row id], .sc (.int .i64 n)]) {xs : List Int} (hid : st.H id = .row padEl (.int .i32) xs) (h0 : 0 ≤ padCount cc n xs.length) (hb : (xs.length + (padCount cc n xs.length).toNat) * 4 ≤ maxBytes) :
    OpOK C o st (.agg [.int .i64 cc, .row d]) [(id, .dead), (d, .row padEl (.int .i32) (xs ++ List.replicate (padCount cc n xs.length).toNat (0 : Int)))] := by
  intro I ρ a w hs next Q hnx
  have hf' : evalO st f = .sc (.clo padFn []) := by
    unfold closeIds at hf
    split at hf
    · rename_i f' ids' e
      injection hf with hf
      simp only [Prod.mk.injEq] at hf
      rw [e, hf.1, hf.2]
    · cases hf
  have hev := (hs.eval f).1
  rw [hf'] at hev
  have hev' : a.eval f = .func (.func padFn) #[] #[] := hev
  obtain ⟨x1, x2, hx⟩ : ∃ x1 x2, c.args.toList = [x1, x2] := by
    match hl : c.args.toList, hargs with
    | [x1, x2], _ => exact ⟨x1, x2, rfl⟩
    | [], h => simp at h
    | [_], h => simp at h
    | _ :: _ :: _ :: _, h => simp at h
  rw [hx] at hargs
  simp only [List.map_cons, List.map_nil, List.cons.injEq, and_true] at hargs
  obtain ⟨hx1, hx2⟩ := hargs
  have hv1 := (hs.eval x1).1
  rw [hx1] at hv1
  obtain ⟨vs, hvs, hall⟩ := hv1
  have hv2 := (hs.eval x2).1
  rw [hx2] at hv2
  have hv2' : a.eval x2 = .int .i64 n := hv2
  have hvs' : vs.toList = [.int .i64 cc, ρ id] := by
    match hl : vs.toList, hall with
    | [u1, u2], ⟨q1, q2, _⟩ =>
      have q1 : u1 = .int .i64 cc := q1
      have q2 : u2 = ρ id := q2.1
      rw [q1, q2]
  have hvs2 : a.eval x1 = .agg #[.int .i64 cc, ρ id] := by
    rw [hvs]; congr 1; apply Array.ext'; simpa using hvs'
  have hrow := hs.blks id
  rw [hid] at hrow
  obtain ⟨cs, r1, r2, r3, r4, r5⟩ := hrow
  have hcall := hP w C.base cc n (ρ id) xs.length (padCount cc n xs.length).toNat cs hs.size r2 (FRep.one _ _ r1) (by omega) (by unfold maxBytes at hb; exact hb)
  generalize (padCount cc n xs.length).toNat = k at *
  have hrun : (execOp a.eval o).run C.P w = (callFunc padFn #[.agg #[.int .i64 cc, ρ id], .int .i64 n]).run C.P w := by
    have e : c.args.map a.eval = #[.agg #[.int .i64 cc, ρ id], .int .i64 n] := by
      apply Array.ext'
      simp [hx, hvs2, hv2']
    simp [execOp, ho, resolve, hc, hev', Deferred.ofValue, invoke, e]
  have hne : d ≠ id := by intro e; subst e; rw [hH] at hid; cases hid
  have hdd : upd st.H id .dead d = .none := by rw [upd_ne _ _ hne]; exact hH
  have hbk : bk ρ id (st.H id) = (ρ id).ownBlock := by rw [hid]; rfl
  have fin : ∀ V w', w'.ownsRow C.base padEl 1 V (xs.length + k) (cs ++ List.replicate k (.int .i32 0)) → OwnGrown w w' (ρ id) V → next (a.put o.dst (.agg #[.int .i64 cc, V])) w' := by
    intro V w' hown hog
    have hdead := hs.turn (id := id) (b := .dead) trivial (.inl rfl) (by simp) (by simp)
    have hsame : ∀ g, g < w.heap.size → (ρ id).ownBlock ≠ some g → w'.heap[g]? = w.heap[g]? := fun g hg hn => hog.by_.block g hg (fun e => hn e.symm)
    have hkeep : Keeps I w w' := by
      intro p u hp hcell
      by_cases hpg : (ρ id).ownBlock = some p.block
      · by_cases hV : V.ownBlock = some p.block
        · have hlt := (r5 p.block hpg p.off).1 hp
          obtain ⟨cur0, T0, hcur0⟩ : ∃ cur T, w.heap[p.block]? = some (.cells cur T (0, 0)) := by
            rcases r2.2 with ⟨e, _⟩ | ⟨g, cap, cur, e, _, hg, _⟩
            · rw [e] at hpg; cases hpg
            · rw [e] at hpg
              simp only [Value.ownBlock, Option.some.injEq] at hpg
              exact ⟨cur, _, by rw [← hpg]; exact hg⟩
          have hspot : p.spot = none := by
            simp only [World.cell?, hcur0] at hcell
            cases hsp : p.spot with
            | none => rfl
            | some s => simp [hsp] at hcell
          have hp' : p = (⟨p.block, 0, none⟩ : Addr).add p.off := by
            rw [add_blk]
            cases p; simp_all
          have hlen := r1.length
          obtain ⟨u0, hu0⟩ : ∃ u0, cs[p.off]? = some u0 := ⟨cs[p.off]'(by rw [hlen]; exact hlt), List.getElem?_eq_getElem _⟩
          have hown0 : w.cell? ((⟨p.block, 0, none⟩ : Addr).add p.off) = some u0 := r2.cells (g := p.block) hpg p.off u0 hu0
          have hown1 : w'.cell? ((⟨p.block, 0, none⟩ : Addr).add p.off) = some u0 := hown.cells (g := p.block) hV p.off u0 (by rw [List.getElem?_append_left (by rw [hlen]; exact hlt)]; exact hu0)
          rw [← hp'] at hown0 hown1
          rw [hown1, ← hown0]
          exact hcell
        · rw [cell?_of_heap (hog.old p.block hpg hV) p rfl]
          exact hcell
      · rw [cell?_of_heap (hsame p.block (hs.immIn _ _ hp) hpg) p rfl]
        exact hcell
    have hapart : ∀ j g', bk ρ j (upd st.H id .dead j) = some g' → g' < w.heap.size ∧ (ρ id).ownBlock ≠ some g' := by
      intro j g' hg'
      by_cases hj : j = id
      · subst hj; rw [upd_same] at hg'; cases hg'
      · rw [upd_ne st.H _ hj] at hg'
        exact ⟨bk_lt hs hg', fun e => hj (hs.apart j id g' hg' (by rw [hbk]; exact e))⟩
    have hVne : ∀ j g', bk ρ j (upd st.H id .dead j) = some g' → V.ownBlock ≠ some g' := by
      intro j g' hg' e
      obtain ⟨h1, h2⟩ := hapart j g' hg'
      rcases hog.blk g' e with h | h
      · exact h2 h
      · omega
    have hev := hdead.evolve (I' := fun b j => I b j ∨ (V.ownBlock = some b ∧ j < xs.length + k)) (w' := w') (fun _ _ h => .inl h) hkeep
      (fun j g' hg' => ⟨hsame g' (hapart j g' hg').1 (hapart j g' hg').2, fun kk => ⟨fun h => h.elim (fun h => h) (fun h => absurd h.1 (hVne j g' hg')), .inl⟩⟩)
      (fun b kk h => h.elim (hs.immNew b kk) (fun h => .inr (hown.lt b h.1).1))
      (fun b kk h => h.elim (fun h => Nat.lt_of_lt_of_le (hs.immIn b kk h) hog.by_.size) (fun h => (hown.lt b h.1).2))
      hog.by_.size (fun i hi hF => hsame i (Nat.lt_of_lt_of_le hi hs.size) (fun e => by have := (r2.lt i e).1; omega)) hog.by_.os hog.by_.tape hog.by_.output
    have hz : C.Z d = none := C.z_lt (hd d hdst)
    have hzeros : ∀ m : Nat, FRep (fun b j => I b j ∨ (V.ownBlock = some b ∧ j < xs.length + k)) w' (.int .i32) (List.replicate m (0 : Int)) (List.replicate m (.int .i32 0)) := by
      intro m
      induction m with
      | zero => rfl
      | succ m ih => exact ⟨[.int .i32 0], List.replicate m (.int .i32 0), rfl, rfl, ih⟩
    have hnew := hev.new (id := d) (V := V) (b := .row padEl (.int .i32) (xs ++ List.replicate k (0 : Int))) hdd hz (by
        show rowRep _ _ _ _ _ _ _
        rw [upd_same]
        refine ⟨cs ++ List.replicate k (.int .i32 0), FRep.append _ _ _ _ (FRep.mono (fun _ _ h => .inl h) hkeep _ _ r1) (hzeros k), ?_, hog.one, Nat.succ_pos 0, fun g hg j => ?_⟩
        · rw [List.length_append, List.length_replicate]; exact hown
        · rw [List.length_append, List.length_replicate, show (Ty.int IntKind.i32).size = 1 from rfl, Nat.mul_one]
          refine ⟨fun h => h.elim (fun h => ?_) (fun h => h.2), fun h => .inr ⟨hg, h⟩⟩
          rcases hog.blk g hg with h' | h'
          · have := (r5 g h' j).1 h
            rw [show (Ty.int IntKind.i32).size = 1 from rfl, Nat.mul_one] at this
            omega
          · have := hs.immIn g j h
            omega)
      (fun j g hg => hVne j g hg) (fun g hg => .inl (hown.lt g hg).1) (by simp) (by simp)
    have := hnew.put hd (v := .agg [.int .i64 cc, .row d]) (x := .agg #[.int .i64 cc, V]) ⟨_, rfl, rfl, ⟨by rw [upd_same], hog.one⟩, trivial⟩ (by
      intro i hi
      simp [refsAV, refs] at hi
      subst hi
      simp [upd_same])
    refine hnx (fun b j => I b j ∨ (V.ownBlock = some b ∧ j < xs.length + k)) (upd ρ d V) _ w' ?_
    simpa [AS.apply, upds, hdst] using this
  unfold Oper.wp
  rw [hrun]
  rcases hcall with ⟨e1, e2⟩ | ⟨v, e1, V, e2, h1, h2⟩
  · rw [e1, Oper.upon_enter]
    refine e2.mono ?_
    rintro e w' ⟨V, rfl, h1, h2⟩
    exact fin V w' h1 h2
  · rw [e1, Oper.upon_value]
    injection e2 with e2
    subst e2
    exact fin V w h1 h2
end
end Go.Pev
