/- The abstract evaluator: what a function gives, as its callers read it. -/
import Derived.Test.YtbfkfobfhjgphaaGreatPevV
set_option linter.unusedVariables false
set_option linter.unusedSimpArgs false
namespace Go.Pev
open Go

theorem mem_spec' {x : Nat} {l : List Nat} (h : mem x l = false) : x ∉ l := fun hm => by
  rw [(mem_spec x l).2 hm] at h
  cases h

section
variable {C : Ctx} {st : AS} {I : Imm} {ρ : Nat → Value} {a : Act} {w : World}

/-- The blocks that a result brought out, and the numbers that have been used up. -/
structure Used (st : AS) (ρ : Nat → Value) (used used' : List Nat) (Cs : List Nat) : Prop where
  nodup : Cs.Nodup
  sub : ∀ id ∈ used, id ∈ used'
  new : ∀ g ∈ Cs, ∃ id, id ∈ used' ∧ id ∉ used ∧ bk ρ id (st.H id) = some g
theorem Used.refl (used : List Nat) : Used st ρ used used [] := ⟨List.nodup_nil, fun _ h => h, by simp⟩
theorem Used.trans (hs : Sim C I ρ st a w) {u v x Cs Ds : List Nat} (h1 : Used st ρ u v Cs) (h2 : Used st ρ v x Ds) : Used st ρ u x (Cs ++ Ds) where
  nodup := List.nodup_append.2 ⟨h1.nodup, h2.nodup, fun g hg g' hg' e => by
    subst e
    obtain ⟨i, h3, h4, h5⟩ := h1.new g hg
    obtain ⟨j, h6, h7, h8⟩ := h2.new g hg'
    have := hs.apart i j g h5 h8
    subst this
    exact h7 h3⟩
  sub id h := h2.sub id (h1.sub id h)
  new g hg := by
    rcases List.mem_append.1 hg with hg | hg
    · obtain ⟨i, h3, h4, h5⟩ := h1.new g hg
      exact ⟨i, h2.sub i h3, h4, h5⟩
    · obtain ⟨i, h3, h4, h5⟩ := h2.new g hg
      exact ⟨i, h3, fun h => h4 (h1.sub i h), h5⟩

theorem rcs_append {base : Nat} : ∀ (l l' : List RC) (vs vs' : List Value) (B B' : List Nat), rcsRep I w base l vs B → rcsRep I w base l' vs' B' → rcsRep I w base (l ++ l') (vs ++ vs') (B ++ B')
  | [], l', [], vs', B, B', h, h' => by
    have : B = [] := h
    subst this
    exact h'
  | r :: l, l', v :: vs, vs', B, B', ⟨B1, B2, e, h1, h2⟩, h' => by
    subst e
    exact ⟨B1, B2 ++ B', by simp, h1, rcs_append l l' vs vs' B2 B' h2 h'⟩
  | [], _, _ :: _, _, _, _, h, _ => h.elim
  | _ :: _, _, [], _, _, _, h, _ => h.elim

theorem rcs_plain {base : Nat} : ∀ (cs : List SV) (vs : List Value), (∀ s ∈ cs, refs s = []) → All2 (SRep I w ρ0) cs vs → rcsRep I w base (cs.map .s) vs []
  | [], [], _, _ => rfl
  | s :: cs, v :: vs, h, ⟨h1, h2⟩ => ⟨[], [], rfl, ⟨h1, rfl, h s (by simp)⟩, rcs_plain cs vs (fun s hs => h s (List.mem_cons_of_mem _ hs)) h2⟩
  | [], _ :: _, _, h => h.elim
  | _ :: _, [], _, h => h.elim

theorem box_rep (hs : Sim C I ρ st a w) {id : Nat} {cs : List SV} (hH : st.H id = .box cs) {t : Ty} {x : t.I} (h : parseAll st.H t cs = some x) : boxRep I w ρ0 (cellsOf t x) (bl ρ id) ∧ ρ id = boxV (bl ρ id) := by
  have hb := hs.blks id
  rw [hH] at hb
  obtain ⟨B, hB, cur, T, h1, h2, h3⟩ := hb
  have hbl : bl ρ id = B := by simp [bl, hB, boxV, Value.ownBlock]
  rw [hbl]
  refine ⟨⟨cur, T, h1, ?_, h3⟩, hB⟩
  unfold parseAll at h
  split at h
  · rename_i y hp
    injection h with h
    subst h
    obtain ⟨us, ws, e, g1, g2⟩ := parse_rep hs t cs _ y [] hp h2
    match ws, g2 with
    | [], _ => rw [List.append_nil] at e; rw [e]; exact cellsOf_rep _ _ _ g1
  · cases h

theorem decRT_rep (hs : Sim C I ρ st a w) (hnb : ∀ id cs, st.H id = .box cs → ¬ (90000 ≤ id ∧ id < 100000) → C.base ≤ bl ρ id) {used used' : List Nat} {t : RT} {cs r : List SV} {vs : List Value} {x : t.I}
    (h : decRT st.H used t cs = some (x, r, used')) (hr : All2 (SRep I w ρ) cs vs) :
    ∃ us ws Cs, vs = us ++ ws ∧ rcsRep I w C.base (encRT t x) us Cs ∧ All2 (SRep I w ρ) r ws ∧ Used st ρ used used' Cs := by
  match t, cs, x, h with
  | .ty t, cs, x, h =>
    simp only [decRT] at h
    split at h
    · rename_i y r' hp
      simp only [Option.some.injEq, Prod.mk.injEq] at h
      obtain ⟨rfl, rfl, rfl⟩ := h
      obtain ⟨us, ws, e, h1, h2⟩ := parse_rep hs t cs vs y r' hp hr
      exact ⟨us, ws, [], e, rcs_plain _ _ (refs_cellsOf t y) (cellsOf_rep _ _ _ h1), h2, Used.refl _⟩
    · cases h
  | .own tid e, .row id :: cs, x, h =>
    simp only [decRT] at h
    split at h
    · rename_i tid' e' xs hH
      simp only [cond_eq_ite] at h
      split at h
      · rename_i hc
        simp only [Bool.and_eq_true, Bool.not_eq_true'] at hc
        have ht := Nat.eq_of_beq_eq_true hc.1
        subst ht
        split at h
        · rename_i xs' hx
          simp only [Option.some.injEq, Prod.mk.injEq] at h
          obtain ⟨rfl, rfl, rfl⟩ := h
          obtain ⟨rfl, rfl⟩ := castL_eq hx
          match vs, hr with
          | v :: vs, ⟨h1, h2⟩ =>
            have hb := hs.blks id
            rw [hH] at hb
            have h1 : v = ρ id := h1.1
            refine ⟨[v], vs, v.ownBlock.toList, rfl, ⟨v.ownBlock.toList, [], by simp, ⟨by rw [h1]; exact hb, rfl⟩, rfl⟩, h2, ?_⟩
            refine ⟨?_, fun i hi => List.mem_cons_of_mem _ hi, fun g hg => ⟨id, by simp, mem_spec' hc.2, ?_⟩⟩
            · cases v.ownBlock <;> simp
            · rw [hH]
              simp only [bk, ← h1]
              simpa using hg
        · cases h
      · cases h
    · cases h
  | .own tid e, .nilsl :: cs, x, h =>
    simp only [decRT, Option.some.injEq, Prod.mk.injEq] at h
    obtain ⟨rfl, rfl, rfl⟩ := h
    match vs, hr with
    | v :: vs, ⟨h1, h2⟩ =>
      have h1 : v = .slice none 0 0 := h1
      subst h1
      exact ⟨[_], vs, [], rfl, ⟨[], [], rfl, ⟨⟨[], rfl, World.ownsRow_nil _ _ _ _, rfl, ty_pos e, by simp [Value.ownBlock]⟩, rfl⟩, rfl⟩, h2, Used.refl _⟩
  | .nbox t, .ptr id 0 :: cs, x, h =>
    simp only [decRT] at h
    split at h
    · rename_i bs hH
      simp only [cond_eq_ite] at h
      split at h
      · rename_i hc
        simp only [Bool.and_eq_true, Bool.not_eq_true', Bool.and_eq_false_iff] at hc
        split at h
        · rename_i y hy
          simp only [Option.some.injEq, Prod.mk.injEq] at h
          obtain ⟨rfl, rfl, rfl⟩ := h
          match vs, hr with
          | v :: vs, ⟨h1, h2⟩ =>
            obtain ⟨g1, g2⟩ := box_rep hs hH hy
            have hbase := hnb id bs hH (fun hx => by
              rcases hc.2 with h | h
              · rw [Nat.ble_eq_true_of_le hx.1] at h; cases h
              · rw [show Nat.blt id 100000 = true by rw [Nat.blt_eq]; exact hx.2] at h; cases h)
            refine ⟨[v], vs, [bl ρ id], rfl, ⟨[bl ρ id], [], by simp, ⟨bl ρ id, h1, hbase, g1, rfl, refs_cellsOf _ _⟩, rfl⟩, h2, ?_⟩
            refine ⟨by simp, fun i hi => List.mem_cons_of_mem _ hi, fun g hg => ⟨id, by simp, mem_spec' hc.1, ?_⟩⟩
            simp only [List.mem_singleton] at hg
            rw [hH, hg]
            simp only [bk]
            rw [g2]
            simp [boxV, Value.ownBlock, bl]
        · cases h
      · cases h
    · cases h

theorem decCells_rep (hs : Sim C I ρ st a w) (hnb : ∀ id cs, st.H id = .box cs → ¬ (90000 ≤ id ∧ id < 100000) → C.base ≤ bl ρ id) : ∀ (l : List RT) (used used' : List Nat) (cs : List SV) (vs : List Value) (x : cellsI l),
    decCells st.H used l cs = some (x, used') → All2 (SRep I w ρ) cs vs → ∃ Cs, rcsRep I w C.base (encCells l x) vs Cs ∧ Used st ρ used used' Cs
  | [], used, used', [], [], x, h, _ => by
    simp only [decCells, Option.some.injEq, Prod.mk.injEq] at h
    obtain ⟨_, rfl⟩ := h
    exact ⟨[], rfl, Used.refl _⟩
  | [t], used, used', cs, vs, x, h, hr => by
    simp only [decCells] at h
    split at h
    · rename_i y u hy
      simp only [Option.some.injEq, Prod.mk.injEq] at h
      obtain ⟨rfl, rfl⟩ := h
      obtain ⟨us, ws, Cs, e, h1, h2, h3⟩ := decRT_rep hs hnb hy hr
      match ws, h2 with
      | [], _ =>
        rw [List.append_nil] at e
        subst e
        exact ⟨Cs, h1, h3⟩
    · cases h
  | t :: v :: l, used, used', cs, vs, x, h, hr => by
    simp only [decCells] at h
    split at h
    · rename_i y cs' u hy
      split at h
      · rename_i z u' hz
        simp only [Option.some.injEq, Prod.mk.injEq] at h
        obtain ⟨rfl, rfl⟩ := h
        obtain ⟨us, ws, Cs, e, h1, h2, h3⟩ := decRT_rep hs hnb hy hr
        obtain ⟨Ds, h4, h5⟩ := decCells_rep hs hnb (v :: l) u u' cs' ws z hz h2
        subst e
        exact ⟨Cs ++ Ds, rcs_append _ _ _ _ _ _ h1 h4, h3.trans hs h5⟩
      · cases h
    · cases h
  | [], _, _, _ :: _, _, _, h, _ => by simp [decCells] at h
  | [], _, _, [], _ :: _, _, _, h => h.elim

theorem decBoxes_rep (hs : Sim C I ρ st a w) : ∀ (ts : List Ty) (ids Bs : List Nat) (x : prodI (ts.map Ty.I)), decBoxes st.H ts ids = some x → All2 (fun id B => ρ id = boxV B) ids Bs →
    All2 (boxRep I w ρ0) (encTys ts x) Bs ∧ (∀ cs ∈ encTys ts x, ∀ s ∈ cs, refs s = []) ∧ ∀ id ∈ ids, ∃ cs, st.H id = .box cs
  | [], [], [], x, _, _ => ⟨trivial, by simp [encTys], by simp⟩
  | [t], [id], [B], x, h, ⟨h1, _⟩ => by
    simp only [decBoxes] at h
    split at h
    · rename_i cs hH
      obtain ⟨g1, g2⟩ := box_rep hs hH h
      have : bl ρ id = B := by simp [bl, h1, boxV, Value.ownBlock]
      rw [this] at g1
      refine ⟨⟨g1, trivial⟩, ?_, by simp [hH]⟩
      intro cs hc s hsm
      have : cs = cellsOf t x := by simpa [encTys] using hc
      subst this
      exact refs_cellsOf t x s hsm
    · cases h
  | t :: u :: ts, id :: ids, B :: Bs, x, h, ⟨h1, h2⟩ => by
    simp only [decBoxes] at h
    split at h
    · rename_i cs hH
      split at h
      · rename_i y z hy hz
        injection h with h
        subst h
        obtain ⟨g1, g2⟩ := box_rep hs hH hy
        have : bl ρ id = B := by simp [bl, h1, boxV, Value.ownBlock]
        rw [this] at g1
        obtain ⟨k1, k2, k3⟩ := decBoxes_rep hs (u :: ts) ids Bs z hz h2
        refine ⟨⟨g1, k1⟩, ?_, ?_⟩
        · intro cs hc s hsm
          rcases List.mem_cons.1 hc with rfl | hc
          · exact refs_cellsOf t y s hsm
          · exact k2 cs hc s hsm
        · intro i hi
          rcases List.mem_cons.1 hi with rfl | hi
          · exact ⟨_, hH⟩
          · exact k3 i hi
      · cases h
    · cases h
  | [], _ :: _, _, _, h, _ => by simp [decBoxes] at h
  | [_], [], _, _, h, _ => by simp [decBoxes] at h
  | [_], _ :: _ :: _, _, _, h, _ => by simp [decBoxes] at h
  | _ :: _ :: _, [], _, _, h, _ => by simp [decBoxes] at h
  | [], [], _ :: _, _, _, h => h.elim
  | [_], [_], [], _, _, h => h.elim
  | [_], [_], _ :: _ :: _, _, _, h => h.2.elim
  | _ :: _ :: _, _ :: _, [], _, _, h => h.elim

/-- One result. -/
theorem ret_rep (hs : Sim C I ρ st a w) (hnb : ∀ id cs, st.H id = .box cs → ¬ (90000 ≤ id ∧ id < 100000) → C.base ≤ bl ρ id) {g g' : Bool} (hg : g = g') {l : List RT} {used used' : List Nat} {cs : List SV} {v : Value} {x : cellsI l}
    (h : decCells st.H used l cs = some (x, used')) (hr : compRep I w ρ (g', cs) v) : ∃ Cs, retRep I w C.base (g, encCells l x) v Cs ∧ Used st ρ used used' Cs := by
  subst hg
  match g, cs, hr with
  | true, cs, ⟨vs, e, h1⟩ =>
    obtain ⟨Cs, h2, h3⟩ := decCells_rep hs hnb l used used' cs _ x h h1
    exact ⟨Cs, ⟨vs, e, h2⟩, h3⟩
  | false, [s], h1 =>
    obtain ⟨Cs, h2, h3⟩ := decCells_rep hs hnb l used used' [s] [v] x h ⟨h1, trivial⟩
    generalize encCells l x = rc at h2 ⊢
    match rc, h2 with
    | [r], ⟨B1, B2, e, h4, h5⟩ =>
      have : B2 = [] := h5
      subst this
      rw [List.append_nil] at e
      subst e
      exact ⟨_, h4, h3⟩
    | [], h2 => exact h2.elim
    | _ :: _ :: _, ⟨_, _, _, _, h2⟩ => exact h2.elim

theorem decRes_rep (hs : Sim C I ρ st a w) (hnb : ∀ id cs, st.H id = .box cs → ¬ (90000 ≤ id ∧ id < 100000) → C.base ≤ bl ρ id) {ids Bs : List Nat} (hids : All2 (fun id B => ρ id = boxV B) ids Bs) :
    ∀ (rs : List (Bool × List RT)) (bs : List Ty) (used : List Nat) (ccs : List (Bool × List SV)) (vs : List Value) (x : prodI (rs.map (fun p => cellsI p.2) ++ bs.map Ty.I)), bs.length = ids.length →
    decRes st.H ids used rs bs ccs = some x → All2 (compRep I w ρ) ccs vs →
    ∃ used' Cs, retsRep I w C.base (encRes rs bs x).rets vs Cs ∧ Used st ρ used used' Cs ∧ All2 (boxRep I w ρ0) (encRes rs bs x).boxes Bs ∧ ∀ cs ∈ (encRes rs bs x).boxes, ∀ s ∈ cs, refs s = []
  | [], bs, used, [], [], x, _, h, _ => by
    simp only [decRes] at h
    obtain ⟨h1, h2, _⟩ := decBoxes_rep hs bs ids Bs x h hids
    exact ⟨used, [], rfl, Used.refl _, h1, h2⟩
  | [(g, l)], [], used, [(g', cs)], [v], x, hl, h, ⟨hr, _⟩ => by
    have hnil : ids = [] := List.eq_nil_of_length_eq_zero (by simpa using hl.symm)
    subst hnil
    match Bs, hids with
    | [], _ =>
      simp only [decRes, cond_eq_ite] at h
      split at h
      · rename_i hg
        split at h
        · rename_i y u hy
          injection h with h
          subst h
          obtain ⟨Cs, h1, h2⟩ := ret_rep hs hnb (of_decide_eq_true hg) hy hr
          exact ⟨u, Cs, ⟨Cs, [], by simp, h1, rfl⟩, h2, trivial, by simp [encRes]⟩
        · cases h
      · cases h
  | [(g, l)], b :: bs, used, [(g', cs)], [v], x, hl, h, ⟨hr, _⟩ => by
    simp only [decRes, cond_eq_ite] at h
    split at h
    · rename_i hg
      split at h
      · rename_i y u z hy hz
        injection h with h
        subst h
        obtain ⟨Cs, h1, h2⟩ := ret_rep hs hnb (of_decide_eq_true hg) hy hr
        obtain ⟨h3, h4, _⟩ := decBoxes_rep hs (b :: bs) ids Bs z hz hids
        exact ⟨u, Cs, ⟨Cs, [], by simp, h1, rfl⟩, h2, h3, h4⟩
      · cases h
    · cases h
  | (g, l) :: r :: rs, bs, used, (g', cs) :: ccs, v :: vs, x, hl, h, ⟨hr, hrs⟩ => by
    simp only [decRes, cond_eq_ite] at h
    split at h
    · rename_i hg
      split at h
      · rename_i y u hy
        split at h
        · rename_i z hz
          injection h with h
          subst h
          obtain ⟨Cs, h1, h2⟩ := ret_rep hs hnb (of_decide_eq_true hg) hy hr
          obtain ⟨u', Ds, h3, h4, h5, h6⟩ := decRes_rep hs hnb hids (r :: rs) bs u ccs vs z hl hz hrs
          have e : encRes ((g, l) :: r :: rs) bs (y, z) = ⟨(g, encCells l y) :: (encRes (r :: rs) bs z).rets, (encRes (r :: rs) bs z).boxes⟩ := rfl
          rw [e]
          exact ⟨u', Cs ++ Ds, ⟨Cs, Ds, rfl, h1, h3⟩, h2.trans hs h4, h5, h6⟩
        · cases h
      · cases h
    · cases h
  | [], _, _, _ :: _, _, _, _, h, _ => by simp [decRes] at h
  | [_], [], _, [], _, _, _, h, _ => by simp [decRes] at h
  | [_], _ :: _, _, [], _, _, _, h, _ => by simp [decRes] at h
  | [_], [], _, _ :: _ :: _, _, _, _, h, _ => by simp [decRes] at h
  | [_], _ :: _, _, _ :: _ :: _, _, _, _, h, _ => by simp [decRes] at h
  | _ :: _ :: _, _, _, [], _, _, _, h, _ => by simp [decRes] at h
  | [], _, _, [], _ :: _, _, _, _, h => h.elim
  | [_], [], _, [_], [], _, _, _, h => h.elim
  | [_], [], _, [_], _ :: _ :: _, _, _, _, h => h.2.elim
  | [_], _ :: _, _, [_], [], _, _, _, h => h.elim
  | [_], _ :: _, _, [_], _ :: _ :: _, _, _, _, h => h.2.elim
  | _ :: _ :: _, _, _, _ :: _, [], _, _, _, h => h.elim
end
end Go.Pev
