/- The abstract evaluator: what a loop's head knows still tells of the machine. -/
import Derived.Test.YtbfkfobfhjgphaaGreatPevR
set_option linter.unusedVariables false
set_option linter.unusedSimpArgs false
namespace Go.Pev
open Go

theorem ty_pos : ∀ t : Ty, 0 < t.size
  | .pair a b => by have := ty_pos a; simp only [Ty.size]; omega
  | .int _ => by simp [Ty.size]
  | .bool => by simp [Ty.size]
  | .str => by simp [Ty.size]
  | .sl _ => by simp [Ty.size]

section
variable {C : Ctx} {st : AS}

def srcVal (ρ : Nat → Value) (x : Ent) : Value := match x.2.1 with
  | some s => ρ s
  | none => .slice none 0 0
def entOK (H : Nat → Blk) (x : Ent) : Prop := match x.2.1 with
  | some s => ∃ tid e xs, H s = .row tid e xs ∧ x.2.2 = .row tid e xs
  | none => ∃ tid e, x.2.2 = .row tid e []

theorem kill_rep {I : Imm} {w : World} {ρ ρ' : Nat → Value} {kept : List Nat} (hk : ∀ id ∈ kept, ρ' id = ρ id) {s : SV} {v : Value} (h : SRep I w ρ s v) : SRep I w ρ' (killSV kept s) v := by
  have h1 := h.one
  cases s <;> simp only [killSV, cond_eq_ite] <;> (try exact h)
  case row id =>
    split
    · rename_i hm; exact SRep.ren (fun i hi => by simp only [refs, List.mem_singleton] at hi; subst hi; exact hk _ ((mem_spec _ _).1 hm)) h
    · exact h1
  case ptr id off =>
    split
    · rename_i hm; exact SRep.ren (fun i hi => by simp only [refs, List.mem_singleton] at hi; subst hi; exact hk _ ((mem_spec _ _).1 hm)) h
    · exact h1
  case clo f js =>
    split
    · rename_i hm; exact SRep.ren (fun i hi => hk _ ((mem_spec _ _).1 (List.all_eq_true.1 hm i hi))) h
    · exact h1
theorem kill_refs {kept : List Nat} {s : SV} : ∀ id ∈ refs (killSV kept s), id ∈ kept ∧ id ∈ refs s := by
  intro id hid
  cases s <;> simp only [killSV, cond_eq_ite] at hid <;> (try (simp [refs] at hid; done))
  case row i =>
    split at hid
    · rename_i hm; simp only [refs, List.mem_singleton] at hid; subst hid; exact ⟨(mem_spec _ _).1 hm, by simp [refs]⟩
    · simp [refs] at hid
  case ptr i off =>
    split at hid
    · rename_i hm; simp only [refs, List.mem_singleton] at hid; subst hid; exact ⟨(mem_spec _ _).1 hm, by simp [refs]⟩
    · simp [refs] at hid
  case clo f js =>
    split at hid
    · rename_i hm; exact ⟨(mem_spec _ _).1 (List.all_eq_true.1 hm id hid), hid⟩
    · simp [refs] at hid

/-- A cell taken over. -/
structure Taken (H : Nat → Blk) (kept : List Nat) (I : Imm) (w : World) (ρ ρ' : Nat → Value) (s s' : SV) (us : List Ent) : Prop where
  ent : ∀ x ∈ us, entOK H x
  refs : ∀ id ∈ refs s', (id ∈ kept ∧ id ∈ Pev.refs s) ∨ id ∈ us.map (·.1)

theorem conv_rep {I : Imm} {ρ ρ' : Nat → Value} {a : Act} {w : World} (hs : Sim C I ρ st a w) {kept : List Nat} (hk : ∀ id ∈ kept, ρ' id = ρ id) {m : CM} {s s' : SV} {us : List Ent} (h : convSV st.H kept m s = some (s', us)) (hu : ∀ x ∈ us, ρ' x.1 = srcVal ρ x) :
    (∀ x ∈ us, entOK st.H x) ∧ (∀ id ∈ refs s', (id ∈ kept ∧ id ∈ refs s) ∨ id ∈ us.map (·.1)) ∧ ∀ v, SRep I w ρ s v → SRep I w ρ' s' v := by
  unfold convSV at h
  split at h
  · simp only [Option.some.injEq, Prod.mk.injEq] at h
    obtain ⟨rfl, rfl⟩ := h
    exact ⟨by simp, fun id hid => .inl (kill_refs id hid), fun v hv => kill_rep hk hv⟩
  · split at h
    · rename_i xs hx
      simp only [Option.some.injEq, Prod.mk.injEq] at h
      obtain ⟨rfl, rfl⟩ := h
      exact ⟨by simp, by simp [refs], fun v hv => hs.viewOf hx hv⟩
    · cases h
  · rename_i c tid e id
    simp only [cond_eq_ite] at h
    split at h
    · rename_i tid' e' xs hH
      split at h
      · rename_i ht
        have := Nat.eq_of_beq_eq_true ht
        subst this
        split at h
        · rename_i xs' hx
          obtain ⟨rfl, rfl⟩ := castL_eq hx
          simp only [Option.some.injEq, Prod.mk.injEq] at h
          obtain ⟨rfl, rfl⟩ := h
          refine ⟨by simp [entOK, hH], by simp [refs], fun v hv => ⟨?_, hv.2⟩⟩
          have h5 := hu _ (List.mem_singleton.2 rfl)
          exact hv.1.trans h5.symm
        · cases h
      · cases h
    · cases h
  · simp only [Option.some.injEq, Prod.mk.injEq] at h
    obtain ⟨rfl, rfl⟩ := h
    refine ⟨by simp [entOK], by simp [refs], fun v hv => ?_⟩
    have hv' : v = .slice none 0 0 := hv
    have h5 := hu _ (List.mem_singleton.2 rfl)
    exact ⟨hv'.trans h5.symm, by rw [hv']; rfl⟩
  · cases h

theorem convCells_rep {I : Imm} {ρ ρ' : Nat → Value} {a : Act} {w : World} (hs : Sim C I ρ st a w) {kept : List Nat} (hk : ∀ id ∈ kept, ρ' id = ρ id) : ∀ (ms : List CM) (cs cs' : List SV) (us : List Ent), convCells st.H kept ms cs = some (cs', us) → (∀ x ∈ us, ρ' x.1 = srcVal ρ x) →
    (∀ x ∈ us, entOK st.H x) ∧ (∀ s' ∈ cs', ∀ id ∈ refs s', (id ∈ kept ∧ ∃ s ∈ cs, id ∈ refs s) ∨ id ∈ us.map (·.1)) ∧ ∀ vs, All2 (SRep I w ρ) cs vs → All2 (SRep I w ρ') cs' vs
  | [], [], cs', us, h, hu => by
    simp only [convCells, Option.some.injEq, Prod.mk.injEq] at h
    obtain ⟨rfl, rfl⟩ := h
    exact ⟨by simp, by simp, fun vs h => by match vs, h with | [], _ => trivial⟩
  | [], s :: r, cs', us, h, hu => by
    simp only [convCells] at h
    split at h
    · rename_i r' us' h1
      simp only [Option.some.injEq, Prod.mk.injEq] at h
      obtain ⟨rfl, rfl⟩ := h
      obtain ⟨e1, e2, e3⟩ := convCells_rep hs hk [] r r' us' h1 hu
      refine ⟨e1, fun s' hs' id hid => ?_, fun vs h => ?_⟩
      · rcases List.mem_cons.1 hs' with rfl | hs'
        · exact .inl ⟨(kill_refs id hid).1, s, by simp, (kill_refs id hid).2⟩
        · rcases e2 s' hs' id hid with ⟨h3, s2, h4, h5⟩ | h3
          · exact .inl ⟨h3, s2, List.mem_cons_of_mem _ h4, h5⟩
          · exact .inr h3
      · match vs, h with
        | v :: vs, ⟨h3, h4⟩ => exact ⟨kill_rep hk h3, e3 vs h4⟩
    · cases h
  | m :: ms, s :: r, cs', us, h, hu => by
    simp only [convCells] at h
    split at h
    · rename_i s' us1 r' us' h0 h1
      simp only [Option.some.injEq, Prod.mk.injEq] at h
      obtain ⟨rfl, rfl⟩ := h
      obtain ⟨f1, f2, f3⟩ := conv_rep hs hk h0 (fun x hx => hu x (List.mem_append.2 (.inl hx)))
      obtain ⟨e1, e2, e3⟩ := convCells_rep hs hk ms r r' us' h1 (fun x hx => hu x (List.mem_append.2 (.inr hx)))
      refine ⟨fun x hx => (List.mem_append.1 hx).elim (f1 x) (e1 x), fun s2 hs2 id hid => ?_, fun vs h => ?_⟩
      · rw [List.map_append, List.mem_append]
        rcases List.mem_cons.1 hs2 with rfl | hs2
        · rcases f2 id hid with ⟨h3, h4⟩ | h3
          · exact .inl ⟨h3, s, by simp, h4⟩
          · exact .inr (.inl h3)
        · rcases e2 s2 hs2 id hid with ⟨h3, s3, h4, h5⟩ | h3
          · exact .inl ⟨h3, s3, List.mem_cons_of_mem _ h4, h5⟩
          · exact .inr (.inr h3)
      · match vs, h with
        | v :: vs, ⟨h3, h4⟩ => exact ⟨f3 v h3, e3 vs h4⟩
    · cases h
  | _ :: _, [], _, _, h, _ => by simp [convCells] at h

theorem convAV_rep {I : Imm} {ρ ρ' : Nat → Value} {a : Act} {w : World} (hs : Sim C I ρ st a w) {kept : List Nat} (hk : ∀ id ∈ kept, ρ' id = ρ id) {ms : List CM} {v v' : AV} {us : List Ent} (h : convAV st.H kept ms v = some (v', us)) (hu : ∀ x ∈ us, ρ' x.1 = srcVal ρ x) :
    (∀ x ∈ us, entOK st.H x) ∧ (∀ id ∈ refsAV v', (id ∈ kept ∧ id ∈ refsAV v) ∨ id ∈ us.map (·.1)) ∧ ∀ u, AVRep I w ρ v u → AVRep I w ρ' v' u := by
  unfold convAV at h
  split at h
  · rename_i s
    split at h
    · rename_i s' us' hc
      simp only [Option.some.injEq, Prod.mk.injEq] at h
      obtain ⟨rfl, rfl⟩ := h
      obtain ⟨e1, e2, e3⟩ := convCells_rep hs hk ms [s] [s'] us' hc hu
      refine ⟨e1, fun id hid => ?_, fun u hav => ?_⟩
      · rcases e2 s' (by simp) id hid with ⟨h1, s2, h2, h3⟩ | h1
        · simp only [List.mem_singleton] at h2; subst h2; exact .inl ⟨h1, h3⟩
        · exact .inr h1
      · by_cases hne : s = .undef
        · subst hne
          have : s' = .undef := by
            match ms, hc with
            | [], hc => simp [convCells, killSV] at hc; exact hc.1.symm
            | m :: [], hc =>
              cases m with
              | keep => simp [convCells, convSV, killSV] at hc; exact hc.1.symm
              | view e => simp [convCells, convSV, viewOf] at hc
              | own c t e => simp [convCells, convSV] at hc
            | m :: m2 :: ms, hc =>
              cases hcs : convSV st.H kept m SV.undef <;> simp [convCells, hcs] at hc
          subst this
          trivial
        · exact SRep.av (e3 [u] ⟨hav.sc hne, trivial⟩).1
    · cases h
  · rename_i cs
    split at h
    · rename_i cs' us' hc
      simp only [Option.some.injEq, Prod.mk.injEq] at h
      obtain ⟨rfl, rfl⟩ := h
      obtain ⟨e1, e2, e3⟩ := convCells_rep hs hk ms cs cs' us' hc hu
      refine ⟨e1, fun id hid => ?_, fun u ⟨vs, h1, h2⟩ => ⟨vs, h1, e3 _ h2⟩⟩
      obtain ⟨s', h1, h2⟩ := List.mem_flatMap.1 hid
      rcases e2 s' h1 id h2 with ⟨h3, s, h4, h5⟩ | h3
      · exact .inl ⟨h3, List.mem_flatMap.2 ⟨s, h4, h5⟩⟩
      · exact .inr h3
    · cases h
  · split at h
    · simp only [Option.some.injEq, Prod.mk.injEq] at h
      obtain ⟨rfl, rfl⟩ := h
      exact ⟨by simp, by simp [refsAV, refs], fun _ _ => trivial⟩
    · cases h

theorem takeT_mem (kept : List Nat) : ∀ (ts : List (Nat × List CM)) (vs : List AV) (us : List Ent), takeT st kept ts = some (vs, us) → ∀ t, tabT ts vs t = .sc .undef ∨ ∃ ms us', (∀ x ∈ us', x ∈ us) ∧ convAV st.H kept ms (st.T t) = some (tabT ts vs t, us')
  | [], vs, us, h, t => .inl (by cases vs <;> rfl)
  | (t0, ms) :: r, vs, us, h, t => by
    simp only [takeT] at h
    split at h
    · rename_i v us1 vs' us2 h1 h2
      simp only [Option.some.injEq, Prod.mk.injEq] at h
      obtain ⟨rfl, rfl⟩ := h
      simp only [tabT, cond_eq_ite]
      split
      · rename_i e
        have := Nat.eq_of_beq_eq_true e
        subst this
        exact .inr ⟨ms, us1, fun x hx => List.mem_append.2 (.inl hx), h1⟩
      · rcases takeT_mem kept r vs' us2 h2 t with h3 | ⟨ms', us', h3, h4⟩
        · exact .inl h3
        · exact .inr ⟨ms', us', fun x hx => List.mem_append.2 (.inr (h3 x hx)), h4⟩
    · cases h
theorem takeT_ents (kept : List Nat) : ∀ (ts : List (Nat × List CM)) (vs : List AV) (us : List Ent), takeT st kept ts = some (vs, us) → ∀ x ∈ us, ∃ t ms v us', x ∈ us' ∧ (∀ y ∈ us', y ∈ us) ∧ convAV st.H kept ms (st.T t) = some (v, us')
  | [], vs, us, h, x, hx => by simp only [takeT, Option.some.injEq, Prod.mk.injEq] at h; obtain ⟨_, rfl⟩ := h; cases hx
  | (t0, ms) :: r, vs, us, h, x, hx => by
    simp only [takeT] at h
    split at h
    · rename_i v us1 vs' us2 h1 h2
      simp only [Option.some.injEq, Prod.mk.injEq] at h
      obtain ⟨rfl, rfl⟩ := h
      rcases List.mem_append.1 hx with hx | hx
      · exact ⟨t0, ms, v, us1, hx, fun y hy => List.mem_append.2 (.inl hy), h1⟩
      · obtain ⟨t, ms', v', us', g1, g2, g3⟩ := takeT_ents kept r vs' us2 h2 x hx
        exact ⟨t, ms', v', us', g1, fun y hy => List.mem_append.2 (.inr (g2 y hy)), g3⟩
    · cases h
theorem takeH_zip (kept : List Nat) : ∀ (hs : List (Nat × List CM)) (bs : List Blk) (us : List Ent), takeH st kept hs = some (bs, us) → bs.length = hs.length ∧ (∀ id b, (id, b) ∈ (hs.map (·.1)).zip bs → ∃ ms us', (∀ x ∈ us', x ∈ us) ∧ convBlk st.H kept ms (st.H id) = some (b, us')) ∧
    ∀ x ∈ us, ∃ id ms b us', x ∈ us' ∧ (∀ y ∈ us', y ∈ us) ∧ convBlk st.H kept ms (st.H id) = some (b, us')
  | [], bs, us, h => by simp only [takeH, Option.some.injEq, Prod.mk.injEq] at h; obtain ⟨rfl, rfl⟩ := h; simp
  | (h0, ms) :: r, bs, us, h => by
    simp only [takeH] at h
    split at h
    · rename_i v us1 vs' us2 h1 h2
      simp only [Option.some.injEq, Prod.mk.injEq] at h
      obtain ⟨rfl, rfl⟩ := h
      obtain ⟨e1, e2, e3⟩ := takeH_zip kept r vs' us2 h2
      refine ⟨by simp [e1], fun id b hm => ?_, fun x hx => ?_⟩
      · simp only [List.map_cons, List.zip_cons_cons, List.mem_cons, Prod.mk.injEq] at hm
        rcases hm with ⟨rfl, rfl⟩ | hm
        · exact ⟨ms, us1, fun x hx => List.mem_append.2 (.inl hx), h1⟩
        · obtain ⟨ms', us', g1, g2⟩ := e2 id b hm
          exact ⟨ms', us', fun x hx => List.mem_append.2 (.inr (g1 x hx)), g2⟩
      · rcases List.mem_append.1 hx with hx | hx
        · exact ⟨h0, ms, v, us1, hx, fun y hy => List.mem_append.2 (.inl hy), h1⟩
        · obtain ⟨id, ms', b, us', g1, g2, g3⟩ := e3 x hx
          exact ⟨id, ms', b, us', g1, fun y hy => List.mem_append.2 (.inr (g2 y hy)), g3⟩
    · cases h

theorem tabH_zip : ∀ (ids : List Nat) (bs : List Blk) (id : Nat), tabH ids bs id = .none ∨ (id, tabH ids bs id) ∈ ids.zip bs
  | [], bs, id => .inl (by cases bs <;> rfl)
  | i :: ids, [], id => .inl rfl
  | i :: ids, b :: bs, id => by
    simp only [tabH, cond_eq_ite]
    split
    · rename_i e
      have := Nat.eq_of_beq_eq_true e
      subst this
      exact .inr (by simp)
    · rcases tabH_zip ids bs id with h | h
      · exact .inl h
      · exact .inr (by simp [h])
theorem tabH_in : ∀ (ids : List Nat) (bs : List Blk) (id : Nat) (b : Blk), ids.Nodup → (id, b) ∈ ids.zip bs → tabH ids bs id = b
  | i :: ids, b0 :: bs, id, b, hn, h => by
    simp only [List.zip_cons_cons, List.mem_cons, Prod.mk.injEq] at h
    simp only [tabH, cond_eq_ite]
    have hn' := List.nodup_cons.1 hn
    rcases h with ⟨rfl, rfl⟩ | h
    · rw [if_pos (Nat.beq_refl id)]
    · have hne : ¬ Nat.beq id i = true := fun e => by
        have := Nat.eq_of_beq_eq_true e
        subst this
        exact hn'.1 (List.of_mem_zip h).1
      rw [if_neg hne]
      exact tabH_in ids bs id b hn'.2 h
theorem zip_append_mem {α β : Type} : ∀ (l1 l2 : List α) (m1 m2 : List β), l1.length = m1.length → ∀ p, p ∈ (l1 ++ l2).zip (m1 ++ m2) ↔ p ∈ l1.zip m1 ∨ p ∈ l2.zip m2
  | [], l2, [], m2, _, p => by simp
  | a :: l1, l2, b :: m1, m2, h, p => by
    simp only [List.cons_append, List.zip_cons_cons, List.mem_cons]
    rw [zip_append_mem l1 l2 m1 m2 (by simpa using h) p, or_assoc]
theorem zip_map_self {α β : Type} (f : α → β) : ∀ (l : List α) (x : α) (y : β), (x, y) ∈ l.zip (l.map f) → x ∈ l ∧ y = f x
  | a :: l, x, y, h => by
    simp only [List.map_cons, List.zip_cons_cons, List.mem_cons, Prod.mk.injEq] at h
    rcases h with ⟨rfl, rfl⟩ | h
    · exact ⟨by simp, rfl⟩
    · obtain ⟨h1, h2⟩ := zip_map_self f l x y h
      exact ⟨List.mem_cons_of_mem _ h1, h2⟩
theorem zip_maps {α β γ : Type} (f : α → β) (g : α → γ) : ∀ (l : List α) (x : β) (y : γ), (x, y) ∈ (l.map f).zip (l.map g) ↔ ∃ a ∈ l, f a = x ∧ g a = y
  | [], x, y => by simp
  | a :: l, x, y => by
    simp only [List.map_cons, List.zip_cons_cons, List.mem_cons, Prod.mk.injEq, zip_maps f g l x y, exists_eq_or_imp]
    constructor
    · rintro (⟨rfl, rfl⟩ | h)
      · exact .inl ⟨rfl, rfl⟩
      · exact .inr h
    · rintro (⟨rfl, rfl⟩ | h)
      · exact .inl ⟨rfl, rfl⟩
      · exact .inr h

theorem eqNats_spec : ∀ (l m : List Nat), eqNats l m = true → l = m
  | [], [], _ => rfl
  | x :: l, y :: m, h => by
    simp only [eqNats, cond_eq_ite] at h
    split at h
    · rename_i e; rw [Nat.eq_of_beq_eq_true e, eqNats_spec l m h]
    · cases h
  | [], _ :: _, h => by simp [eqNats] at h
  | _ :: _, [], h => by simp [eqNats] at h

theorem find_ent (ρ : Nat → Value) : ∀ (U : List Ent), (U.map (·.1)).Nodup → ∀ x ∈ U, U.find? (fun y => y.1 == x.1) = some x
  | y :: U, hn, x, hx => by
    simp only [List.map_cons, List.nodup_cons] at hn
    rw [List.find?_cons]
    by_cases e : y.1 = x.1
    · rcases List.mem_cons.1 hx with rfl | hx
      · simp
      · exact absurd (List.mem_map.2 ⟨x, hx, e.symm⟩) hn.1
    · rcases List.mem_cons.1 hx with rfl | hx
      · exact absurd rfl e
      · have : (y.1 == x.1) = false := by simpa using e
        rw [this]
        exact find_ent ρ U hn.2 x hx

theorem sources_mem : ∀ (U : List Ent) (x : Ent) (s : Nat), x ∈ U → x.2.1 = some s → s ∈ sources U
  | (c, some id, b) :: U, x, s, hx, e => by
    simp only [sources, List.mem_cons]
    rcases List.mem_cons.1 hx with rfl | hx
    · simp only [Option.some.injEq] at e; exact .inl e.symm
    · exact .inr (sources_mem U x s hx e)
  | (c, none, b) :: U, x, s, hx, e => by
    simp only [sources]
    rcases List.mem_cons.1 hx with rfl | hx
    · cases e
    · exact sources_mem U x s hx e
theorem sources_inj : ∀ (U : List Ent), (sources U).Nodup → ∀ x ∈ U, ∀ y ∈ U, ∀ s, x.2.1 = some s → y.2.1 = some s → x = y
  | (c, some id, b) :: U, hn, x, hx, y, hy, s, ex, ey => by
    simp only [sources, List.nodup_cons] at hn
    rcases List.mem_cons.1 hx with rfl | hx
    · rcases List.mem_cons.1 hy with rfl | hy
      · rfl
      · simp only [Option.some.injEq] at ex; subst ex
        exact absurd (sources_mem U y id hy ey) hn.1
    · rcases List.mem_cons.1 hy with rfl | hy
      · simp only [Option.some.injEq] at ey; subst ey
        exact absurd (sources_mem U x id hx ex) hn.1
      · exact sources_inj U hn.2 x hx y hy s ex ey
  | (c, none, b) :: U, hn, x, hx, y, hy, s, ex, ey => by
    simp only [sources] at hn
    rcases List.mem_cons.1 hx with rfl | hx
    · cases ex
    · rcases List.mem_cons.1 hy with rfl | hy
      · cases ey
      · exact sources_inj U hn x hx y hy s ex ey

/-- What a mask takes over still tells of the machine. -/
theorem Mask.take_sound {I : Imm} {ρ : Nat → Value} {a : Act} {w : World} (hs : Sim C I ρ st a w) {m : Mask} {l : LS} (h : m.take st = some l) : ∃ ρ', Sim C I ρ' (m.state l) a w := by
  unfold Mask.take at h
  split at h
  · rename_i vs us bs us' h1 h2
    simp only [cond_eq_ite] at h
    split at h
    · rename_i hc
      simp only [Bool.and_eq_true] at hc
      obtain ⟨⟨⟨⟨⟨c1, c2⟩, c3⟩, c4⟩, c5⟩, c6⟩ := hc
      injection h with h
      subst h
      have n1 := nodup_spec _ c1
      have n2 := nodup_spec _ c2
      have n3 := disj_spec _ _ c3
      have n4 := eqNats_spec _ _ c4
      have hids : (m.kept ++ (us ++ us').map (·.1)).Nodup := by rw [n4]; exact n1
      have hkn := (List.nodup_append.1 hids)
      let ρ' : Nat → Value := fun id => match (us ++ us').find? (fun y => y.1 == id) with
        | some x => srcVal ρ x
        | none => ρ id
      have hu : ∀ x ∈ us ++ us', ρ' x.1 = srcVal ρ x := fun x hx => by
        show (match (us ++ us').find? (fun y => y.1 == x.1) with | some x => srcVal ρ x | none => ρ x.1) = _
        rw [find_ent ρ _ hkn.2.1 x hx]
      have hk : ∀ id ∈ m.kept, ρ' id = ρ id := fun id hid => by
        show (match (us ++ us').find? (fun y => y.1 == id) with | some x => srcVal ρ x | none => ρ id) = _
        have : (us ++ us').find? (fun y => y.1 == id) = none := by
          rw [List.find?_eq_none]
          intro x hx
          simp only [beq_iff_eq]
          exact fun e => hkn.2.2 id hid x.1 (List.mem_map.2 ⟨x, hx, rfl⟩) e.symm
        rw [this]
      obtain ⟨z1, z2, z3⟩ := takeH_zip m.kept m.hs bs us' h2
      have hent : ∀ x ∈ us ++ us', entOK st.H x := fun x hx => by
        rcases List.mem_append.1 hx with hx' | hx'
        · obtain ⟨t, ms, v, ue, g1, g2, g3⟩ := takeT_ents m.kept m.ts vs us h1 x hx'
          exact (convAV_rep hs hk g3 (fun y hy => hu y (List.mem_append.2 (.inl (g2 y hy))))).1 x g1
        · obtain ⟨id, ms, b, ue, g1, g2, g3⟩ := z3 x hx'
          unfold convBlk at g3
          split at g3
          · rename_i cs e
            split at g3
            · rename_i cs' ue' g4
              simp only [Option.some.injEq, Prod.mk.injEq] at g3
              obtain ⟨rfl, rfl⟩ := g3
              exact (convCells_rep hs hk _ _ _ _ g4 (fun y hy => hu y (List.mem_append.2 (.inr (g2 y hy))))).1 x g1
            · cases g3
          · split at g3
            · simp only [Option.some.injEq, Prod.mk.injEq] at g3
              obtain ⟨_, rfl⟩ := g3
              cases g1
            · cases g3
          · cases g3
      -- what stands under a number
      have hblk : ∀ id, (m.state (vs, bs ++ (m.rows.map st.H ++ (us ++ us').map (·.2.2)))).H id = .none ∨
          (id ∈ m.kept ∧ ∃ cs' ms ue, (∀ y ∈ ue, y ∈ us') ∧ ∃ cs, st.H id = .box cs ∧ convCells st.H m.kept ms cs = some (cs', ue) ∧ (m.state (vs, bs ++ (m.rows.map st.H ++ (us ++ us').map (·.2.2)))).H id = .box cs') ∨
          (id ∈ m.kept ∧ (∃ tid e xs, st.H id = .row tid e xs) ∧ (m.state (vs, bs ++ (m.rows.map st.H ++ (us ++ us').map (·.2.2)))).H id = st.H id) ∨
          (∃ x ∈ us ++ us', x.1 = id ∧ (m.state (vs, bs ++ (m.rows.map st.H ++ (us ++ us').map (·.2.2)))).H id = x.2.2) := by
        intro id
        rcases tabH_zip m.ids (bs ++ (m.rows.map st.H ++ (us ++ us').map (·.2.2))) id with h0 | h0
        · exact .inl h0
        · have e0 : (m.state (vs, bs ++ (m.rows.map st.H ++ (us ++ us').map (·.2.2)))).H id = tabH m.ids (bs ++ (m.rows.map st.H ++ (us ++ us').map (·.2.2))) id := rfl
          rw [e0]
          have hm := h0
          have eids : m.ids = m.hs.map (·.1) ++ (m.rows ++ (us ++ us').map (·.1)) := by
            show m.kept ++ m.owns = _
            rw [← n4]
            show (m.hs.map (·.1) ++ m.rows) ++ _ = _
            rw [List.append_assoc]
          generalize tabH m.ids (bs ++ (m.rows.map st.H ++ (us ++ us').map (·.2.2))) id = bb at hm ⊢
          rw [eids, zip_append_mem _ _ _ _ (by simp [z1]), zip_append_mem _ _ _ _ (by simp)] at hm
          rcases hm with hm | hm | hm
          · obtain ⟨ms, ue, g1, g2⟩ := z2 id bb hm
            have hkp : id ∈ m.kept := List.mem_append.2 (.inl (List.of_mem_zip hm).1)
            unfold convBlk at g2
            split at g2
            · rename_i cs e
              split at g2
              · rename_i cs' ue' g4
                simp only [Option.some.injEq, Prod.mk.injEq] at g2
                obtain ⟨rfl, rfl⟩ := g2
                exact .inr (.inl ⟨hkp, cs', ms, ue', g1, cs, e, g4, rfl⟩)
              · cases g2
            · split at g2
              · simp only [Option.some.injEq, Prod.mk.injEq] at g2
                exact .inl g2.1.symm
              · cases g2
            · cases g2
          · obtain ⟨g1, g2⟩ := zip_map_self st.H m.rows id bb hm
            have hkp : id ∈ m.kept := List.mem_append.2 (.inr g1)
            have hrow := List.all_eq_true.1 c5 id g1
            refine .inr (.inr (.inl ⟨hkp, ?_, g2⟩))
            cases hH : st.H id <;> rw [hH] at hrow <;> simp [isRow] at hrow
            exact ⟨_, _, _, rfl⟩
          · obtain ⟨x, g1, g2, g3⟩ := (zip_maps (fun x : Ent => x.1) (fun x : Ent => x.2.2) (us ++ us') id bb).1 hm
            exact .inr (.inr (.inr ⟨x, g1, g2, g3.symm⟩))
      -- a number that names something still does
      have hlive : ∀ id, (id ∈ m.kept ∧ st.H id ≠ .none) ∨ id ∈ (us ++ us').map (·.1) → (m.state (vs, bs ++ (m.rows.map st.H ++ (us ++ us').map (·.2.2)))).H id ≠ .none := by
        intro id hid
        have eids : m.ids = m.hs.map (·.1) ++ (m.rows ++ (us ++ us').map (·.1)) := by
          show m.kept ++ m.owns = _
          rw [← n4]
          show (m.hs.map (·.1) ++ m.rows) ++ _ = _
          rw [List.append_assoc]
        have hin : ∀ b, (id, b) ∈ m.ids.zip (bs ++ (m.rows.map st.H ++ (us ++ us').map (·.2.2))) → (m.state (vs, bs ++ (m.rows.map st.H ++ (us ++ us').map (·.2.2)))).H id = b := fun b hb => tabH_in _ _ id b n1 hb
        rcases hid with ⟨hkp, hne⟩ | hid
        · rcases List.mem_append.1 hkp with hm | hm
          · obtain ⟨k, hk'⟩ := List.mem_iff_getElem?.1 hm
            have hlt : k < bs.length := by
              have := (List.getElem?_eq_some_iff.1 hk').1
              simp at this; omega
            have hz : (id, bs[k]) ∈ (m.hs.map (·.1)).zip bs := by
              refine List.mem_iff_getElem?.2 ⟨k, ?_⟩
              rw [List.getElem?_zip_eq_some]
              exact ⟨hk', List.getElem?_eq_getElem hlt⟩
            rw [hin bs[k] (by rw [eids, zip_append_mem _ _ _ _ (by simp [z1])]; exact .inl hz)]
            obtain ⟨ms, ue, _, g2⟩ := z2 id bs[k] hz
            unfold convBlk at g2
            split at g2
            · split at g2
              · simp only [Option.some.injEq, Prod.mk.injEq] at g2
                rw [← g2.1]
                simp
              · cases g2
            · rename_i e; exact absurd e hne
            · cases g2
          · rw [hin (st.H id) (by
              rw [eids, zip_append_mem _ _ _ _ (by simp [z1]), zip_append_mem _ _ _ _ (by simp)]
              refine .inr (.inl ?_)
              have := (zip_maps (fun x : Nat => x) st.H m.rows id (st.H id)).2 ⟨id, hm, rfl, rfl⟩
              simpa using this)]
            exact hne
        · obtain ⟨x, hx, e⟩ := List.mem_map.1 hid
          rw [hin x.2.2 (by
            rw [eids, zip_append_mem _ _ _ _ (by simp [z1]), zip_append_mem _ _ _ _ (by simp)]
            exact .inr (.inr ((zip_maps (fun x : Ent => x.1) (fun x : Ent => x.2.2) (us ++ us') id x.2.2).2 ⟨x, hx, e, rfl⟩)))]
          have := hent x hx
          unfold entOK at this
          split at this
          · obtain ⟨tid, e', xs, _, h6⟩ := this; rw [h6]; simp
          · obtain ⟨tid, e', h6⟩ := this; rw [h6]; simp
      -- where each stands
      have hbkx : ∀ x ∈ us ++ us', ∀ g, bk ρ' x.1 x.2.2 = some g → ∃ s, x.2.1 = some s ∧ bk ρ s (st.H s) = some g := by
        intro x hx g hg
        have h5 := hent x hx
        unfold entOK at h5
        split at h5
        · rename_i s es
          obtain ⟨tid, e', xs, h6, h7⟩ := h5
          refine ⟨s, es, ?_⟩
          rw [h7] at hg
          simp only [bk, hu x hx, srcVal, es] at hg
          rw [h6]
          exact hg
        · rename_i es
          obtain ⟨tid, e', h7⟩ := h5
          rw [h7] at hg
          simp [bk, hu x hx, srcVal, es, Value.ownBlock] at hg
      have hbk : ∀ id g, bk ρ' id ((m.state (vs, bs ++ (m.rows.map st.H ++ (us ++ us').map (·.2.2)))).H id) = some g →
          (id ∈ m.kept ∧ bk ρ id (st.H id) = some g) ∨ ∃ x ∈ us ++ us', x.1 = id ∧ ∃ s, x.2.1 = some s ∧ bk ρ s (st.H s) = some g := by
        intro id g hg
        rcases hblk id with h0 | ⟨hkp, cs', ms, ue, _, cs, e1, _, e2⟩ | ⟨hkp, ⟨tid, e, xs, e1⟩, e2⟩ | ⟨x, hx, e1, e2⟩
        · rw [h0] at hg; cases hg
        · rw [e2] at hg
          simp only [bk, hk id hkp] at hg
          exact .inl ⟨hkp, by rw [e1]; exact hg⟩
        · rw [e2, e1] at hg
          simp only [bk, hk id hkp] at hg
          exact .inl ⟨hkp, by rw [e1]; exact hg⟩
        · rw [e2, ← e1] at hg
          exact .inr ⟨x, hx, e1, hbkx x hx g hg⟩
      refine ⟨ρ', ?_⟩
      exact { hs with
        tmps := fun t => by
          show AVRep I w ρ' (tabT m.ts vs t) _
          rcases takeT_mem m.kept m.ts vs us h1 t with h0 | ⟨ms, ue, g1, g2⟩
          · rw [h0]; trivial
          · exact (convAV_rep hs hk g2 (fun y hy => hu y (List.mem_append.2 (.inl (g1 y hy))))).2.2 _ (hs.tmps t)
        blks := fun id => by
          rcases hblk id with h0 | ⟨hkp, cs', ms, ue, g1, cs, e1, e3, e2⟩ | ⟨hkp, ⟨tid, e, xs, e1⟩, e2⟩ | ⟨x, hx, e1, e2⟩
          · rw [h0]; trivial
          · rw [e2]
            have hb := hs.blks id
            rw [e1] at hb
            obtain ⟨B, hB, cur, T, b1, b2, b3⟩ := hb
            exact ⟨B, by rw [hk id hkp]; exact hB, cur, T, b1, (convCells_rep hs hk _ _ _ _ e3 (fun y hy => hu y (List.mem_append.2 (.inr (g1 y hy))))).2.2 _ b2, b3⟩
          · rw [e2]
            have hb := hs.blks id
            rw [e1] at hb ⊢
            show rowRep _ _ _ _ _ _ _
            rw [hk id hkp]
            exact hb
          · rw [e2, ← e1]
            have h5 := hent x hx
            unfold entOK at h5
            split at h5
            · rename_i s es
              obtain ⟨tid, e', xs, h6, h7⟩ := h5
              rw [h7]
              show rowRep _ _ _ _ _ _ _
              rw [hu x hx]
              simp only [srcVal, es]
              have hb := hs.blks s
              rw [h6] at hb
              exact hb
            · rename_i es
              obtain ⟨tid, e', h7⟩ := h5
              rw [h7]
              show rowRep _ _ _ _ _ _ _
              rw [hu x hx]
              simp only [srcVal, es]
              exact ⟨[], rfl, World.ownsRow_nil _ _ _ _, rfl, ty_pos e', by simp [Value.ownBlock]⟩
        apart := fun i j g hi hj => by
          rcases hbk i g hi with ⟨k1, b1⟩ | ⟨x, hx, e1, s, es, b1⟩
          · rcases hbk j g hj with ⟨k2, b2⟩ | ⟨y, hy, e2, s2, es2, b2⟩
            · exact hs.apart i j g b1 b2
            · have := hs.apart i s2 g b1 b2
              subst this
              exact absurd k1 (n3 i (sources_mem _ y i hy es2))
          · rcases hbk j g hj with ⟨k2, b2⟩ | ⟨y, hy, e2, s2, es2, b2⟩
            · have := hs.apart s j g b1 b2
              subst this
              exact absurd k2 (n3 s (sources_mem _ x s hx es))
            · have := hs.apart s s2 g b1 b2
              subst this
              have := sources_inj _ n2 x hx y hy s es es2
              subst this
              rw [← e1, ← e2]
        args := fun i B hi => by
          show (match (us ++ us').find? (fun y => y.1 == i) with | some x => srcVal ρ x | none => ρ i) = _
          have : (us ++ us').find? (fun y => y.1 == i) = none := by
            rw [List.find?_eq_none]
            intro x hx
            simp only [beq_iff_eq]
            intro e
            have h9 : x.1 ∈ m.owns := by rw [← n4]; exact List.mem_map.2 ⟨x, hx, rfl⟩
            have h10 := Nat.le_of_ble_eq_true (List.all_eq_true.1 c6 x.1 h9)
            have h11 := (C.hZ i B hi).2
            omega
          rw [this]
          exact hs.args i B hi
        home := fun i g hi => by
          rcases hbk i g hi with ⟨_, b1⟩ | ⟨x, hx, _, s, _, b1⟩
          · exact hs.home i g b1
          · exact hs.home s g b1
        refT := fun t id hid => by
          change id ∈ refsAV (tabT m.ts vs t) at hid
          rcases takeT_mem m.kept m.ts vs us h1 t with h0 | ⟨ms, ue, g1, g2⟩
          · rw [h0] at hid; simp [refsAV, refs] at hid
          · rcases (convAV_rep hs hk g2 (fun y hy => hu y (List.mem_append.2 (.inl (g1 y hy))))).2.1 id hid with ⟨h3, h4⟩ | h3
            · exact hlive id (.inl ⟨h3, hs.refT t id h4⟩)
            · obtain ⟨y, hy, e⟩ := List.mem_map.1 h3
              exact hlive id (.inr (List.mem_map.2 ⟨y, List.mem_append.2 (.inl (g1 y hy)), e⟩))
        refH := fun id cs2 hc2 s hsm i hi => by
          rcases hblk id with h0 | ⟨hkp, cs', ms, ue, g1, cs, e1, e3, e2⟩ | ⟨hkp, ⟨tid, e, xs, e1⟩, e2⟩ | ⟨x, hx, e1, e2⟩
          · rw [h0] at hc2; cases hc2
          · rw [e2] at hc2
            injection hc2 with hc2
            subst hc2
            rcases (convCells_rep hs hk _ _ _ _ e3 (fun y hy => hu y (List.mem_append.2 (.inr (g1 y hy))))).2.1 s hsm i hi with ⟨h3, s2, h4, h5⟩ | h3
            · exact hlive i (.inl ⟨h3, hs.refH id cs e1 s2 h4 i h5⟩)
            · obtain ⟨y, hy, e⟩ := List.mem_map.1 h3
              exact hlive i (.inr (List.mem_map.2 ⟨y, List.mem_append.2 (.inr (g1 y hy)), e⟩))
          · rw [e2, e1] at hc2; cases hc2
          · rw [e2] at hc2
            have h5 := hent x hx
            unfold entOK at h5
            split at h5
            · obtain ⟨_, _, _, _, h7⟩ := h5; rw [h7] at hc2; cases hc2
            · obtain ⟨_, _, h7⟩ := h5; rw [h7] at hc2; cases hc2 }
    · cases h
  · cases h
end
end Go.Pev
