/- The abstract evaluator: its operations are the machine's: append onto a row; slices written out. -/
import Derived.Test.YtbfkfobfhjgphaaGreatPevK
set_option linter.unusedVariables false
set_option linter.unusedSimpArgs false
namespace Go.Pev
open Go

section
variable {C : Ctx} {o : Oper} {st : AS}

/-- The row grows where it stands. -/
theorem Sim.room {I : Imm} {ρ : Nat → Value} {a : Act} {w : World} (hs : Sim C I ρ st a w) {id d : Nat} (hne : d ≠ id) (hid : st.H d = .none) (hz : C.Z d = none) {tid : TypeId} {e : Ty} {xs ys : List e.I} (hH : st.H id = .row tid e xs)
    {g cap : Nat} {cur : Array Value} {cs news : List Value} (hv : ρ id = .slice (some ⟨g, 0, none⟩) xs.length cap) (hbg : C.base ≤ g) (hg : w.heap[g]? = some (.cells cur tid (0, 0))) (hcm : cap ≤ maxLen) (hcs : cur.size = cap * e.size)
    (htake : cur.toList.take (xs.length * e.size) = cs) (h1 : FRep I w e xs cs) (h2 : FRep I w e ys news) (hsz : 0 < e.size) (himm : ∀ j, I g j ↔ j < xs.length * e.size) (hroom : xs.length + ys.length ≤ cap) :
    ∃ I', Sim C I' (upd ρ d (.slice (some ⟨g, 0, none⟩) (xs.length + ys.length) cap)) ⟨st.T, upd (upd st.H id .dead) d (.row tid e (xs ++ ys))⟩ a
      (w.setRow g (cur.toList.take (xs.length * e.size) ++ news ++ cur.toList.drop (xs.length * e.size + news.length)).toArray) := by
  have hl1 := h1.length
  have hl2 := h2.length
  have hglt := (Array.getElem?_eq_some_iff.1 hg).1
  have hcur' : (cur.toList.take (xs.length * e.size) ++ news ++ cur.toList.drop (xs.length * e.size + news.length)).length = cur.size := by
    have : (xs.length + ys.length) * e.size ≤ cap * e.size := Nat.mul_le_mul_right _ hroom
    rw [Nat.add_mul] at this
    simp [hl2]
    omega
  have hkeep : Keeps I w (w.setRow g (cur.toList.take (xs.length * e.size) ++ news ++ cur.toList.drop (xs.length * e.size + news.length)).toArray) := by
    intro p u hp hc
    by_cases hpg : p.block = g
    · have hlt := (himm p.off).1 (by rw [← hpg]; exact hp)
      have hspot : p.spot = none := by
        simp only [World.cell?, hpg, hg] at hc
        cases hs : p.spot with
        | none => rfl
        | some s => simp [hs] at hc
      have hp' : p = ⟨g, p.off, none⟩ := by cases p; simp_all
      have hlt2 : p.off < cur.size := by
        rw [hp'] at hc
        simp only [World.cell?, hg] at hc
        exact (Array.getElem?_eq_some_iff.1 (by simpa using hc)).1
      rw [hp'] at hc ⊢
      simp only [World.cell?, hg] at hc
      simp only [World.cell?, setRow_heap w g cur _ tid _ hg]
      simp only [Option.isSome_none, Bool.false_eq_true, if_false] at hc ⊢
      rw [List.getElem?_toArray, List.append_assoc, List.getElem?_append_left (by simp; omega), List.getElem?_take, if_pos hlt]
      simpa using hc
    · rw [cell?_of_heap (heap_setRow_ne w g p.block _ hpg) p rfl]
      exact hc
  have hbk : bk ρ id (st.H id) = some g := by simp [hH, bk, hv, Value.ownBlock]
  have hdead := hs.turn (id := id) (b := .dead) trivial (.inl rfl) (by simp) (by simp)
  have hapart : ∀ j g', bk ρ j (upd st.H id .dead j) = some g' → g' ≠ g := by
    intro j g' hg' e
    subst e
    by_cases hj : j = id
    · subst hj; rw [upd_same] at hg'; cases hg'
    · rw [upd_ne st.H _ hj] at hg'
      exact hj (hs.apart j id g' hg' hbk)
  have hF : ¬ C.F g ∨ C.base ≤ g := .inr hbg
  have hev := hdead.evolve (I' := fun b k => I b k ∨ (b = g ∧ k < (xs.length + ys.length) * e.size)) (w' := w.setRow g (cur.toList.take (xs.length * e.size) ++ news ++ cur.toList.drop (xs.length * e.size + news.length)).toArray)
    (fun _ _ h => .inl h) hkeep (fun j g' hg' => ⟨heap_setRow_ne w g g' _ (hapart j g' hg'), fun k => ⟨fun h => h.elim (fun h => h) (fun h => absurd h.1 (hapart j g' hg')), .inl⟩⟩)
    (fun b k h => h.elim (hs.immNew b k) (fun h => .inr (by rw [h.1]; exact hbg)))
    (fun b k h => by
      have hsz' : (w.setRow g (cur.toList.take (xs.length * e.size) ++ news ++ cur.toList.drop (xs.length * e.size + news.length)).toArray).heap.size = w.heap.size := by simp [World.setRow]
      rw [hsz']
      exact h.elim (hs.immIn b k) (fun h => by rw [h.1]; exact hglt))
    (by simp [World.setRow]) (fun i hi _ => heap_setRow_ne w g i _ (by omega)) rfl rfl rfl
  refine ⟨_, hev.new (id := d) (by simpa [upd_ne _ _ hne] using hid) hz ?_ ?_ ?_ (by simp) (by simp)⟩
  · show rowRep _ _ _ _ _ _ _
    rw [upd_same]
    refine ⟨cs ++ news, FRep.append _ _ _ _ (FRep.mono (fun _ _ h => .inl h) hkeep _ _ h1) (FRep.mono (fun _ _ h => .inl h) hkeep _ _ h2), ⟨by simp [hl1, hl2, Nat.add_mul], .inr ⟨g, cap, _, by rw [List.length_append], hbg, setRow_heap w g cur _ tid _ hg, by simpa using hroom, hcm, by rw [List.size_toArray, hcur']; exact hcs, ?_⟩⟩, rfl, hsz, ?_⟩
    · rw [List.length_append, Nat.add_mul, ← hl2, htake, List.take_append_of_le_length (by simp [hl1])]
      rw [List.take_of_length_le (by simp [hl1])]
    · intro g' hg' j
      simp only [Value.ownBlock, Option.some.injEq] at hg'
      subst hg'
      rw [List.length_append]
      exact ⟨fun h => h.elim (fun h => by have := (himm j).1 h; rw [Nat.add_mul]; omega) (fun h => h.2), fun h => .inr ⟨rfl, h⟩⟩
  · intro j g' hg'
    simp only [Value.ownBlock, ne_eq, Option.some.injEq]
    exact fun e => hapart j g' hg' e.symm
  · intro g' hg'
    simp only [Value.ownBlock, Option.some.injEq] at hg'
    subst hg'
    exact .inl hbg

theorem ok_appendRow (hd : ∀ d, o.dst = some d → d < C.n) {TAB : TypeId → Option TI} (hT : TabOK C.P TAB) {c : Call} (ho : o.op = .call c) (hc : c.callee = .builtin .append) {s x : Operand} {t xt : TypeId} (h1 : c.args.toList = [s, x]) (h2 : c.argTypes.toList = [t, xt])
    {e : TypeId} {te : TI} (ht : elemOf TAB t = some (e, te)) {d : Nat} (hdst : o.dst = some d) (hH : st.H d = .none) {id : Nat} (hsv : evalO st s = .sc (.row id)) {xs : List te.ty.I} (hid : st.H id = .row e te.ty xs) {ys : List te.ty.I} (hsrc : SrcOK C st xt x te ys)
    (hb : ((xs.length : Int) + ys.length) * te.bytes ≤ maxBytes) (h63 : (xs.length : Int) + ys.length ≤ 9223372036854775807) (hsz : 0 < te.size) : OpOK C o st (.sc (.row d)) [(id, .dead), (d, .row e te.ty (xs ++ ys))] := by
  intro I ρ a w hs next Q hnx
  have hv := (hs.eval s).1
  rw [hsv] at hv
  have hv' : a.eval s = ρ id := hv.1
  obtain ⟨hu, hte, htok⟩ := elemOf_ok hT ht
  obtain ⟨i, z, g1, g2, g3, g4, g5, g6⟩ := hte.info
  obtain ⟨g7, g8⟩ := g6 htok
  obtain ⟨news, hf, hsr⟩ := hsrc I ρ a w hs
  have hsr := hsr z g8
  rw [← g2, ← g3] at hsr
  have hne : d ≠ id := by intro e; subst e; rw [hH] at hid; cases hid
  have hb' : (xs.length + ys.length) * te.bytes ≤ 140737488355328 := by
    have : (((xs.length + ys.length) * te.bytes : Nat) : Int) ≤ 140737488355328 := by rw [Int.natCast_mul, Int.natCast_add]; unfold maxBytes at hb; exact hb
    omega
  have hrow := hs.blks id
  rw [hid] at hrow
  have hrow2 := hrow
  obtain ⟨cs, r1, r2, r3, r4, r5⟩ := hrow2
  have hsz7 : z.cells.size = te.ty.size := by have := CRep.length _ _ _ (crep_zero I w te.ty); rw [← g8] at this; simpa using this
  have hdead := hs.turn (id := id) (b := .dead) trivial (.inl rfl) (by simp) (by simp)
  have hdd : upd st.H id .dead d = .none := by rw [upd_ne _ _ hne]; exact hH
  have fin : ∀ (I' : Imm) (V : Value) (w' : World), V.oneCell' = true → Sim C I' (upd ρ d V) ⟨st.T, upd (upd st.H id .dead) d (.row e te.ty (xs ++ ys))⟩ a w' → (Builtin.append_ #[t, xt] o.type #[a.eval s, a.eval x]).run C.P w = .ok V w' → o.wp C.P a w next Q := by
    intro I' V w' hV h3 hr
    have := h3.put hd (v := .sc (.row d)) (x := V) ⟨by rw [upd_same], hV⟩ (by simp [refsAV, refs, upd_same])
    exact wp_value (run_append_call ho hc h1 h2 hr) (hnx _ _ _ _ (by simpa [AS.apply, upds, hdst] using this))
  rcases r2.2 with ⟨hn1, hn2⟩ | ⟨g, cap, cur, hn1, hbg, hg, hnc, hcm, hcs, htake⟩
  · have hx : xs = [] := List.eq_nil_of_length_eq_zero hn2
    subst hx
    have hcs0 : cs = [] := r1
    subst hcs0
    by_cases h0 : ys.length = 0
    · have hy : ys = [] := List.eq_nil_of_length_eq_zero h0
      subst hy
      have hr := app_none t xt o.type e i z hu g1 hsr
      rw [← hn1, ← hv'] at hr
      exact fin I (.slice none 0 0) w rfl (hdead.nilRow hdd (C.z_lt (hd _ hdst)) e te.ty (by omega)) (by rw [← hn1, ← hv']; exact hr)
    · have hr := app_grow t xt o.type e i z hu g1 g4 none 0 0 [] (by simp [run_firstCells_none]) hsr (by omega) (by simp at h63; omega) (growslice_fits (by omega) (by rw [g3]; simpa using hb'))
      rw [← hn1, ← hv'] at hr
      obtain ⟨I', h3⟩ := hdead.grown hdd (C.z_lt (hd _ hdst)) e te.ty [] ys 0 z.cells [] news rfl hf (by omega) hsz7 (by simp at h63 ⊢; omega)
      exact fin I' _ _ rfl h3 hr
  · by_cases hroom : xs.length + ys.length ≤ cap
    · have hr := app_room t xt o.type e i z hu g1 g4 g xs.length cap cur hg hsr (FRep.one _ _ hf) hroom (by
        rw [hf.length, hcs, g2, ← g7, ← Nat.add_mul]; exact Nat.mul_le_mul_right _ hroom)
      rw [← hn1, ← hv', g2, ← g7] at hr
      obtain ⟨I', h3⟩ := hs.room hne hH (C.z_lt (hd _ hdst)) hid hn1 hbg hg hcm hcs htake r1 hf (by omega) (r5 g (by rw [hn1]; rfl)) hroom
      exact fin I' _ _ rfl h3 hr
    · have holds : ∀ j u, cs[j]? = some u → w.drew.cell? ((⟨g, 0, none⟩ : Addr).add j) = some u := r2.cells (g := g) (by rw [hn1]; rfl)
      have hfo := run_firstCells_some (P := C.P) w.drew i.size xs.length ⟨g, 0, none⟩ xs.length cap cs (by rw [r1.length, g2, g7]) holds
      have hr := app_grow t xt o.type e i z hu g1 g4 (some ⟨g, 0, none⟩) xs.length cap cs hfo hsr (by omega) (by omega) (growslice_fits (by omega) (by rw [g3]; exact hb'))
      rw [← hn1, ← hv'] at hr
      obtain ⟨I', h3⟩ := hdead.grown hdd (C.z_lt (hd _ hdst)) e te.ty xs ys cap z.cells cs news r1 hf (by omega) hsz7 (by omega)
      exact fin I' _ _ rfl h3 hr

/-! ### Slices written out -/
theorem parse_rep {I : Imm} {ρ : Nat → Value} {a : Act} {w : World} (hs : Sim C I ρ st a w) : ∀ (t : Ty) (cs : List SV) (vs : List Value) (x : t.I) (r : List SV), parse st.H t cs = some (x, r) → All2 (SRep I w ρ) cs vs →
    ∃ us ws, vs = us ++ ws ∧ CRep I w t x us ∧ All2 (SRep I w ρ) r ws
  | .int k, s :: r', v :: vs, x, r, h, ⟨h1, h2⟩ => by
    cases s <;> simp only [parse, cond_eq_ite] at h <;> try (cases h; done)
    split at h
    · rename_i k' n hk
      simp only [decide_eq_true_eq] at hk
      subst hk
      simp only [Option.some.injEq, Prod.mk.injEq] at h
      obtain ⟨rfl, rfl⟩ := h
      exact ⟨[v], vs, rfl, by rw [show v = .int k n from h1]; rfl, h2⟩
    · cases h
  | .bool, s :: r', v :: vs, x, r, h, ⟨h1, h2⟩ => by
    cases s <;> simp only [parse] at h <;> try (cases h; done)
    simp only [Option.some.injEq, Prod.mk.injEq] at h
    obtain ⟨rfl, rfl⟩ := h
    exact ⟨[v], vs, rfl, by rw [show v = _ from h1]; rfl, h2⟩
  | .str, s :: r', v :: vs, x, r, h, ⟨h1, h2⟩ => by
    cases s <;> simp only [parse] at h <;> try (cases h; done)
    simp only [Option.some.injEq, Prod.mk.injEq] at h
    obtain ⟨rfl, rfl⟩ := h
    exact ⟨[v], vs, rfl, by rw [show v = _ from h1]; rfl, h2⟩
  | .pair t u, cs, vs, x, r, h, hr => by
    simp only [parse] at h
    split at h
    · rename_i y l hy
      split at h
      · rename_i z l' hz
        simp only [Option.some.injEq, Prod.mk.injEq] at h
        obtain ⟨rfl, rfl⟩ := h
        obtain ⟨u1, w1, rfl, h2, h3⟩ := parse_rep hs t cs vs y l hy hr
        obtain ⟨u2, w2, rfl, h4, h5⟩ := parse_rep hs u l w1 z l' hz h3
        exact ⟨u1 ++ u2, w2, by simp, ⟨u1, u2, rfl, h2, h4⟩, h5⟩
      · cases h
    · cases h
  | .sl e, s :: r', v :: vs, x, r, h, ⟨h1, h2⟩ => by
    simp only [parse] at h
    split at h
    · rename_i xs hxs
      simp only [Option.some.injEq, Prod.mk.injEq] at h
      obtain ⟨rfl, rfl⟩ := h
      exact ⟨[v], vs, rfl, hs.viewOf hxs h1, h2⟩
    · cases h
  | .int k, [], _, x, r, h, _ => by simp [parse] at h
  | .bool, [], _, x, r, h, _ => by simp [parse] at h
  | .str, [], _, x, r, h, _ => by simp [parse] at h
  | .sl e, [], _, x, r, h, _ => by simp [parse] at h
  | .int k, _ :: _, [], x, r, h, h' => h'.elim
  | .bool, _ :: _, [], x, r, h, h' => h'.elim
  | .str, _ :: _, [], x, r, h, h' => h'.elim
  | .sl e, _ :: _, [], x, r, h, h' => h'.elim

theorem parseN_rep {I : Imm} {ρ : Nat → Value} {a : Act} {w : World} (hs : Sim C I ρ st a w) (t : Ty) : ∀ (n : Nat) (cs : List SV) (vs : List Value) (xs : List t.I) (r : List SV), parseN st.H t n cs = some (xs, r) → All2 (SRep I w ρ) cs vs →
    ∃ us ws, vs = us ++ ws ∧ FRep I w t xs us ∧ xs.length = n ∧ All2 (SRep I w ρ) r ws
  | 0, cs, vs, xs, r, h, hr => by
    simp only [parseN, Option.some.injEq, Prod.mk.injEq] at h
    obtain ⟨rfl, rfl⟩ := h
    exact ⟨[], vs, rfl, rfl, rfl, hr⟩
  | n + 1, cs, vs, xs, r, h, hr => by
    simp only [parseN] at h
    split at h
    · rename_i x l hx
      split at h
      · rename_i ys l' hys
        simp only [Option.some.injEq, Prod.mk.injEq] at h
        obtain ⟨rfl, rfl⟩ := h
        obtain ⟨u1, w1, rfl, h2, h3⟩ := parse_rep hs t cs vs x l hx hr
        obtain ⟨u2, w2, rfl, h4, h5, h6⟩ := parseN_rep hs t n l w1 ys l' hys h3
        exact ⟨u1 ++ u2, w2, by simp, ⟨u1, u2, rfl, h2, h4⟩, by simp [h5], h6⟩
      · cases h
    · cases h

theorem zeros_all2 {I : Imm} {w : World} {ρ : Nat → Value} {l : List SV} {vs : List Value} (h : All2 zrep l vs) : ∀ n, All2 (SRep I w ρ) (List.replicate n l).flatten (List.replicate n vs).flatten
  | 0 => trivial
  | n + 1 => by
    rw [List.replicate_succ, List.replicate_succ, List.flatten_cons, List.flatten_cons]
    exact All2.append _ _ _ _ (All2.imp _ _ (fun s v _ h => (zrep_rep h).1) h) (zeros_all2 h n)

theorem ok_buildSlice (hd : ∀ d, o.dst = some d → d < C.n) {TAB : TypeId → Option TI} (hT : TabOK C.P TAB) {t e : TypeId} {len : Nat} {parts : Array (Nat × Operand)} (ho : o.op = .buildSlice t len parts) {te : TI} (ht : elemOf TAB t = some (e, te)) {d : Nat} (hdst : o.dst = some d) (hH : st.H d = .none)
    (h1 : len * te.size ≤ 16777216) (h2 : 0 < te.size) {cs : List SV} (h3 : fillCells ((List.range len).map fun i => (i * te.size, te.size)) st ((List.replicate len te.zero).flatten) parts.toList = some cs) {xs : List te.ty.I} (h4 : parseN st.H te.ty len cs = some (xs, [])) :
    OpOK C o st (.sc (.row d)) [(d, .row e te.ty xs)] := by
  intro I ρ a w hs next Q hnx
  obtain ⟨hu, hte, htok⟩ := elemOf_ok hT ht
  obtain ⟨i, z, g1, g2, g3, g4, g5, g6⟩ := hte.info
  obtain ⟨g7, g8⟩ := g6 htok
  have hzl : z.cells.toList.length = te.size := by rw [g8, ← g7]; exact CRep.length _ _ _ (crep_zero I w te.ty)
  have hzsz : z.cells.size = te.size := by simpa using hzl
  have hz0 : ∀ s ∈ (List.replicate len te.zero).flatten, ∀ id ∈ refs s, st.H id ≠ .none := by
    intro s hsm id hid
    simp only [List.mem_flatten, List.mem_replicate] at hsm
    obtain ⟨l, ⟨_, rfl⟩, hsm⟩ := hsm
    obtain ⟨k, hk⟩ := List.mem_iff_getElem?.1 hsm
    obtain ⟨b, _, hb⟩ := All2.get _ _ g5 k s hk
    rw [(zrep_rep (I := I) (w := w) (ρ := ρ) hb).2] at hid
    cases hid
  have hzero : ((Array.range (len * te.size)).map (z.cells[· % z.cells.size]!)).toList = (List.replicate len z.cells.toList).flatten := by
    have := madeCells_flat z.cells z.cells.toList rfl (by omega) len
    rw [hzl] at this
    exact this
  obtain ⟨ds', f1, f2, f3⟩ := fill_rep hs (fun i => some (i * te.size, te.size)) ((List.range len).map fun i => (i * te.size, te.size)) (fun i p hp => by
    simp only [List.getElem?_map, Option.map_eq_some_iff] at hp
    obtain ⟨k, hk, rfl⟩ := hp
    have hlt := (List.getElem?_eq_some_iff.1 hk).1
    rw [List.getElem?_range (by simpa using hlt)] at hk
    injection hk with hk
    subst hk
    rfl) parts.toList _ ((Array.range (len * te.size)).map (z.cells[· % z.cells.size]!)) cs h3 (by rw [hzero]; exact zeros_all2 g5 len) hz0
  obtain ⟨us, ws, e1, e2, e3, e4⟩ := parseN_rep hs te.ty len cs _ xs [] h4 f2
  have hws : ws = [] := by cases ws with | nil => rfl | cons _ _ => exact e4.elim
  subst hws
  simp only [List.append_nil] at e1
  have hdl := e2.length
  have h5 := hs.newRow hH (C.z_lt (hd _ hdst)) ds' e te.ty xs len us e2 (by omega) (by omega) (by
    have : len * 1 ≤ len * te.size := Nat.mul_le_mul_left _ h2
    unfold maxLen; omega) (by
    have : ds'.size = us.length := by rw [← e1]; simp
    rw [this, hdl, e3]) (by rw [e1, List.take_of_length_le (by omega)])
  have hfill : Instr.fill (fun i => some (i * te.size, te.size)) ((Array.range (len * te.size)).map (z.cells[· % z.cells.size]!)) (parts.map fun (i, x) => (i, a.eval x)).toList = some ds' := by
    rw [← f1]; simp
  have hn24 : ¬ (len * te.size > 2 ^ 24) := by omega
  refine wp_value (x := .slice (some ⟨w.heap.size, 0, none⟩) len len) (w' := w.alloc (.cells ds' e)) ?_ ?_
  · by_cases h0 : len * te.size = 0
    · have hl0 : len = 0 := by rcases Nat.mul_eq_zero.1 h0 with h | h <;> omega
      subst hl0
      simp only [Nat.zero_mul] at hfill
      simp [execOp, ho, Instr.buildSlice, run_underlying hu, hte.size, newRow, Array.range_zero'] at hfill ⊢
      rw [hfill]
      simp
    · simp only [execOp, ho, Instr.buildSlice, Sem.run_bind, run_underlying hu, Result.andThen_ok, hte.size, if_neg hn24, h0, if_false, zeroValue, typeInfo, run_program, g1, g4, Sem.run_pure]
      rw [hfill]
      simp [newRow]
  · have := h5.put hd (v := .sc (.row d)) (x := .slice (some ⟨w.heap.size, 0, none⟩) len len) ⟨by rw [upd_same, e3], rfl⟩ (by simp [refsAV, refs, upd_same])
    exact hnx _ _ _ _ (by simpa [AS.apply, upds, hdst, e3] using this)

/-! ### copy -/
theorem FRep.take {I : Imm} {w : World} {e : Ty} : ∀ (xs : List e.I) (cs : List Value) (m : Nat), FRep I w e xs cs → FRep I w e (xs.take m) (cs.take (m * e.size))
  | [], cs, m, h => by
    have h' : cs = [] := h
    subst h'
    simp [FRep]
  | x :: xs, cs, 0, _ => by simp [FRep]
  | x :: xs, _, m + 1, ⟨c, r, h0, h1, h2⟩ => by
    subst h0
    refine ⟨c, r.take (m * e.size), ?_, h1, FRep.take xs r m h2⟩
    rw [Nat.add_mul, Nat.one_mul, Nat.add_comm, ← CRep.length _ _ _ h1, List.take_length_add_append]
theorem FRep.drop {I : Imm} {w : World} {e : Ty} : ∀ (xs : List e.I) (cs : List Value) (m : Nat), FRep I w e xs cs → FRep I w e (xs.drop m) (cs.drop (m * e.size))
  | [], cs, m, h => by
    have h' : cs = [] := h
    subst h'
    simp [FRep]
  | x :: xs, cs, 0, h => by simpa using h
  | x :: xs, _, m + 1, ⟨c, r, h0, h1, h2⟩ => by
    subst h0
    have h3 : (c ++ r).drop ((m + 1) * e.size) = r.drop (m * e.size) := by
      rw [Nat.add_mul, Nat.one_mul, Nat.add_comm (m * e.size), ← CRep.length _ _ _ h1, List.drop_length_add_append]
    rw [h3]
    exact FRep.drop xs r m h2
theorem upd_upd {α : Type} (f : Nat → α) (k : Nat) (u v : α) : upd (upd f k u) k v = upd f k v := by
  funext n
  by_cases h : n = k
  · subst h; rw [upd_same, upd_same]
  · rw [upd_ne _ _ h, upd_ne _ _ h, upd_ne _ _ h]

theorem run_copy_any {P : Program} (w : World) (dT sT ty elem : TypeId) (g dLen dCap L : Nat) (x : Value) (cur : Array Value) (t : TypeId) (cs : List Value)
    (hu : P.underlying dT = some (.slice elem)) (hs : (P.info? elem).map (·.size) = some 1)
    (hg : w.heap[g]? = some (.cells cur t (0, 0))) (hl : (Builtin.lenOf x).run P w = .ok L w) (hf : (Builtin.firstCells 1 (Nat.min L dLen) x).run P w = .ok cs.toArray w) (hfit : cs.length ≤ cur.size) (h1 : ∀ v ∈ cs, v.oneCell' = true) :
    (Builtin.copy_ #[dT, sT] ty #[.slice (some ⟨g, 0, none⟩) dLen dCap, x]).run P w = .ok (goInt (Nat.min L dLen)) (w.setRow g (cs ++ cur.toList.drop cs.length).toArray) := by
  have hst := run_storeCells_at P g 0 t cs 0 cur w hg (by simpa using hfit) h1
  simp only [Nat.add_zero, Nat.zero_add, List.take_zero, List.nil_append] at hst
  cases hq : P.info? elem with
  | none => simp [hq] at hs
  | some i =>
    have hi : i.size = 1 := by simpa [hq] using hs
    simp [Builtin.copy_, run_underlying hu, sizeOf, typeInfo, hq, hi, hl, hf, hst]

theorem ok_copy (hd : ∀ d, o.dst = some d → d < C.n) {TAB : TypeId → Option TI} (hT : TabOK C.P TAB) {c : Call} (ho : o.op = .call c) (hc : c.callee = .builtin .copy) {y x : Operand} {t xt : TypeId} (h1 : c.args.toList = [y, x]) (h2 : c.argTypes.toList = [t, xt])
    {e : TypeId} {te : TI} (ht : elemOf TAB t = some (e, te)) {id : Nat} (hy : evalO st y = .sc (.row id)) {xv : SV} (hx : evalO st x = .sc xv) {e' : TypeId} {n : Nat} {ys : List te.ty.I} (g1 : st.H id = .raw e' te.ty n) (g2 : viewOf st.H te.ty xv = some ys) (g3 : te.size = 1) :
    OpOK C o st (.sc (.int .i64 ((min (List.length ys) n : Nat) : Int))) [(id, .row e' te.ty (List.take n ys ++ List.replicate (n - List.length ys) te.ty.dflt))] := by
  intro I ρ a w hs next Q hnx
  obtain ⟨hu, hte, htok⟩ := elemOf_ok hT ht
  obtain ⟨i, z, q1, q2, q3, q4, q5, q6⟩ := hte.info
  obtain ⟨q7, q8⟩ := q6 htok
  have hsz1 : te.ty.size = 1 := by rw [q7]; exact g3
  have hy1 := (hs.eval y).1
  rw [hy] at hy1
  have hy2 : a.eval y = ρ id := hy1.1
  have hb := hs.blks id
  rw [g1] at hb
  obtain ⟨g, cap, cur, hv, hbg, hg, hnc, hcm, hcs, hrep, hsz, himm⟩ := hb
  have hx1 := (hs.eval x).1
  rw [hx] at hx1
  have hne : xv ≠ .undef := by intro e; subst e; simp [viewOf] at g2
  obtain ⟨ad, scap, k3, k4, k5⟩ := hs.viewOf g2 (hx1.sc hne)
  simp only [List.cons.injEq, and_true] at k3
  have hsrc : ∃ news, FRep I w te.ty (ys.take n) news ∧ news.length = Nat.min ys.length n ∧ (Builtin.lenOf (a.eval x)).run C.P w = .ok ys.length w ∧ (Builtin.firstCells 1 (Nat.min ys.length n) (a.eval x)).run C.P w = .ok news.toArray w := by
    cases ad with
    | none =>
      have h0 : ys = [] := by
        cases ys with
        | nil => rfl
        | cons y ys => obtain ⟨ad, cs, h, _⟩ := k5 0 (by simp); cases h
      subst h0
      refine ⟨[], by simp [FRep], by simp, ?_, ?_⟩
      · rw [k3]; rfl
      · rw [k3, show Nat.min (List.length ([] : List te.ty.I)) n = 0 from Nat.zero_min n]; rfl
    | some ad =>
      obtain ⟨news, h6, h7⟩ := flat_get (I := I) (w := w) (e := te.ty) (xs := ys) (ad := ad) (fun i hi => by
        obtain ⟨ad', cs, h, h8, h9⟩ := k5 i hi
        injection h with h
        subst h
        exact ⟨cs, h8, fun j u hu => (h9 j u hu).2⟩)
      have hl := h6.length
      rw [hsz1, Nat.mul_one] at hl
      have hk := FRep.take _ _ n h6
      rw [hsz1, Nat.mul_one] at hk
      have hlk : (news.take n).length = Nat.min ys.length n := by rw [List.length_take, hl]; exact Nat.min_comm _ _
      refine ⟨news.take n, hk, hlk, by rw [k3]; rfl, ?_⟩
      rw [k3]
      refine run_firstCells_some w 1 (Nat.min ys.length n) ad ys.length scap _ (by rw [hlk]; omega) (fun j u hj => h7 j u ?_)
      rw [List.getElem?_take] at hj
      split at hj
      · exact hj
      · cases hj
  obtain ⟨news, h6, h7, h8, h9⟩ := hsrc
  have hmn : Nat.min ys.length n ≤ n := Nat.min_le_right _ _
  rw [hsz1, Nat.mul_one] at hcs hrep
  have hrun := run_copy_any (P := C.P) w t xt o.type e g n cap ys.length (a.eval x) cur e' news hu (by rw [q1]; simp [q2, g3]) hg h8 h9 (by omega) h6.one
  have hglt := (Array.getElem?_eq_some_iff.1 hg).1
  have hsize : (news ++ cur.toList.drop news.length).toArray.size = cap := by simp; omega
  have hnew : FRep I w te.ty (List.take n ys ++ List.replicate (n - ys.length) te.ty.dflt) ((news ++ cur.toList.drop news.length).take n) := by
    have h10 := FRep.append _ _ _ _ h6 (FRep.drop _ _ (Nat.min ys.length n) hrep)
    rw [hsz1, Nat.mul_one, List.drop_replicate] at h10
    have e1 : n - Nat.min ys.length n = n - ys.length := by
      show n - min ys.length n = _
      omega
    rw [e1] at h10
    have e2 : (news ++ cur.toList.drop news.length).take n = news ++ (cur.toList.take n).drop (Nat.min ys.length n) := by
      rw [List.take_append, List.take_of_length_le (by omega), h7, List.drop_take]
    rw [e2]
    exact h10
  have hlen : (List.take n ys ++ List.replicate (n - ys.length) te.ty.dflt).length = n := by simp; omega
  have hkeep : Keeps I w (w.setRow g (news ++ cur.toList.drop news.length).toArray) := fun p u hp hcell => by
    rw [cell?_of_heap (heap_setRow_ne w g p.block _ (fun e => himm p.off (by rw [← e]; exact hp))) p rfl]
    exact hcell
  have hbk : bk ρ id (st.H id) = some g := by simp [g1, bk, hv, Value.ownBlock]
  have hdead := hs.turn (id := id) (b := .dead) trivial (.inl rfl) (by simp) (by simp)
  have hapart : ∀ j g', bk ρ j (upd st.H id .dead j) = some g' → g' ≠ g := by
    intro j g' hg' e
    subst e
    by_cases hj : j = id
    · subst hj; rw [upd_same] at hg'; cases hg'
    · rw [upd_ne st.H _ hj] at hg'
      exact hj (hs.apart j id g' hg' hbk)
  have hev := hdead.evolve (I' := fun b k => I b k ∨ (b = g ∧ k < n)) (w' := w.setRow g (news ++ cur.toList.drop news.length).toArray)
    (fun _ _ h => .inl h) hkeep (fun j g' hg' => ⟨heap_setRow_ne w g g' _ (hapart j g' hg'), fun k => ⟨fun h => h.elim (fun h => h) (fun h => absurd h.1 (hapart j g' hg')), .inl⟩⟩)
    (fun b k h => h.elim (hs.immNew b k) (fun h => .inr (by rw [h.1]; exact hbg)))
    (fun b k h => by
      have hsz' : (w.setRow g (news ++ cur.toList.drop news.length).toArray).heap.size = w.heap.size := by simp [World.setRow]
      rw [hsz']
      exact h.elim (hs.immIn b k) (fun h => by rw [h.1]; exact hglt))
    (by simp [World.setRow]) (fun i hi _ => heap_setRow_ne w g i _ (by omega)) rfl rfl rfl
  have hrev := hev.revive (id := id) (b := .row e' te.ty (List.take n ys ++ List.replicate (n - ys.length) te.ty.dflt)) (by simp [upd_same, bk]) (by
      show rowRep _ _ _ _ _ _ _
      refine ⟨_, FRep.mono (fun _ _ h => .inl h) hkeep _ _ hnew, ⟨?_, .inr ⟨g, cap, _, by rw [hlen]; exact hv, hbg, setRow_heap w g cur _ e' _ hg, by rw [hlen]; exact hnc, hcm, by rw [hsize, hsz1, Nat.mul_one], by rw [hlen, hsz1, Nat.mul_one]⟩⟩, by rw [hv]; rfl, hsz, ?_⟩
      · rw [hnew.length]
      · intro g' hg' j
        rw [hv] at hg'
        simp only [Value.ownBlock, Option.some.injEq] at hg'
        subst hg'
        rw [hlen, hsz1, Nat.mul_one]
        exact ⟨fun h => h.elim (fun h => absurd h (himm j)) (fun h => h.2), fun h => .inr ⟨rfl, h⟩⟩)
    (fun j g' hj hg' => by
      simp only [bk, hv, Value.ownBlock, ne_eq, Option.some.injEq]
      exact fun e => hapart j g' hg' e.symm)
    (fun g' hg' => by
      simp only [bk, hv, Value.ownBlock, Option.some.injEq] at hg'
      subst hg'
      exact .inl hbg) (by simp) (by simp)
  simp only [upd_upd] at hrev
  have e1 : c.args = #[y, x] := by apply Array.ext'; simpa using h1
  have e2 : c.argTypes = #[t, xt] := by apply Array.ext'; simpa using h2
  refine wp_value (x := .int .i64 ((min ys.length n : Nat) : Int)) (w' := w.setRow g (news ++ cur.toList.drop news.length).toArray) ?_ ?_
  · rw [call_builtin ho hc]
    rw [← hy2] at hv
    simp [e1, e2, builtin, hv, hrun, goInt]
  · have := hrev.put hd (v := .sc (.int .i64 ((min ys.length n : Nat) : Int))) (x := .int .i64 ((min ys.length n : Nat) : Int)) rfl (by simp [refsAV, refs])
    exact hnx _ _ _ _ (by simpa [AS.apply, upds] using this)
end
end Go.Pev
