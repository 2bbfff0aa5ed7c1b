/- The abstract evaluator: its operations are the machine's: addresses, slices, parts. -/
import Derived.Test.YtbfkfobfhjgphaaGreatPevG
set_option linter.unusedVariables false
set_option linter.unusedSimpArgs false
namespace Go.Pev
open Go

section
variable {C : Ctx} {o : Oper} {st : AS}

theorem ok_not (hd : ∀ d, o.dst = some d → d < C.n) {t : TypeId} {x : Operand} (ho : o.op = .unOp .not t x) {b : Bool} (hx : evalO st x = .sc (.bool b)) : OpOK C o st (.sc (.bool (!b))) [] :=
  .pure hd fun I ρ a w hs => by
    have h1 := (hs.eval x).1
    rw [hx] at h1
    have h2 : a.eval x = .bool b := h1
    exact ⟨_, by simp [execOp, ho, h2, Op.unary], rfl, by simp [refsAV, refs]⟩
theorem ok_neg (hd : ∀ d, o.dst = some d → d < C.n) {t : TypeId} {x : Operand} (ho : o.op = .unOp .neg t x) {k : IntKind} {n : Int} (hx : evalO st x = .sc (.int k n)) : OpOK C o st (.sc (.int k (k.wrap (0 - n)))) [] :=
  .pure hd fun I ρ a w hs => by
    have h1 := (hs.eval x).1
    rw [hx] at h1
    have h2 : a.eval x = .int k n := h1
    exact ⟨.int k (k.wrap (0 - n)), by simp only [execOp, ho, h2, Op.unary, Op.intArith]; rfl, rfl, by simp [refsAV, refs]⟩

theorem ok_convert (hd : ∀ d, o.dst = some d → d < C.n) {TAB : TypeId → Option TI} (hT : TabOK C.P TAB) {s d : TypeId} {x : Operand} (ho : o.op = .convert s d x) {ts td : TI} (h1 : TAB s = some ts) (h2 : TAB d = some td)
    {k k' : IntKind} {n : Int} (hx : evalO st x = .sc (.int k' n)) (hk : td.d = .int k) : OpOK C o st (.sc (.int k (k.wrap n))) [] :=
  .pure hd fun I ρ a w hs => by
    have h3 := (hs.eval x).1
    rw [hx] at h3
    have h4 : a.eval x = .int k' n := h3
    obtain ⟨dd, hu, _⟩ := (hT s ts h1).und
    have hv := (hT d td h2).int hk
    exact ⟨.int k (k.wrap n), by simp [execOp, ho, h4, convert, run_underlying hu, run_underlying hv, Conv.intToInt], rfl, by simp [refsAV, refs]⟩

theorem Addr.add_some_off (b off n : Nat) : (⟨b, off, none⟩ : Addr).add n = ⟨b, off + n, none⟩ := by
  unfold Addr.add; split
  · rename_i h; simp [h]
  · rfl

theorem run_fieldAt {P : Program} {TAB : TypeId → Option TI} (hT : TabOK P TAB) {t : TypeId} {ti : TI} (ht : TAB t = some ti) {fs : List (Nat × Nat)} (hf : ti.d = .struct fs) {f off sz : Nat} (hfs : fs[f]? = some (off, sz)) (hsz : 0 < sz) (ad : Addr) (w : World) :
    (Instr.fieldAt t (.pointer (some ad)) f).run P w = .ok (.pointer (some (ad.add off))) w := by
  obtain ⟨fields, hu, hm⟩ := (hT t ti ht).struct hf
  rw [← hm] at hfs
  simp only [List.getElem?_map, Option.map_eq_some_iff] at hfs
  obtain ⟨fd, h1, h2⟩ := hfs
  simp only [Prod.mk.injEq] at h2
  obtain ⟨h3, h4⟩ := h2
  have h5 : fields[f]? = some fd := by simpa using h1
  have h6 : ∃ i, P.info? fd.type = some i ∧ i.size = sz := by
    unfold Program.cellsOf at h4
    cases hi : P.info? fd.type with
    | none => rw [hi] at h4; simp at h4; omega
    | some i => rw [hi] at h4; exact ⟨i, rfl, by simpa using h4⟩
  obtain ⟨i, h7, h8⟩ := h6
  have h9 : ¬ i.size = 0 := by omega
  simp [Instr.fieldAt, run_underlying hu, h5, Instr.sureAddr, fieldPlace, sizeOf, typeInfo, h7, h9, h3]

theorem ok_fieldPtr (hd : ∀ d, o.dst = some d → d < C.n) {TAB : TypeId → Option TI} (hT : TabOK C.P TAB) {t : TypeId} {x : Operand} {f : Nat} (ho : o.op = .fieldAddr t x f) {ti : TI} (ht : TAB t = some ti)
    {fs : List (Nat × Nat)} (hf : ti.d = .struct fs) {off sz : Nat} (hfs : fs[f]? = some (off, sz)) (hsz : 0 < sz) {id p : Nat} (hx : evalO st x = .sc (.ptr id p)) : OpOK C o st (.sc (.ptr id (p + off))) [] :=
  .pure hd fun I ρ a w hs => by
    have h3 := hs.eval x
    rw [hx] at h3
    have h4 : a.eval x = .pointer (some ⟨bl ρ id, p, none⟩) := h3.1
    refine ⟨.pointer (some ((⟨bl ρ id, p, none⟩ : Addr).add off)), by simp [execOp, ho, h4, run_fieldAt hT ht hf hfs hsz], ?_, by simpa [refsAV, refs] using h3.2⟩
    show _ = _
    rw [Addr.add_some_off]
theorem ok_fieldEl (hd : ∀ d, o.dst = some d → d < C.n) {TAB : TypeId → Option TI} (hT : TabOK C.P TAB) {t : TypeId} {x : Operand} {f : Nat} (ho : o.op = .fieldAddr t x f) {ti : TI} (ht : TAB t = some ti)
    {fs : List (Nat × Nat)} (hf : ti.d = .struct fs) {off sz : Nat} (hfs : fs[f]? = some (off, sz)) (hsz : 0 < sz) {e : Ty} {y : e.I} {p : Nat} (hx : evalO st x = .sc (.eptr e y p)) : OpOK C o st (.sc (.eptr e y (p + off))) [] :=
  .pure hd fun I ρ a w hs => by
    have h3 := hs.eval x
    rw [hx] at h3
    obtain ⟨ad, cs, h4, h5, h6⟩ := h3.1
    exact ⟨.pointer (some ((ad.add p).add off)), by simp [execOp, ho, h4, run_fieldAt hT ht hf hfs hsz], ⟨ad, cs, by rw [add_add], h5, h6⟩, by simp [refsAV, refs]⟩

theorem ok_index (hd : ∀ d, o.dst = some d → d < C.n) {TAB : TypeId → Option TI} (hT : TabOK C.P TAB) {t e : TypeId} {x y : Operand} (ho : o.op = .indexAddr t x y) {te : TI} (ht : elemOf TAB t = some (e, te))
    {s : SV} (hx : evalO st x = .sc s) {k : IntKind} {i : Int} (hy : evalO st y = .sc (.int k i)) {xs : List te.ty.I} (hv : viewOf st.H te.ty s = some xs) (h0 : 0 ≤ i) (h1 : i < xs.length) :
    OpOK C o st (.sc (.eptr te.ty (xs.getD i.toNat te.ty.dflt) 0)) [] :=
  .pure hd fun I ρ a w hs => by
    have h2 := (hs.eval x).1
    rw [hx] at h2
    have hne : s ≠ .undef := by intro e; subst e; simp [viewOf] at hv
    obtain ⟨ad?, cap, h3, h4, h5⟩ := hs.viewOf hv (h2.sc hne)
    have h6 := (hs.eval y).1
    rw [hy] at h6
    have h7 : a.eval y = .int k i := h6
    obtain ⟨hu, hte, htok⟩ := elemOf_ok hT ht
    obtain ⟨i0, z, g1, g2, g3, g4, g5, g6⟩ := hte.info
    have hi : i.toNat < xs.length := by omega
    obtain ⟨ad, cs, e1, e2, e3⟩ := h5 i.toNat hi
    subst e1
    simp only [List.cons.injEq, and_true] at h3
    refine ⟨.pointer (some (ad.add (i.toNat * te.ty.size))), ?_, ⟨ad.add (i.toNat * te.ty.size), cs, by simp [Addr.add], ?_, ?_⟩, by simp [refsAV, refs]⟩
    · simp [execOp, ho, h7, h3, Instr.indexAt, asIntOf, run_underlying hu, h0, h1, hte.size, (g6 htok).1]
    · rw [List.getD_eq_getElem?_getD, List.getElem?_eq_getElem hi]
      exact e2
    · intro j u hu
      rw [add_add]
      exact e3 j u hu

theorem ok_field (hd : ∀ d, o.dst = some d → d < C.n) {TAB : TypeId → Option TI} (hT : TabOK C.P TAB) {t : TypeId} {x : Operand} {f : Nat} (ho : o.op = .field t x f) {ti : TI} (ht : TAB t = some ti) {fs : List (Nat × Nat)} (hf : ti.d = .struct fs) (htok : ti.flat = true)
    {off : Nat} (hfs : fs[f]? = some (off, 1)) {cs : List SV} (hx : evalO st x = .agg cs) {s : SV} (hcs : cs[off]? = some s) : OpOK C o st (.sc s) [] :=
  .pure hd fun I ρ a w hs => by
    have h1 := hs.eval x
    rw [hx] at h1
    obtain ⟨⟨vs, h2, h3⟩, h4⟩ := h1
    obtain ⟨u, h5, h6⟩ := All2.get _ _ h3 off _ hcs
    obtain ⟨fields, hu, hmap, hfl⟩ := (hT _ _ ht).struct' hf htok
    rw [← hmap, List.getElem?_map] at hfs
    cases hfe : fields.toList[f]? with
    | none => rw [hfe] at hfs; cases hfs
    | some fd =>
      rw [hfe] at hfs
      simp only [Option.map_some, Option.some.injEq, Prod.mk.injEq] at hfs
      obtain ⟨ud, hud, hno⟩ := hfl fd (List.mem_of_getElem? hfe)
      obtain ⟨hn1, hn2⟩ := hno hfs.2
      have hfe' : fields[f]? = some fd := by simpa using hfe
      have hagg : (isAgg fd.type).run C.P w = .ok false w := by
        unfold isAgg
        cases ud with
        | struct g => exact absurd rfl (hn1 g)
        | array n e => exact absurd rfl (hn2 n e)
        | _ => simp [Sem.run_bind, run_underlying hud, Result.andThen_ok]
      have hv : vs[fd.offset]? = some u := by rw [hfs.1]; simpa using h5
      refine ⟨u, ?_, SRep.av h6, fun id hid => h4 id (List.mem_flatMap.2 ⟨s, List.mem_of_getElem? hcs, hid⟩)⟩
      simp [execOp, ho, h2, Instr.field, part, Sem.run_bind, run_underlying hu, hfe', hagg, hv, asAgg]
theorem ok_extract (hd : ∀ d, o.dst = some d → d < C.n) {x : Operand} {ix : Nat} (ho : o.op = .extract x ix) {l : List (Bool × List SV)} (hx : evalO st x = .tup l) {b : Bool} {cs : List SV} (hl : l[ix]? = some (b, cs))
    {v : AV} (hv : mkAV b cs = some v) : OpOK C o st v [] :=
  .pure hd fun I ρ a w hs => by
    have h1 := hs.eval x
    rw [hx] at h1
    obtain ⟨⟨vs, h2, h3⟩, h4⟩ := h1
    obtain ⟨u, h5, h6⟩ := All2.get _ _ h3 ix _ hl
    refine ⟨u, ?_, ?_, ?_⟩
    · have : vs[ix]? = some u := by simpa using h5
      simp [execOp, ho, h2, Instr.extract, this]
    · unfold mkAV at hv
      cases b with
      | true => simp only [cond_true, Option.some.injEq] at hv; subst hv; exact h6
      | false =>
        simp only [cond_false] at hv
        split at hv
        · injection hv with hv; subst hv; exact SRep.av h6
        · cases hv
    · intro id hid
      refine h4 id (List.mem_flatMap.2 ⟨(b, cs), List.mem_of_getElem? hl, ?_⟩)
      unfold mkAV at hv
      cases b with
      | true => simp only [cond_true, Option.some.injEq] at hv; subst hv; exact hid
      | false =>
        simp only [cond_false] at hv
        split at hv
        · injection hv with hv; subst hv; simpa [refsAV] using hid
        · cases hv

theorem ok_nil (hd : ∀ d, o.dst = some d → d < C.n) {x : Operand} (ho : o.op = .nilCheck x) {id p : Nat} (hx : evalO st x = .sc (.ptr id p)) : OpOK C o st (.sc (.ptr id p)) [] :=
  .pure hd fun I ρ a w hs => by
    have h3 := hs.eval x
    rw [hx] at h3
    have h4 : a.eval x = .pointer (some ⟨bl ρ id, p, none⟩) := h3.1
    exact ⟨_, by simp [execOp, ho, h4], rfl, h3.2⟩

theorem ptrIds_ok : ∀ (l : List Operand) (ids : List Nat), ptrIds st l = some ids → ∀ {I ρ a w}, Sim C I ρ st a w → l.map a.eval = ids.map (ptrV ρ) ∧ ∀ id ∈ ids, st.H id ≠ .none
  | [], ids, h, _, _, _, _, hs => by simp only [ptrIds, Option.some.injEq] at h; subst h; simp
  | x :: r, ids, h, I, ρ, a, w, hs => by
    simp only [ptrIds] at h
    split at h
    · rename_i id l' h1 h2
      injection h with h
      subst h
      obtain ⟨e1, e2⟩ := ptrIds_ok r l' h2 hs
      have h3 := hs.eval x
      rw [h1] at h3
      have h4 : a.eval x = .pointer (some ⟨bl ρ id, 0, none⟩) := h3.1
      refine ⟨by simp [e1, h4, ptrV], fun i hi => ?_⟩
      rcases List.mem_cons.1 hi with rfl | hi
      · exact h3.2 _ (by simp [refsAV, refs])
      · exact e2 i hi
    · cases h

theorem ok_makeFunc (hd : ∀ d, o.dst = some d → d < C.n) {f : FuncId} {first captured : Array Operand} (ho : o.op = .makeFunc (.func f) first captured) (hf : first.toList = []) {ids : List Nat} (hc : ptrIds st captured.toList = some ids) : OpOK C o st (.sc (.clo f ids)) [] :=
  .pure hd fun I ρ a w hs => by
    obtain ⟨e1, e2⟩ := ptrIds_ok _ _ hc hs
    have hf' : first = #[] := by simpa using hf
    refine ⟨.func (.func f) #[] (captured.map a.eval), by simp [execOp, ho, Instr.makeFunc, hf'], ?_, by simpa [refsAV, refs] using e2⟩
    show _ = _
    congr 1
    apply Array.ext'
    simpa using e1

theorem setCells_length : ∀ (vs cs : List SV) (i : Nat), (setCells cs i vs).length = cs.length
  | [], _, _ => rfl
  | v :: vs, cs, i => by simp [setCells, setCells_length vs]
theorem setCells_rep {R : SV → Value → Prop} : ∀ (vs : List SV) (us : List Value) (cs : List SV) (ds : List Value) (i : Nat), All2 R cs ds → All2 R vs us → i + vs.length ≤ cs.length → All2 R (setCells cs i vs) (ds.take i ++ us ++ ds.drop (i + us.length))
  | [], [], cs, ds, i, h, _, _ => by simpa [setCells] using h
  | v :: vs, u :: us, cs, ds, i, h, ⟨h1, h2⟩, hl => by
    have hlen := All2.length _ _ h
    have hs := All2.set _ _ i _ _ h h1
    have ih := setCells_rep vs us (cs.set i v) (ds.set i u) (i + 1) hs h2 (by simp at hl ⊢; omega)
    simp only [setCells]
    have hi : i < ds.length := by simp at hl; omega
    have e1 : (ds.set i u).take (i + 1) = ds.take i ++ [u] := by
      rw [List.take_succ_eq_append_getElem (by simpa using hi), List.take_set_of_le (Nat.le_refl _)]
      simp
    have e2 : (ds.set i u).drop (i + 1 + us.length) = ds.drop (i + (u :: us).length) := by
      rw [List.drop_set_of_lt (by omega)]
      simp [Nat.add_assoc, Nat.add_comm 1]
    rw [e1, e2] at ih
    simpa using ih
  | [], _ :: _, _, _, _, _, h, _ => h.elim
  | _ :: _, [], _, _, _, _, h, _ => h.elim

theorem AV.cells_rep {I : Imm} {w : World} {ρ : Nat → Value} {v : AV} {cs : List SV} {x : Value} (h : v.cells = some cs) (hv : AVRep I w ρ v x) : All2 (SRep I w ρ) cs x.cells.toList ∧ ∀ s ∈ cs, ∀ id ∈ refs s, id ∈ refsAV v := by
  unfold AV.cells at h
  split at h
  · cases h
  · rename_i s hne
    injection h with h
    subst h
    have hr := hv.sc hne
    have h1 := SRep.one hr
    refine ⟨?_, fun s' hs' id hid => by simp at hs'; subst hs'; exact hid⟩
    have : x.cells = #[x] := by cases x <;> simp_all [Value.cells, Value.oneCell']
    rw [this]
    exact ⟨hr, trivial⟩
  · rename_i cs'
    injection h with h
    subst h
    obtain ⟨vs, rfl, h2⟩ := hv
    exact ⟨h2, fun s hs id hid => List.mem_flatMap.2 ⟨s, hs, hid⟩⟩
  · cases h

theorem zrep_rep {I : Imm} {w : World} {ρ : Nat → Value} {s : SV} {v : Value} (h : zrep s v) : SRep I w ρ s v ∧ refs s = [] := by
  cases s <;> first | exact ⟨h, rfl⟩ | exact h.elim

/-- The parts laid over the zero value's cells. -/
theorem fill_rep {I : Imm} {ρ : Nat → Value} {a : Act} {w : World} (hs : Sim C I ρ st a w) (pl : Nat → Option (Nat × Nat)) (fs : List (Nat × Nat)) (hpl : ∀ i p, fs[i]? = some p → pl i = some p) : ∀ (parts : List (Nat × Operand)) (cs : List SV) (ds : Array Value) (cs' : List SV),
    fillCells fs st cs parts = some cs' → All2 (SRep I w ρ) cs ds.toList → (∀ s ∈ cs, ∀ id ∈ refs s, st.H id ≠ .none) →
    ∃ ds', Instr.fill pl ds (parts.map fun p => (p.1, a.eval p.2)) = some ds' ∧ All2 (SRep I w ρ) cs' ds'.toList ∧ ∀ s ∈ cs', ∀ id ∈ refs s, st.H id ≠ .none
  | [], cs, ds, cs', h, hr, hl => by
    simp only [fillCells, Option.some.injEq] at h
    subst h
    exact ⟨ds, rfl, hr, hl⟩
  | (i, x) :: r, cs, ds, cs', h, hr, hl => by
    simp only [fillCells, cond_eq_ite] at h
    split at h
    · rename_i off sz vs h1 h2
      split at h
      · rename_i h3
        rw [Bool.and_eq_true] at h3
        have h4 := Nat.eq_of_beq_eq_true h3.1
        have h5 := Nat.le_of_ble_eq_true h3.2
        obtain ⟨h6, h7⟩ := AV.cells_rep h2 (hs.eval x).1
        have hlen := All2.length _ _ h6
        have hlen2 := All2.length _ _ hr
        have hsz : (a.eval x).cells.size = sz := by rw [← h4, hlen]; simp
        have hrep := setCells_rep vs _ cs _ off hr h6 h5
        have hfold : ((a.eval x).cells.zipIdx.foldl (fun cs (c, j) => cs.setIfInBounds (off + j) c) ds).toList = ds.toList.take off ++ (a.eval x).cells.toList ++ ds.toList.drop (off + (a.eval x).cells.toList.length) := by
          have key : ∀ (us : List Value) (k : Nat) (ds : Array Value), off + k + us.length ≤ ds.size →
              ((us.zipIdx k).foldl (fun (cs : Array Value) (p : Value × Nat) => cs.setIfInBounds (off + p.2) p.1) ds).toList = ds.toList.take (off + k) ++ us ++ ds.toList.drop (off + k + us.length) := by
            intro us
            induction us with
            | nil => intro k ds _; simp
            | cons u us ih =>
              intro k ds hk
              simp only [List.zipIdx_cons, List.foldl_cons]
              rw [ih (k + 1) (ds.setIfInBounds (off + k) u) (by simp at hk ⊢; omega)]
              have hi : off + k < ds.toList.length := by simp at hk ⊢; omega
              have e1 : (ds.setIfInBounds (off + k) u).toList.take (off + (k + 1)) = ds.toList.take (off + k) ++ [u] := by
                rw [Array.toList_setIfInBounds, ← Nat.add_assoc, List.take_succ_eq_append_getElem (by simpa using hi), List.take_set_of_le (Nat.le_refl _)]
                simp
              have e2 : (ds.setIfInBounds (off + k) u).toList.drop (off + (k + 1) + us.length) = ds.toList.drop (off + k + (u :: us).length) := by
                rw [Array.toList_setIfInBounds, List.drop_set_of_lt (by omega)]
                congr 1
                simp; omega
              rw [e1, e2]
              simp
          have := key (a.eval x).cells.toList 0 ds (by simp at hlen hlen2 ⊢; omega)
          simp only [Nat.add_zero] at this
          rw [← this, ← Array.foldl_toList, Array.toList_zipIdx]
        obtain ⟨ds', g1, g2, g3⟩ := fill_rep hs pl fs hpl r (setCells cs off vs) ((a.eval x).cells.zipIdx.foldl (fun cs (c, j) => cs.setIfInBounds (off + j) c) ds) cs' h (by rw [hfold]; exact hrep) (by
          intro s hsm id hid
          have : s ∈ cs ∨ s ∈ vs := by
            have mem : ∀ (vs cs : List SV) (k : Nat), s ∈ setCells cs k vs → s ∈ cs ∨ s ∈ vs := by
              intro vs
              induction vs with
              | nil => intro cs k h; exact .inl h
              | cons v vs ih =>
                intro cs k h
                rcases ih _ _ h with h | h
                · rcases List.mem_or_eq_of_mem_set h with h | h
                  · exact .inl h
                  · exact .inr (by simp [h])
                · exact .inr (List.mem_cons_of_mem _ h)
            exact mem vs cs off hsm
          rcases this with h | h
          · exact hl s h id hid
          · exact (hs.eval x).2 id (h7 s h id hid))
        refine ⟨ds', ?_, g2, g3⟩
        have hle : off + (a.eval x).cells.size ≤ ds.size := by simp at hlen hlen2; omega
        simp only [List.map_cons, Instr.fill, hpl i _ h1]
        rw [if_neg (by simp only [Bool.or_eq_true, decide_eq_true_eq, not_or]; exact ⟨fun hne => hne hsz, by omega⟩)]
        exact g1
      · cases h
    · cases h

theorem ok_build (hd : ∀ d, o.dst = some d → d < C.n) {TAB : TypeId → Option TI} (hT : TabOK C.P TAB) {t : TypeId} {parts : Array (Nat × Operand)} (ho : o.op = .build t parts) {ti : TI} (ht : TAB t = some ti)
    {fs : List (Nat × Nat)} (hf : ti.d = .struct fs) {cs : List SV} (hc : fillCells fs st ti.zero parts.toList = some cs) (hfs : fs.all (fun p => Nat.blt 0 p.2) = true) : OpOK C o st (.agg cs) [] :=
  .pure hd fun I ρ a w hs => by
    obtain ⟨fields, hu, hm⟩ := (hT t ti ht).struct hf
    obtain ⟨i, z, h1, h2, h3, h4, h5, _⟩ := (hT t ti ht).info
    have hz : All2 (SRep I w ρ) ti.zero z.cells.toList := All2.imp _ _ (fun s v _ h => (zrep_rep h).1) h5
    have hzr : ∀ s ∈ ti.zero, ∀ id ∈ refs s, st.H id ≠ .none := by
      intro s hsm id hid
      obtain ⟨k, hk⟩ := List.mem_iff_getElem?.1 hsm
      obtain ⟨b, _, hb⟩ := All2.get _ _ h5 k s hk
      rw [(zrep_rep (I := I) (w := w) (ρ := ρ) hb).2] at hid
      cases hid
    obtain ⟨ds', g1, g2, g3⟩ := fill_rep hs ((fs.toArray)[·]?) fs (fun i p h => by simpa using h) parts.toList ti.zero z.cells cs hc hz hzr
    refine ⟨.agg ds', ?_, ⟨ds', rfl, g2⟩, fun id hid => by obtain ⟨s, hsm, hi⟩ := List.mem_flatMap.1 hid; exact g3 s hsm id hi⟩
    have hplaces : (fields.mapM fun f => do pure (f.offset, ← sizeOf f.type) : Sem (Array (Nat × Nat))).run C.P w = .ok fs.toArray w := by
      have key : ∀ (l : List Field), (∀ p ∈ l.map (fun f => (f.offset, C.P.cellsOf f.type)), Nat.blt 0 p.2 = true) → (l.mapM fun f => do pure (f.offset, ← sizeOf f.type) : Sem (List (Nat × Nat))).run C.P w = .ok (l.map (fun f => (f.offset, C.P.cellsOf f.type))) w := by
        intro l
        induction l with
        | nil => intro _; rfl
        | cons f l ih =>
          intro hl
          have h0 := hl (f.offset, C.P.cellsOf f.type) (by simp)
          have hpos : 0 < C.P.cellsOf f.type := by simpa [Nat.blt_eq] using h0
          have : ∃ i, C.P.info? f.type = some i ∧ i.size = C.P.cellsOf f.type := by
            unfold Program.cellsOf at hpos ⊢
            cases hi : C.P.info? f.type with
            | none => rw [hi] at hpos; simp at hpos
            | some i => exact ⟨i, rfl, by simp⟩
          obtain ⟨i, g7, g8⟩ := this
          have ih' := ih (fun p hp => hl p (by simp at hp ⊢; exact .inr hp))
          simp only [List.mapM_cons, Sem.run_bind, sizeOf, typeInfo, run_program, Result.andThen_ok, g7, Sem.run_pure, g8]
          simp only [sizeOf, typeInfo] at ih'
          rw [ih']
          simp
      have := key fields.toList (by rw [hm]; simpa [List.all_eq_true] using hfs)
      rw [hm] at this
      rw [Array.mapM_eq_mapM_toList, Sem.run_map, this]
      rfl
    have hfill : Instr.fill ((fs.toArray)[·]?) z.cells (parts.map fun (i, x) => (i, a.eval x)).toList = some ds' := by
      rw [← g1]; simp
    simp only [execOp, ho, Instr.build, Sem.run_bind, zeroValue, typeInfo, run_program, Result.andThen_ok, h1, Sem.run_pure, h4, run_underlying hu]
    rw [hplaces]
    simp only [Result.andThen_ok, hfill, Sem.run_pure]
end
end Go.Pev
