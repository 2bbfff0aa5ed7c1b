/- The abstract evaluator: its operations are the machine's: lengths, least and greatest, slices of slices; new variables; stores. -/
import Derived.Test.YtbfkfobfhjgphaaGreatPevH
set_option linter.unusedVariables false
set_option linter.unusedSimpArgs false
namespace Go.Pev
open Go

section
variable {C : Ctx} {o : Oper} {st : AS}

theorem call_builtin {P : Program} {a : Act} {w : World} {b : Builtin} {c : Call} (ho : o.op = .call c) (hc : c.callee = .builtin b) :
    (execOp a.eval o).run P w = (builtin b c.argTypes o.type (c.args.map fun | .const _ => true | _ => false) (c.args.map a.eval)).run P w := by
  simp [execOp, ho, resolve, hc, invoke]
  rfl

theorem lenSV_rep {I : Imm} {ρ : Nat → Value} {a : Act} {w : World} (hs : Sim C I ρ st a w) {s : SV} {n : Int} (h : lenSV st.H s = some n) {v : Value} (hv : SRep I w ρ s v) : ∃ (ad : Option Addr) (l cap : Nat), v = .slice ad l cap ∧ n = l := by
  unfold lenSV at h
  split at h
  · rename_i e xs
    obtain ⟨ad, cap, h1, _, _⟩ := hv
    simp only [List.cons.injEq, and_true] at h1
    exact ⟨ad, xs.length, cap, h1, by injection h with h; exact h.symm⟩
  · injection h with h
    exact ⟨none, 0, 0, hv, h.symm⟩
  · rename_i id
    split at h
    · rename_i tid e xs hH
      have hb := hs.blks id
      rw [hH] at hb
      obtain ⟨ad, cap, h1, _, _⟩ := rowRep.view hb
      simp only [List.cons.injEq, and_true] at h1
      exact ⟨ad, xs.length, cap, by rw [hv.1]; exact h1, by injection h with h; exact h.symm⟩
    · cases h
  · cases h

theorem ok_len (hd : ∀ d, o.dst = some d → d < C.n) {TAB : TypeId → Option TI} (hT : TabOK C.P TAB) {c : Call} (ho : o.op = .call c) (hc : c.callee = .builtin .len) {x : Operand} {t : TypeId} (h1 : c.args.toList = [x]) (h2 : c.argTypes.toList = [t])
    {ti : TI} (ht : TAB t = some ti) {e : TypeId} (he : ti.d = .slice e) {s : SV} (hx : evalO st x = .sc s) {n : Int} (hn : lenSV st.H s = some n) : OpOK C o st (.sc (.int .i64 n)) [] :=
  .pure hd fun I ρ a w hs => by
    have h3 := (hs.eval x).1
    rw [hx] at h3
    have hne : s ≠ .undef := by intro e; subst e; simp [lenSV] at hn
    obtain ⟨ad, l, cap, h4, h5⟩ := lenSV_rep hs hn (h3.sc hne)
    have hu := (hT t ti ht).slice he
    have e1 : c.args = #[x] := by apply Array.ext'; simpa using h1
    have e2 : c.argTypes = #[t] := by apply Array.ext'; simpa using h2
    refine ⟨.int .i64 n, ?_, rfl, by simp [refsAV, refs]⟩
    rw [call_builtin ho hc]
    simp [e1, e2, builtin, Builtin.len_, run_underlying hu, h4, h5, goInt]

theorem foldMin_rep {I : Imm} {ρ : Nat → Value} {P : Program} {w : World} (mx : Bool) (k : IntKind) : ∀ (l : List AV) (vs : List Value) (a b : Int), foldMin mx a l k = some b → All2 (AVRep I w ρ) l vs →
    (vs.foldlM (if mx then Builtin.max2 else Builtin.min2) (.int k a)).run P w = .ok (.int k b) w
  | [], [], a, b, h, _ => by simp only [foldMin, Option.some.injEq] at h; subst h; rfl
  | .sc (.int k' c) :: l, v :: vs, a, b, h, ⟨h1, h2⟩ => by
    simp only [foldMin, cond_eq_ite] at h
    split at h
    · rename_i hk
      simp only [decide_eq_true_eq] at hk
      subst hk
      have h3 : v = .int k c := h1
      subst h3
      have ih := foldMin_rep (P := P) mx k l vs _ b h h2
      simp only [List.foldlM_cons, Sem.run_bind]
      cases mx with
      | true =>
        simp only [if_true, Builtin.max2, Sem.run_pure, Result.andThen_ok] at ih ⊢
        exact ih
      | false =>
        simp only [Bool.false_eq_true, if_false, Builtin.min2, Sem.run_pure, Result.andThen_ok] at ih ⊢
        exact ih
    · cases h

theorem evals_rep {I : Imm} {ρ : Nat → Value} {a : Act} {w : World} (hs : Sim C I ρ st a w) : ∀ (l : List Operand), All2 (AVRep I w ρ) (l.map (evalO st)) (l.map a.eval)
  | [] => trivial
  | x :: r => ⟨(hs.eval x).1, evals_rep hs r⟩

theorem ok_min (hd : ∀ d, o.dst = some d → d < C.n) (mx : Bool) {c : Call} (ho : o.op = .call c) (hc : c.callee = .builtin (if mx then .max else .min)) {k : IntKind} {a0 : Int} {r : List AV} (h1 : c.args.toList.map (evalO st) = .sc (.int k a0) :: r)
    {n : Int} (hn : foldMin mx a0 r k = some n) : OpOK C o st (.sc (.int k n)) [] :=
  .pure hd fun I ρ a w hs => by
    have h2 := evals_rep hs c.args.toList
    rw [h1] at h2
    refine ⟨.int k n, ?_, rfl, by simp [refsAV, refs]⟩
    rw [call_builtin ho hc]
    match hv : c.args.toList.map a.eval, h2 with
    | v :: vs, ⟨h3, h4⟩ =>
      have h5 : v = .int k a0 := h3
      subst h5
      have hf := foldMin_rep (P := C.P) mx k r vs a0 n hn h4
      have e1 : (c.args.map a.eval).toList = .int k a0 :: vs := by rw [Array.toList_map]; exact hv
      cases mx with
      | true => simp only [if_true, builtin, Builtin.max_, e1, Sem.run_bind] at hf ⊢; simp [hf]
      | false => simp only [Bool.false_eq_true, if_false, builtin, Builtin.min_, e1, Sem.run_bind] at hf ⊢; simp [hf]

theorem intO_rep {I : Imm} {ρ : Nat → Value} {a : Act} {w : World} (hs : Sim C I ρ st a w) {x : Operand} {d n : Int} (h : intO st (some x) d = some n) : ∃ k, a.eval x = .int k n := by
  simp only [intO] at h
  split at h
  · rename_i k m hx
    injection h with h
    subst h
    have := (hs.eval x).1
    rw [hx] at this
    exact ⟨k, this⟩
  · cases h

theorem slice_rep {I : Imm} {w : World} {e : Ty} {xs : List e.I} {ad : Option Addr} {len cap : Nat} (h : CRep I w (.sl e) xs [.slice ad len cap]) (l h' m : Nat) (hl : l ≤ h') (hm : h' ≤ m) (hx : h' ≤ xs.length) :
    CRep I w (.sl e) ((xs.take h').drop l) [.slice (if m = l then ad else ad.map (·.add (l * e.size))) (h' - l) (m - l)] := by
  obtain ⟨a, c, h1, h2, h3⟩ := h
  simp only [List.cons.injEq, and_true, Value.slice.injEq] at h1
  obtain ⟨rfl, rfl, rfl⟩ := h1
  have hlen : ((xs.take h').drop l).length = h' - l := by simp; omega
  refine ⟨_, _, by rw [hlen], by rw [hlen]; omega, fun i hi => ?_⟩
  rw [hlen] at hi
  have hml : ¬ m = l := by omega
  obtain ⟨ad', cs, g1, g2, g3⟩ := h3 (l + i) (by omega)
  subst g1
  refine ⟨ad'.add (l * e.size), cs, by rw [if_neg hml]; rfl, ?_, ?_⟩
  · have : ((xs.take h').drop l)[i]'(by rw [hlen]; exact hi) = xs[l + i]'(by omega) := by
      rw [List.getElem_drop, List.getElem_take]
    rw [this]
    exact g2
  · intro j u hu
    rw [add_add, ← Nat.add_assoc, ← Nat.add_mul]
    exact g3 j u hu

theorem run_bound {P : Program} (k : IntKind) (i : Int) (y : Nat) (code : BoundsCode) (w : World) (h0 : 0 ≤ i) (h1 : i ≤ y) : (Instr.sliceBound (.int k i) y code).run P w = .ok i.toNat w := by
  simp [Instr.sliceBound, asIntOf, h0, h1]

theorem ok_slice (hd : ∀ d, o.dst = some d → d < C.n) {TAB : TypeId → Option TI} (hT : TabOK C.P TAB) {t e : TypeId} {x : Operand} {lo hi mx : Option Operand} (ho : o.op = .slice t x lo hi mx) {te : TI} (ht : elemOf TAB t = some (e, te))
    {s : SV} (hx : evalO st x = .sc s) {xs : List te.ty.I} (hv : viewOf st.H te.ty s = some xs) {l h m : Int} (h1 : intO st hi xs.length = some h) (h2 : intO st lo 0 = some l)
    (h3 : maxO st hi mx h = some m) (g0 : 0 ≤ l) (g1 : l ≤ h) (g2 : h ≤ m) (g3 : m ≤ xs.length) :
    OpOK C o st (.sc (.view te.ty ((xs.take h.toNat).drop l.toNat))) [] :=
  .pure hd fun I ρ a w hs => by
    have hx' := (hs.eval x).1
    rw [hx] at hx'
    have hne : s ≠ .undef := by intro e; subst e; simp [viewOf] at hv
    have hview := hs.viewOf hv (hx'.sc hne)
    obtain ⟨ad, cap, f1, f2, f3⟩ := id hview
    simp only [List.cons.injEq, and_true] at f1
    rw [f1] at hview
    obtain ⟨hu, hte, htok⟩ := elemOf_ok hT ht
    obtain ⟨i0, z, q1, q2, q3, q4, q5, q6⟩ := hte.info
    have hsz := (q6 htok).1
    have hlo : (lo = none ∧ l = 0) ∨ ∃ x k, lo = some x ∧ a.eval x = .int k l := by
      cases lo with
      | none => simp only [intO, Option.some.injEq] at h2; exact .inl ⟨rfl, h2.symm⟩
      | some lo =>
        obtain ⟨k, hk⟩ := intO_rep hs h2
        exact .inr ⟨lo, k, rfl, hk⟩
    have hbounds : ∃ mm : Nat, h.toNat ≤ mm ∧ (Instr.sliceBounds true xs.length cap (lo.map a.eval) (hi.map a.eval) (mx.map a.eval)).run C.P w = .ok (l.toNat, h.toNat, mm) w := by
      cases hi with
      | none =>
        cases mx with
        | some mx => simp [maxO] at h3
        | none =>
          simp only [intO, Option.some.injEq] at h1
          subst h1
          refine ⟨cap, by simpa using f2, ?_⟩
          rcases hlo with ⟨rfl, rfl⟩ | ⟨y, k, rfl, hk⟩
          · simp [Instr.sliceBounds]
          · have := run_bound (P := C.P) k l xs.length .sliceB w g0 (by omega)
            simp [Instr.sliceBounds, hk, this]
      | some hi =>
        obtain ⟨k, hk⟩ := intO_rep hs h1
        cases mx with
        | none =>
          refine ⟨cap, by omega, ?_⟩
          have e1 := run_bound (P := C.P) k h cap .sliceAcap w (by omega) (by omega)
          rcases hlo with ⟨rfl, rfl⟩ | ⟨y, k2, rfl, hk2⟩
          · simp [Instr.sliceBounds, hk, e1]
          · have e2 := run_bound (P := C.P) k2 l h.toNat .sliceB w g0 (by omega)
            simp [Instr.sliceBounds, hk, hk2, e1, e2]
        | some mx =>
          simp only [maxO] at h3
          obtain ⟨k', hk'⟩ := intO_rep hs h3
          refine ⟨m.toNat, by omega, ?_⟩
          have e0 := run_bound (P := C.P) k' m cap .slice3Acap w (by omega) (by omega)
          have e1 := run_bound (P := C.P) k h m.toNat .slice3B w (by omega) (by omega)
          rcases hlo with ⟨rfl, rfl⟩ | ⟨y, k2, rfl, hk2⟩
          · simp [Instr.sliceBounds, hk, hk', e0, e1]
          · have e2 := run_bound (P := C.P) k2 l h.toNat .slice3C w g0 (by omega)
            simp [Instr.sliceBounds, hk, hk', hk2, e0, e1, e2]
    obtain ⟨mm, hmm, hb⟩ := hbounds
    have hr := slice_rep hview l.toNat h.toNat mm (by omega) hmm (by omega)
    rw [hsz] at hr
    refine ⟨_, ?_, hr, by simp [refsAV, refs]⟩
    simp only [execOp, ho, Instr.sliceAt, f1, Instr.slice, Sem.run_bind, run_underlying hu, Result.andThen_ok, hb, hte.size, Sem.run_pure]

/-! ### New variables -/
theorem heap_alloc (w : World) (x : Obj) (i : Nat) (h : i < w.heap.size) : (w.alloc x).heap[i]? = w.heap[i]? := by
  simp only [World.alloc, Array.getElem?_push]
  split
  · omega
  · rfl
theorem heap_alloc_self (w : World) (x : Obj) : (w.alloc x).heap[w.heap.size]? = some x := by unfold World.alloc; simp only [Array.getElem?_push, if_true]
theorem keeps_alloc {I : Imm} {w : World} (hin : ∀ b o, I b o → b < w.heap.size) (x : Obj) : Keeps I w (w.alloc x) := fun p u hp hc => by
  rw [World.cell?_alloc_lt w x p (hin _ _ hp)]; exact hc

theorem bk_lt {I : Imm} {ρ : Nat → Value} {a : Act} {w : World} (hs : Sim C I ρ st a w) {id g : Nat} (h : bk ρ id (st.H id) = some g) : g < w.heap.size := by
  have hb := hs.blks id
  match hH : st.H id, h, hb with
  | .box cs, h, ⟨B, hB, cur, T, hc, _, _⟩ =>
    simp only [bk, hB, boxV, Value.ownBlock, Option.some.injEq] at h
    subst h
    exact (Array.getElem?_eq_some_iff.1 hc).1
  | .row tid e xs, h, ⟨cs, h1, h2, h3, _⟩ => exact (h2.lt g h).2
  | .raw tid e n, h, ⟨g', cap, cur, hv, _, hc, _⟩ =>
    simp only [bk, hv, Value.ownBlock, Option.some.injEq] at h
    subst h
    exact (Array.getElem?_eq_some_iff.1 hc).1

theorem Sim.alloc {I : Imm} {ρ : Nat → Value} {a : Act} {w : World} (hs : Sim C I ρ st a w) (x : Obj) : Sim C I ρ st a (w.alloc x) :=
  hs.evolve (fun _ _ h => h) (keeps_alloc hs.immIn x) (fun id g hg => ⟨heap_alloc w x g (bk_lt hs hg), fun _ => Iff.rfl⟩) hs.immNew
    (fun b o h => by have := hs.immIn b o h; simp; omega) (by simp) (fun i hi _ => heap_alloc w x i (Nat.lt_of_lt_of_le hi hs.size)) rfl rfl rfl

/-- A new box. -/
theorem Sim.newBox {I : Imm} {ρ : Nat → Value} {a : Act} {w : World} (hs : Sim C I ρ st a w) {id : Nat} (hid : st.H id = .none) (hz : C.Z id = none) {cs : List SV} {vs : Array Value} {T : TypeId} (hr : All2 (SRep I w ρ) cs vs.toList)
    (hrf : ∀ s ∈ cs, ∀ i ∈ refs s, st.H i ≠ .none) : Sim C I (upd ρ id (boxV w.heap.size)) ⟨st.T, upd st.H id (.box cs)⟩ a (w.alloc (.cells vs T)) := by
  refine (hs.alloc _).new hid hz ?_ ?_ ?_ ?_ (by simp)
  · refine ⟨w.heap.size, upd_same _ _ _, vs, T, heap_alloc_self w _, ?_, fun o ho => Nat.lt_irrefl _ (hs.immIn _ _ ho)⟩
    exact All2.imp _ _ (fun s v hsm h => SRep.ren (fun i hi => upd_ne ρ _ (fun e : i = id => hrf s hsm i hi (by rw [e]; exact hid))) (SRep.mono (fun _ _ h => h) (keeps_alloc hs.immIn _) h)) hr
  · intro j g hg
    have := bk_lt hs hg
    simp only [boxV, Value.ownBlock, ne_eq, Option.some.injEq]
    omega
  · intro g hg
    simp only [boxV, Value.ownBlock, Option.some.injEq] at hg
    subst hg
    exact .inl hs.size
  · intro cs' hc s hsm i hi
    simp only [Blk.box.injEq] at hc
    subst hc
    exact hrf s hsm i hi

theorem ok_box (hd : ∀ d, o.dst = some d → d < C.n) {t : TypeId} {x : Operand} (ho : o.op = .box t x) {cs : List SV} (hx : (evalO st x).cells = some cs) {d : Nat} (hdst : o.dst = some d) (hH : st.H d = .none) :
    OpOK C o st (.sc (.ptr d 0)) [(d, .box cs)] := by
  intro I ρ a w hs next Q hn
  obtain ⟨h1, h2⟩ := AV.cells_rep hx (hs.eval x).1
  have h3 := hs.newBox hH (C.z_lt (hd _ hdst)) (T := t) h1 (fun s hsm i hi => (hs.eval x).2 i (h2 s hsm i hi))
  refine wp_value (x := .pointer (some ⟨w.heap.size, 0, none⟩)) (w' := w.alloc (.cells (a.eval x).cells t)) ?_ ?_
  · simp [execOp, ho, Instr.box, newVar, newRow]
  · refine hn I (upd ρ d (boxV w.heap.size)) _ _ ?_
    have := h3.put hd (v := .sc (.ptr d 0)) (x := .pointer (some ⟨w.heap.size, 0, none⟩)) (by simp [AVRep, SRep, bl, upd_same, boxV, Value.ownBlock]) (by simp [refsAV, refs, upd_same])
    simpa [AS.apply, upds, hdst] using this

theorem ok_alloc (hd : ∀ d, o.dst = some d → d < C.n) {TAB : TypeId → Option TI} (hT : TabOK C.P TAB) {t : TypeId} (ho : o.op = .alloc t) {ti : TI} (ht : TAB t = some ti) {d : Nat} (hdst : o.dst = some d) (hH : st.H d = .none) :
    OpOK C o st (.sc (.ptr d 0)) [(d, .box ti.zero)] := by
  intro I ρ a w hs next Q hn
  obtain ⟨i, z, g1, g2, g3, g4, g5, g6⟩ := (hT t ti ht).info
  have hr : All2 (SRep I w ρ) ti.zero z.cells.toList := All2.imp _ _ (fun s v _ h => (zrep_rep h).1) g5
  have h3 := hs.newBox hH (C.z_lt (hd _ hdst)) (T := t) hr (fun s hsm i hi => by
    obtain ⟨k, hk⟩ := List.mem_iff_getElem?.1 hsm
    obtain ⟨b, _, hb⟩ := All2.get _ _ g5 k s hk
    rw [(zrep_rep (I := I) (w := w) (ρ := ρ) hb).2] at hi
    cases hi)
  refine wp_value (x := .pointer (some ⟨w.heap.size, 0, none⟩)) (w' := w.alloc (.cells z.cells t)) ?_ ?_
  · simp [execOp, ho, Instr.alloc, newVar, newRow, zeroValue, typeInfo, g1, g4]
  · refine hn I (upd ρ d (boxV w.heap.size)) _ _ ?_
    have := h3.put hd (v := .sc (.ptr d 0)) (x := .pointer (some ⟨w.heap.size, 0, none⟩)) (by simp [AVRep, SRep, bl, upd_same, boxV, Value.ownBlock]) (by simp [refsAV, refs, upd_same])
    simpa [AS.apply, upds, hdst] using this

/-! ### Stores -/
theorem heap_setRow_ne (w : World) (g i : Nat) (cs : Array Value) (h : i ≠ g) : (w.setRow g cs).heap[i]? = w.heap[i]? := by
  simp only [World.setRow, Array.getElem?_modify]
  split
  · omega
  · rfl

theorem ok_store (hd : ∀ d, o.dst = some d → d < C.n) {TAB : TypeId → Option TI} (hT : TabOK C.P TAB) {t : TypeId} {x y : Operand} (ho : o.op = .store t x y) {ti : TI} (ht : TAB t = some ti) {id off : Nat} (hx : evalO st x = .sc (.ptr id off))
    {vs cs : List SV} (hy : (evalO st y).cells = some vs) (hH : st.H id = .box cs) (h1 : vs.length = ti.size) (h2 : off + vs.length ≤ cs.length) (hdst : o.dst = none) : OpOK C o st (.sc .undef) [(id, .box (setCells cs off vs))] := by
  intro I ρ a w hs next Q hn
  have h3 := (hs.eval x).1
  rw [hx] at h3
  have h4 : a.eval x = .pointer (some ⟨bl ρ id, off, none⟩) := h3
  obtain ⟨h5, h6⟩ := AV.cells_rep hy (hs.eval y).1
  have hlen := All2.length _ _ h5
  have hB := hs.blks id
  rw [hH] at hB
  obtain ⟨B, hB, cur, T, hc, hrep, himm⟩ := hB
  have hbl : bl ρ id = B := by simp [bl, hB, boxV, Value.ownBlock]
  rw [hbl] at h4
  have hlen2 := All2.length _ _ hrep
  have hone : ∀ v ∈ (a.eval y).cells.toList, v.oneCell' = true := by
    intro v hv
    obtain ⟨k, hk⟩ := List.mem_iff_getElem?.1 hv
    have hk' := (List.getElem?_eq_some_iff.1 hk).1
    have : vs[k]? = some vs[k] := List.getElem?_eq_getElem (by omega)
    obtain ⟨b, hb1, hb2⟩ := All2.get _ _ h5 k _ this
    rw [hk] at hb1
    injection hb1 with hb1
    subst hb1
    exact hb2.one
  have hst := run_storeCells_at C.P B off T (a.eval y).cells.toList 0 cur w hc (by simp at hlen hlen2 ⊢; omega) hone
  simp only [Nat.add_zero] at hst
  have hsize : ¬ ((a.eval y).cells.size ≠ ti.size) := by simp at hlen; omega
  refine wp_skip' (w' := w.setRow B (cur.toList.take off ++ (a.eval y).cells.toList ++ cur.toList.drop (off + (a.eval y).cells.toList.length)).toArray) ?_ ?_
  · simp only [execOp, ho, Instr.storeAt, h4, Instr.sureAddr, storeVar, Sem.run_bind, Sem.run_pure, Result.andThen_ok, (hT t ti ht).size]
    rw [if_neg hsize]
    rw [hst]
    rfl
  · refine hn I ρ _ _ ?_
    have hkeep : Keeps I w (w.setRow B (cur.toList.take off ++ (a.eval y).cells.toList ++ cur.toList.drop (off + (a.eval y).cells.toList.length)).toArray) := fun p u hp hcell => by
      rw [cell?_of_heap (heap_setRow_ne w B p.block _ (fun e => himm p.off (by rw [← e]; exact hp))) p rfl]
      exact hcell
    have hdead := hs.turn (id := id) (b := .dead) trivial (.inl rfl) (by simp) (by simp)
    have hapart : ∀ j g, bk ρ j (upd st.H id .dead j) = some g → g ≠ B := by
      intro j g hg e
      subst e
      by_cases hj : j = id
      · subst hj; rw [upd_same] at hg; cases hg
      · rw [upd_ne st.H _ hj] at hg
        exact hj (hs.apart j id g hg (by rw [hH]; simp [bk, hB, boxV, Value.ownBlock]))
    have hev := hdead.evolve (I' := I) (w' := w.setRow B (cur.toList.take off ++ (a.eval y).cells.toList ++ cur.toList.drop (off + (a.eval y).cells.toList.length)).toArray) (fun _ _ h => h) hkeep
      (fun j g hg => ⟨heap_setRow_ne w B g _ (hapart j g hg), fun _ => Iff.rfl⟩) hs.immNew (fun b o h => by simpa [World.setRow] using hs.immIn b o h) (by simp [World.setRow])
      (fun i hi hF => heap_setRow_ne w B i _ (fun e => by
        rcases hs.home id B (by rw [hH]; simp [bk, hB, boxV, Value.ownBlock]) with h | h
        · omega
        · exact hF (e ▸ h))) rfl rfl rfl
    have hrev := hev.revive (id := id) (b := .box (setCells cs off vs)) (by simp [upd_same, bk]) ?_ ?_ ?_ ?_ (by simp)
    · have e : upd (upd st.H id .dead) id (.box (setCells cs off vs)) = upd st.H id (.box (setCells cs off vs)) := by
        funext n
        by_cases hn : n = id
        · subst hn; simp [upd_same]
        · simp [upd_ne _ _ hn]
      rw [e] at hrev
      simpa [AS.apply, upds, hdst, Act.put] using hrev
    · exact ⟨B, hB, _, T, setRow_heap w B cur _ T _ hc, by
        have := setCells_rep vs _ cs _ off (All2.imp _ _ (fun s v _ h => SRep.mono (fun _ _ h => h) hkeep h) hrep) (All2.imp _ _ (fun s v _ h => SRep.mono (fun _ _ h => h) hkeep h) h5) h2
        simpa using this, himm⟩
    · intro j g hj hg e
      simp only [bk, hB, boxV, Value.ownBlock, Option.some.injEq] at e
      exact hapart j g (by simpa [upd_ne _ _ hj] using hg) e.symm
    · intro g hg
      exact hs.home id g (by rw [hH]; exact hg)
    · intro cs' hcs s hsm i hi
      simp only [Blk.box.injEq] at hcs
      subst hcs
      have hl : st.H i ≠ .none := by
        have mem : ∀ (vs cs : List SV) (k : Nat), s ∈ setCells cs k vs → s ∈ cs ∨ s ∈ vs := by
          intro vs
          induction vs with
          | nil => intro cs k h; exact .inl h
          | cons v vs ih =>
            intro cs k h
            rcases ih _ _ h with h | h
            · rcases List.mem_or_eq_of_mem_set h with h | h
              · exact .inl h
              · exact .inr (by simp [h])
            · exact .inr (List.mem_cons_of_mem _ h)
        rcases mem vs cs off hsm with h | h
        · exact hs.refH id cs hH s h i hi
        · exact (hs.eval y).2 i (h6 s h i hi)
      by_cases e : i = id
      · subst e; simp [upd_same]
      · simpa [upd_ne _ _ e] using hl
end
end Go.Pev
