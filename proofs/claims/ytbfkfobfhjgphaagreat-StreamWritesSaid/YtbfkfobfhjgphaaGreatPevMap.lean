/- Steps of a straight run by hand: what an operation yields; a call whose contract is known; a new entry of a map; a look into it. -/
import Derived.Test.YtbfkfobfhjgphaaGreatPevHand
import Derived.MapKept
set_option linter.unusedVariables false
namespace Go.Pev
open Go
theorem wl_val {P : Program} {ops : Array Oper} {rest : List Oper} {o : Oper} {a : Act} {w w' : World} {x : Value} {Q : Exit → Act → World → Prop} (hgd : o.guard = none) (hr : (execOp a.eval o).run P w = .ok (.value x) w') (h : wpList P ops Q rest (a.put o.dst x) w') : wpList P ops Q (o :: rest) a w :=
  wpList_plain hgd fun K hK => wp_value hr (hK _ _ h)
theorem wl_skip {P : Program} {ops : Array Oper} {rest : List Oper} {o : Oper} {a : Act} {w w' : World} {Q : Exit → Act → World → Prop} (hgd : o.guard = none) (hr : (execOp a.eval o).run P w = .ok .skip w') (h : wpList P ops Q rest (a.put o.dst undef) w') : wpList P ops Q (o :: rest) a w :=
  wpList_plain hgd fun K hK => wp_skip' hr (hK _ _ h)
theorem wl_call {P : Program} {ops : Array Oper} {rest : List Oper} {o : Oper} {a : Act} {w : World} {Q : Exit → Act → World → Prop} (hgd : o.guard = none) {f : FuncId} {args : Array Value} {R : Ending → World → Prop} (hr : (execOp a.eval o).run P w = (callFunc f args).run P w) (he : (callFunc f args).run P w = .ok (.enter f args) w)
    (hc : Calls P f args w R) (h : ∀ e w', R e w' → ∃ v, e = .returned v ∧ wpList P ops Q rest (a.put o.dst v) w') : wpList P ops Q (o :: rest) a w := by
  refine wpList_plain hgd fun K hK => ?_
  unfold Oper.wp
  rw [hr, he, Oper.upon_enter]
  refine hc.mono ?_
  intro e w' hR
  obtain ⟨v, rfl, h'⟩ := h e w' hR
  exact hK _ _ h'
/-- what a new entry leaves -/
structure Entered (w w' : World) (B : Nat) (es : Array MapEntry) (clock : Nat) : Prop where
  map : w'.heap[B]? = some (.map es clock)
  old : ∀ j, j ≠ B → w'.heap[j]? = w.heap[j]?
  size : w'.heap.size = w.heap.size
  os : w'.os = w.os
  tape : w'.tape = w.tape
  output : w'.output = w.output
theorem run_enter {P : Program} (w : World) (mt kt et : TypeId) (hm : P.underlying mt = some (.map kt et)) (hk : P.underlying kt = some (.int .i64)) (B : Nat) (es : Array MapEntry) (clock : Nat) (hB : w.heap[B]? = some (.map es clock)) (k : Int) (v : Value) (hno : Instr.findNow (.int .i64) (.int .i64 k) es.toList 0 = some none) :
    ∃ w', (Instr.mapUpdate mt (.map (some B)) (.int .i64 k) v).run P w = .ok () w' ∧ Entered w w' B (es.push { key := .int .i64 k, val := v, born := clock }) (clock + 1) := by
  have hlt := (Array.getElem?_eq_some_iff.1 hB).1
  have hkey : MapKept.IsKey (.int .i64) (.int .i64 k) := by first | trivial | rfl | simp [MapKept.IsKey]
  refine ⟨{ w with heap := w.heap.setIfInBounds B (.map (es.push { key := .int .i64 k, val := v, born := clock }) (clock + 1)) }, ?_, ⟨?_, ?_, ?_, rfl, rfl, rfl⟩⟩
  · simp [Instr.mapUpdate, run_underlying hm, MapKept.run_getObj_map hB, MapKept.run_checkKey hk hkey, MapKept.run_findKey hk hno, MapKept.run_setObj_map _ hB, Result.andThen]
  · simp [hlt]
  · intro j hj
    simp [Ne.symm hj]
  · simp
theorem run_found {P : Program} (w : World) (mt kt et : TypeId) (hm : P.underlying mt = some (.map kt et)) (hk : P.underlying kt = some (.int .i64)) (B : Nat) (es : Array MapEntry) (clock : Nat) (hB : w.heap[B]? = some (.map es clock)) (k : Int) (i : Nat) (v : Value) (hf : Instr.findNow (.int .i64) (.int .i64 k) es.toList 0 = some (some (i, v))) :
    (Instr.lookup mt (.map (some B)) (.int .i64 k) true).run P w = .ok (.tuple #[v, .bool true]) w := by
  have hkey : MapKept.IsKey (.int .i64) (.int .i64 k) := by first | trivial | rfl | simp [MapKept.IsKey]
  simp [Instr.lookup, run_underlying hm, MapKept.run_getObj_map hB, MapKept.run_checkKey hk hkey, MapKept.run_findKey hk hf, Result.andThen]
theorem run_missing {P : Program} (w : World) (mt kt et : TypeId) (hm : P.underlying mt = some (.map kt et)) (hk : P.underlying kt = some (.int .i64)) (B : Nat) (es : Array MapEntry) (clock : Nat) (hB : w.heap[B]? = some (.map es clock)) (k : Int) (z : Value) (hz : (zeroValue et).run P w = .ok z w) (hf : Instr.findNow (.int .i64) (.int .i64 k) es.toList 0 = some none) :
    (Instr.lookup mt (.map (some B)) (.int .i64 k) true).run P w = .ok (.tuple #[z, .bool false]) w := by
  have hkey : MapKept.IsKey (.int .i64) (.int .i64 k) := by first | trivial | rfl | simp [MapKept.IsKey]
  simp [Instr.lookup, run_underlying hm, MapKept.run_getObj_map hB, MapKept.run_checkKey hk hkey, MapKept.run_findKey hk hf, Result.andThen, hz]

/-! ### The rules -/
abbrev RuleS := Int × List Int × FuncId × Option Int
/-- what an entry of the rules is -/
def EntOK (T : TypeId) (w0 w : World) (B : Nat) (e : MapEntry) (s : RuleS) : Prop :=
  e.key = .int .i64 s.1 ∧ ∃ g fv, e.val = .agg #[.slice (some ⟨g, 0, none⟩) s.2.1.length s.2.1.length, fv] ∧ w0.heap.size ≤ g ∧ g ≠ B ∧ w.heap[g]? = some (.cells (s.2.1.map (Value.int .i64)).toArray T (0, 0)) ∧
    match s.2.2.2 with
    | some n => ∃ b, fv = .func (.func s.2.2.1) #[] #[.pointer (some ⟨b, 0, none⟩)] ∧ w0.heap.size ≤ b ∧ b ≠ B ∧ b ≠ g ∧ w.heap[b]? = some (.cells #[.int .i64 n] T (0, 0))
    | none => fv = .func (.func s.2.2.1) #[] #[]
structure RS (T : TypeId) (w0 w : World) (B : Nat) (es : Array MapEntry) (clock : Nat) (ss : List RuleS) : Prop where
  map : w.heap[B]? = some (.map es clock)
  ents : All2 (EntOK T w0 w B) es.toList ss
  old : ∀ j, j < w0.heap.size → w.heap[j]? = w0.heap[j]?
  size : w0.heap.size ≤ w.heap.size
  os : w.os = w0.os
  tape : w.tape = w0.tape
  output : w.output = w0.output
  base : w0.heap.size ≤ B
theorem EntOK.mono {T : TypeId} {w0 w w' : World} {B : Nat} (h : ∀ j, j ≠ B → j < w.heap.size → w'.heap[j]? = w.heap[j]?) {e : MapEntry} {s : RuleS} (he : EntOK T w0 w B e s) : EntOK T w0 w' B e s := by
  obtain ⟨h1, g, fv, h2, h3, h4, h5, h6⟩ := he
  refine ⟨h1, g, fv, h2, h3, h4, by rw [h g h4 (Array.getElem?_eq_some_iff.1 h5).1]; exact h5, ?_⟩
  split at h6
  · obtain ⟨b, k1, k2, k3, k4, k5⟩ := h6
    exact ⟨b, k1, k2, k3, k4, by rw [h b k3 (Array.getElem?_eq_some_iff.1 k5).1]; exact k5⟩
  · exact h6
theorem RS.alloc {T : TypeId} {w0 w : World} {B : Nat} {es : Array MapEntry} {clock : Nat} {ss : List RuleS} (h : RS T w0 w B es clock ss) (o : Obj) : RS T w0 (w.alloc o) B es clock ss where
  map := by rw [heap_alloc w o B (Array.getElem?_eq_some_iff.1 h.map).1]; exact h.map
  ents := All2.imp _ _ (fun e s _ he => EntOK.mono (fun j _ hj => heap_alloc w o j hj) he) h.ents
  old := fun j hj => by rw [heap_alloc w o j (Nat.lt_of_lt_of_le hj h.size)]; exact h.old j hj
  size := by have := h.size; simp; omega
  os := h.os
  tape := h.tape
  output := h.output
  base := h.base
theorem RS.enter {T : TypeId} {w0 w w' : World} {B : Nat} {es : Array MapEntry} {clock : Nat} {ss : List RuleS} (h : RS T w0 w B es clock ss) {e : MapEntry} {c' : Nat} (hE : Entered w w' B (es.push e) c') {s : RuleS} (he : EntOK T w0 w B e s) : RS T w0 w' B (es.push e) c' (ss ++ [s]) where
  map := hE.map
  ents := by
    rw [Array.toList_push]
    exact All2.append _ _ _ _ (All2.imp _ _ (fun e s _ he => EntOK.mono (fun j hj _ => hE.old j hj) he) h.ents) ⟨EntOK.mono (fun j hj _ => hE.old j hj) he, trivial⟩
  old := fun j hj => by rw [hE.old j (by have := h.base; omega)]; exact h.old j hj
  size := by rw [hE.size]; exact h.size
  os := hE.os.trans h.os
  tape := hE.tape.trans h.tape
  output := hE.output.trans h.output
  base := h.base
/-- which entry a key names -/
theorem find_rules {T : TypeId} {w0 w : World} {B : Nat} (k : Int) : ∀ (l : List MapEntry) (ss : List RuleS) (i : Nat), All2 (EntOK T w0 w B) l ss →
    (∀ s ∈ ss, s.1 ≠ k) ∧ Instr.findNow (.int .i64) (.int .i64 k) l i = some none ∨ ∃ (j : Nat) (e : MapEntry) (s : RuleS), s ∈ ss ∧ s.1 = k ∧ EntOK T w0 w B e s ∧ Instr.findNow (.int .i64) (.int .i64 k) l i = some (some (j, e.val))
  | [], [], i, _ => .inl ⟨by simp, rfl⟩
  | e :: l, s :: ss, i, ⟨h1, h2⟩ => by
    have hk := h1.1
    by_cases he : s.1 = k
    · refine .inr ⟨i, e, s, by simp, he, h1, ?_⟩
      simp [Instr.findNow, Instr.sameNow, hk, he]
    · have hne : (k == s.1) = false := by simpa using fun h => he h.symm
      rcases find_rules k l ss (i + 1) h2 with ⟨h3, h4⟩ | ⟨j, e', s', h3, h4, h5, h6⟩
      · refine .inl ⟨?_, ?_⟩
        · intro x hx
          rcases List.mem_cons.1 hx with rfl | hx
          · exact he
          · exact h3 x hx
        · simp [Instr.findNow, Instr.sameNow, hk, hne, h4]
      · refine .inr ⟨j, e', s', by simp [h3], h4, h5, ?_⟩
        simp [Instr.findNow, Instr.sameNow, hk, hne, h6]
/-- One rule: its states, its function, the entry. -/
theorem wl_rule {P : Program} {T : TypeId} {ops : Array Oper} {rest : List Oper} {o1 o2 o3 o4 : Oper} {a : Act} {w : World} {Q : Exit → Act → World → Prop} {w0 : World} {B : Nat} {es : Array MapEntry} {clock : Nat} {ss : List RuleS} (hR : RS T w0 w B es clock ss)
    (g1 : o1.guard = none) (g2 : o2.guard = none) (g3 : o3.guard = none) (g4 : o4.guard = none) {mt kt rt : TypeId} (hm : P.underlying mt = some (.map kt rt)) (hkt : P.underlying kt = some (.int .i64)) (xs : List Int) (f c : FuncId) (m k : Int)
    (h1 : ∀ w, (execOp a.eval o1).run P w = .ok (.value (.slice (some ⟨w.heap.size, 0, none⟩) xs.length xs.length)) (w.alloc (.cells (xs.map (Value.int .i64)).toArray T)))
    (h2 : ∀ v1 w, (execOp (a.put o1.dst v1).eval o2).run P w = (callFunc f #[.int .i64 m]).run P w) (h2' : ∀ w, (callFunc f #[.int .i64 m]).run P w = .ok (.enter f #[.int .i64 m]) w)
    (hc : ∀ w, Calls P f #[.int .i64 m] w fun e w' => e = .returned (.func (.func c) #[] #[.pointer (some ⟨w.heap.size, 0, none⟩)]) ∧ w' = w.alloc (.cells #[.int .i64 m] T))
    (h3 : ∀ (g n b : Nat) w, (execOp ((a.put o1.dst (.slice (some ⟨g, 0, none⟩) n n)).put o2.dst (.func (.func c) #[] #[.pointer (some ⟨b, 0, none⟩)])).eval o3).run P w = .ok (.value (.agg #[.slice (some ⟨g, 0, none⟩) n n, .func (.func c) #[] #[.pointer (some ⟨b, 0, none⟩)]])) w)
    (h4 : ∀ v1 v2, execOp (((a.put o1.dst v1).put o2.dst v2).put o3.dst (.agg #[v1, v2])).eval o4 = (do Instr.mapUpdate mt (.map (some B)) (.int .i64 k) (.agg #[v1, v2]); pure .skip))
    (hfree : ∀ s ∈ ss, s.1 ≠ k)
    (h : ∀ v1 v2 w' es', RS T w0 w' B es' (clock + 1) (ss ++ [(k, xs, c, some m)]) → wpList P ops Q rest ((((a.put o1.dst v1).put o2.dst v2).put o3.dst (.agg #[v1, v2])).put o4.dst undef) w') :
    wpList P ops Q (o1 :: o2 :: o3 :: o4 :: rest) a w := by
  have hBlt := (Array.getElem?_eq_some_iff.1 hR.map).1
  refine wl_val g1 (h1 w) ?_
  have hR1 := hR.alloc (.cells (xs.map (Value.int .i64)).toArray T)
  have f1 := heap_alloc_new w (.cells (xs.map (Value.int .i64)).toArray T)
  have s1 : (w.alloc (.cells (xs.map (Value.int .i64)).toArray T)).heap.size = w.heap.size + 1 := by simp
  generalize w.alloc (.cells (xs.map (Value.int .i64)).toArray T) = w1 at *
  refine wl_call g2 (h2 _ w1) (h2' w1) (hc w1) ?_
  rintro e w' ⟨rfl, rfl⟩
  refine ⟨_, rfl, ?_⟩
  have hR2 := hR1.alloc (.cells #[.int .i64 m] T)
  have f2 := heap_alloc_new w1 (.cells #[.int .i64 m] T)
  have f3 : (w1.alloc (.cells #[.int .i64 m] T)).heap[w.heap.size]? = some (.cells (xs.map (Value.int .i64)).toArray T (0, 0)) := by rw [heap_alloc w1 _ _ (by omega)]; exact f1
  generalize w1.alloc (.cells #[.int .i64 m] T) = w2 at *
  refine wl_val g3 (h3 _ _ _ w2) ?_
  rcases find_rules (w := w2) (B := B) k es.toList ss 0 hR2.ents with ⟨_, hno⟩ | ⟨j, e, s, hs1, hs2, _⟩
  · obtain ⟨w3, hr, hE⟩ := run_enter w2 mt kt rt hm hkt B es clock hR2.map k (.agg #[.slice (some ⟨w.heap.size, 0, none⟩) xs.length xs.length, .func (.func c) #[] #[.pointer (some ⟨w1.heap.size, 0, none⟩)]]) hno
    refine wl_skip g4 (w' := w3) (by rw [h4]; simp only [Sem.run_bind, hr, Result.andThen_ok, Sem.run_pure]) ?_
    refine h _ _ w3 _ (hR2.enter hE ⟨rfl, w.heap.size, _, rfl, hR.size, by omega, f3, w1.heap.size, rfl, by have := hR.size; omega, by omega, by omega, f2⟩)
  · exact absurd hs2 (hfree s hs1)
/-- One rule whose function is no closure. -/
theorem wl_rule0 {P : Program} {T : TypeId} {ops : Array Oper} {rest : List Oper} {o1 o3 o4 : Oper} {a : Act} {w : World} {Q : Exit → Act → World → Prop} {w0 : World} {B : Nat} {es : Array MapEntry} {clock : Nat} {ss : List RuleS} (hR : RS T w0 w B es clock ss)
    (g1 : o1.guard = none) (g3 : o3.guard = none) (g4 : o4.guard = none) {mt kt rt : TypeId} (hm : P.underlying mt = some (.map kt rt)) (hkt : P.underlying kt = some (.int .i64)) (xs : List Int) (c : FuncId) (k : Int)
    (h1 : ∀ w, (execOp a.eval o1).run P w = .ok (.value (.slice (some ⟨w.heap.size, 0, none⟩) xs.length xs.length)) (w.alloc (.cells (xs.map (Value.int .i64)).toArray T)))
    (h3 : ∀ (g n : Nat) w, (execOp (a.put o1.dst (.slice (some ⟨g, 0, none⟩) n n)).eval o3).run P w = .ok (.value (.agg #[.slice (some ⟨g, 0, none⟩) n n, .func (.func c) #[] #[]])) w)
    (h4 : ∀ v1 v2, execOp ((a.put o1.dst v1).put o3.dst (.agg #[v1, v2])).eval o4 = (do Instr.mapUpdate mt (.map (some B)) (.int .i64 k) (.agg #[v1, v2]); pure .skip))
    (hfree : ∀ s ∈ ss, s.1 ≠ k)
    (h : ∀ v1 v2 w' es', RS T w0 w' B es' (clock + 1) (ss ++ [(k, xs, c, none)]) → wpList P ops Q rest (((a.put o1.dst v1).put o3.dst (.agg #[v1, v2])).put o4.dst undef) w') :
    wpList P ops Q (o1 :: o3 :: o4 :: rest) a w := by
  have hBlt := (Array.getElem?_eq_some_iff.1 hR.map).1
  refine wl_val g1 (h1 w) ?_
  have hR2 := hR.alloc (.cells (xs.map (Value.int .i64)).toArray T)
  have f3 := heap_alloc_new w (.cells (xs.map (Value.int .i64)).toArray T)
  generalize w.alloc (.cells (xs.map (Value.int .i64)).toArray T) = w2 at *
  refine wl_val g3 (h3 _ _ w2) ?_
  rcases find_rules (w := w2) (B := B) k es.toList ss 0 hR2.ents with ⟨_, hno⟩ | ⟨j, e, s, hs1, hs2, _⟩
  · obtain ⟨w3, hr, hE⟩ := run_enter w2 mt kt rt hm hkt B es clock hR2.map k (.agg #[.slice (some ⟨w.heap.size, 0, none⟩) xs.length xs.length, .func (.func c) #[] #[]]) hno
    refine wl_skip g4 (w' := w3) (by rw [h4]; simp only [Sem.run_bind, hr, Result.andThen_ok, Sem.run_pure]) ?_
    exact h _ _ w3 _ (hR2.enter hE ⟨rfl, w.heap.size, _, rfl, hR.size, by omega, f3, rfl⟩)
  · exact absurd hs2 (hfree s hs1)
/-! ### The same over any act -/
structure AOK (n : Nat) (a : Act) (B : Nat) : Prop where
  m : a.tmps.getD 1 undef = .map (some B)
  size : a.tmps.size = n
  defers : a.defers = []
theorem AOK.put {n : Nat} {a : Act} {B : Nat} (h : AOK n a B) {d : Nat} (hd : d < n) (h1 : d ≠ 1) (v : Value) : AOK n (a.put (some d) v) B where
  m := by rw [getD_put a d 1 v (by rw [h.size]; exact hd), if_neg (Ne.symm h1)]; exact h.m
  size := by simp [Act.put, h.size]
  defers := h.defers
theorem eval_put {n : Nat} {a : Act} {B : Nat} (h : AOK n a B) {d : Nat} (hd : d < n) (v : Value) (t : Nat) : (a.put (some d) v).eval (.tmp t) = if t = d then v else a.eval (.tmp t) := by
  simp only [Act.eval]
  exact getD_put a d t v (by rw [h.size]; exact hd)
theorem wl_rule' {P : Program} {T : TypeId} {ops : Array Oper} {rest : List Oper} {o1 o2 o3 o4 : Oper} {a : Act} {w : World} {Q : Exit → Act → World → Prop} {w0 : World} {B n : Nat} {es : Array MapEntry} {clock : Nat} {ss : List RuleS} (hR : RS T w0 w B es clock ss) (hA : AOK n a B)
    (g1 : o1.guard = none) (g2 : o2.guard = none) (g3 : o3.guard = none) (g4 : o4.guard = none) {mt kt rt : TypeId} (hm : P.underlying mt = some (.map kt rt)) (hkt : P.underlying kt = some (.int .i64)) (xs : List Int) (f c : FuncId) (m k : Int) (d1 d2 d3 : Nat)
    (e1 : o1.dst = some d1) (e2 : o2.dst = some d2) (e3 : o3.dst = some d3) (e4 : o4.dst = none) (hd : d1 < n ∧ d2 < n ∧ d3 < n ∧ d1 ≠ 1 ∧ d2 ≠ 1 ∧ d3 ≠ 1 ∧ d1 ≠ d2)
    (h1 : ∀ (a : Act) w, (execOp a.eval o1).run P w = .ok (.value (.slice (some ⟨w.heap.size, 0, none⟩) xs.length xs.length)) (w.alloc (.cells (xs.map (Value.int .i64)).toArray T)))
    (h2 : ∀ (a : Act) w, (execOp a.eval o2).run P w = (callFunc f #[.int .i64 m]).run P w) (h2' : ∀ w, (callFunc f #[.int .i64 m]).run P w = .ok (.enter f #[.int .i64 m]) w)
    (hc : ∀ w, Calls P f #[.int .i64 m] w fun e w' => e = .returned (.func (.func c) #[] #[.pointer (some ⟨w.heap.size, 0, none⟩)]) ∧ w' = w.alloc (.cells #[.int .i64 m] T))
    (h3 : ∀ ρ : Operand → Value, execOp ρ o3 = (do pure (.value (← Instr.build rt #[(0, ρ (.tmp d1)), (1, ρ (.tmp d2))]))))
    (hb : ∀ (g n b : Nat) w, (Instr.build rt #[(0, .slice (some ⟨g, 0, none⟩) n n), (1, .func (.func c) #[] #[.pointer (some ⟨b, 0, none⟩)])]).run P w = .ok (.agg #[.slice (some ⟨g, 0, none⟩) n n, .func (.func c) #[] #[.pointer (some ⟨b, 0, none⟩)]]) w)
    (h4 : ∀ a : Act, execOp a.eval o4 = (do Instr.mapUpdate mt (a.eval (.tmp 1)) (.int .i64 k) (a.eval (.tmp d3)); pure .skip))
    (hfree : ∀ s ∈ ss, s.1 ≠ k)
    (h : ∀ a' w' es', RS T w0 w' B es' (clock + 1) (ss ++ [(k, xs, c, some m)]) → AOK n a' B → wpList P ops Q rest a' w') :
    wpList P ops Q (o1 :: o2 :: o3 :: o4 :: rest) a w := by
  obtain ⟨q1, q2, q3, q4, q5, q6, q7⟩ := hd
  have hBlt := (Array.getElem?_eq_some_iff.1 hR.map).1
  refine wl_val g1 (h1 a w) ?_
  have hR1 := hR.alloc (.cells (xs.map (Value.int .i64)).toArray T)
  have f1 := heap_alloc_new w (.cells (xs.map (Value.int .i64)).toArray T)
  have s1 : (w.alloc (.cells (xs.map (Value.int .i64)).toArray T)).heap.size = w.heap.size + 1 := by simp
  generalize w.alloc (.cells (xs.map (Value.int .i64)).toArray T) = w1 at *
  refine wl_call g2 (h2 _ w1) (h2' w1) (hc w1) ?_
  rintro e w' ⟨rfl, rfl⟩
  refine ⟨_, rfl, ?_⟩
  have hR2 := hR1.alloc (.cells #[.int .i64 m] T)
  have f2 := heap_alloc_new w1 (.cells #[.int .i64 m] T)
  have f3 : (w1.alloc (.cells #[.int .i64 m] T)).heap[w.heap.size]? = some (.cells (xs.map (Value.int .i64)).toArray T (0, 0)) := by rw [heap_alloc w1 _ _ (by omega)]; exact f1
  generalize w1.alloc (.cells #[.int .i64 m] T) = w2 at *
  rw [e1, e2]
  have A1 := hA.put q1 q4 (.slice (some ⟨w.heap.size, 0, none⟩) xs.length xs.length)
  have A2 := A1.put q2 q5 (.func (.func c) #[] #[.pointer (some ⟨w1.heap.size, 0, none⟩)])
  refine wl_val g3 (x := .agg #[.slice (some ⟨w.heap.size, 0, none⟩) xs.length xs.length, .func (.func c) #[] #[.pointer (some ⟨w1.heap.size, 0, none⟩)]]) (w' := w2) (by
    rw [h3, eval_put A1 q2, if_neg q7, eval_put hA q1, if_pos rfl, eval_put A1 q2, if_pos rfl]
    simp only [Sem.run_bind, hb, Result.andThen_ok, Sem.run_pure]) ?_
  rw [e3]
  have A3 := A2.put q3 q6 (.agg #[.slice (some ⟨w.heap.size, 0, none⟩) xs.length xs.length, .func (.func c) #[] #[.pointer (some ⟨w1.heap.size, 0, none⟩)]])
  rcases find_rules (w := w2) (B := B) k es.toList ss 0 hR2.ents with ⟨_, hno⟩ | ⟨j, e, s, hs1, hs2, _⟩
  · obtain ⟨w3, hr, hE⟩ := run_enter w2 mt kt rt hm hkt B es clock hR2.map k (.agg #[.slice (some ⟨w.heap.size, 0, none⟩) xs.length xs.length, .func (.func c) #[] #[.pointer (some ⟨w1.heap.size, 0, none⟩)]]) hno
    refine wl_skip g4 (w' := w3) (by
      have m1 := A3.m
      have m3 := eval_put A2 q3 (.agg #[.slice (some ⟨w.heap.size, 0, none⟩) xs.length xs.length, .func (.func c) #[] #[.pointer (some ⟨w1.heap.size, 0, none⟩)]]) d3
      rw [if_pos rfl] at m3
      rw [h4, m3]
      rw [show Act.eval _ (.tmp 1) = _ from m1]
      simp only [Sem.run_bind, hr, Result.andThen_ok, Sem.run_pure]) ?_
    rw [e4]
    exact h _ w3 _ (hR2.enter hE ⟨rfl, w.heap.size, _, rfl, hR.size, by omega, f3, w1.heap.size, rfl, by have := hR.size; omega, by omega, by omega, f2⟩) A3
  · exact absurd hs2 (hfree s hs1)
theorem wl_rule0' {P : Program} {T : TypeId} {ops : Array Oper} {rest : List Oper} {o1 o3 o4 : Oper} {a : Act} {w : World} {Q : Exit → Act → World → Prop} {w0 : World} {B n : Nat} {es : Array MapEntry} {clock : Nat} {ss : List RuleS} (hR : RS T w0 w B es clock ss) (hA : AOK n a B)
    (g1 : o1.guard = none) (g3 : o3.guard = none) (g4 : o4.guard = none) {mt kt rt : TypeId} (hm : P.underlying mt = some (.map kt rt)) (hkt : P.underlying kt = some (.int .i64)) (xs : List Int) (c : FuncId) (k : Int) (d1 d3 : Nat)
    (e1 : o1.dst = some d1) (e3 : o3.dst = some d3) (e4 : o4.dst = none) (hd : d1 < n ∧ d3 < n ∧ d1 ≠ 1 ∧ d3 ≠ 1)
    (h1 : ∀ (a : Act) w, (execOp a.eval o1).run P w = .ok (.value (.slice (some ⟨w.heap.size, 0, none⟩) xs.length xs.length)) (w.alloc (.cells (xs.map (Value.int .i64)).toArray T)))
    (h3 : ∀ a : Act, execOp a.eval o3 = (do pure (.value (← Instr.build rt #[(0, a.eval (.tmp d1)), (1, .func (.func c) #[] #[])]))))
    (hb : ∀ (g n : Nat) w, (Instr.build rt #[(0, .slice (some ⟨g, 0, none⟩) n n), (1, .func (.func c) #[] #[])]).run P w = .ok (.agg #[.slice (some ⟨g, 0, none⟩) n n, .func (.func c) #[] #[]]) w)
    (h4 : ∀ a : Act, execOp a.eval o4 = (do Instr.mapUpdate mt (a.eval (.tmp 1)) (.int .i64 k) (a.eval (.tmp d3)); pure .skip))
    (hfree : ∀ s ∈ ss, s.1 ≠ k)
    (h : ∀ a' w' es', RS T w0 w' B es' (clock + 1) (ss ++ [(k, xs, c, none)]) → AOK n a' B → wpList P ops Q rest a' w') :
    wpList P ops Q (o1 :: o3 :: o4 :: rest) a w := by
  obtain ⟨q1, q3, q4, q6⟩ := hd
  have hBlt := (Array.getElem?_eq_some_iff.1 hR.map).1
  refine wl_val g1 (h1 a w) ?_
  have hR2 := hR.alloc (.cells (xs.map (Value.int .i64)).toArray T)
  have f3 := heap_alloc_new w (.cells (xs.map (Value.int .i64)).toArray T)
  generalize w.alloc (.cells (xs.map (Value.int .i64)).toArray T) = w2 at *
  rw [e1]
  have A2 := hA.put q1 q4 (.slice (some ⟨w.heap.size, 0, none⟩) xs.length xs.length)
  refine wl_val g3 (x := .agg #[.slice (some ⟨w.heap.size, 0, none⟩) xs.length xs.length, .func (.func c) #[] #[]]) (w' := w2) (by
    rw [h3, eval_put hA q1, if_pos rfl]
    simp only [Sem.run_bind, hb, Result.andThen_ok, Sem.run_pure]) ?_
  rw [e3]
  have A3 := A2.put q3 q6 (.agg #[.slice (some ⟨w.heap.size, 0, none⟩) xs.length xs.length, .func (.func c) #[] #[]])
  rcases find_rules (w := w2) (B := B) k es.toList ss 0 hR2.ents with ⟨_, hno⟩ | ⟨j, e, s, hs1, hs2, _⟩
  · obtain ⟨w3, hr, hE⟩ := run_enter w2 mt kt rt hm hkt B es clock hR2.map k (.agg #[.slice (some ⟨w.heap.size, 0, none⟩) xs.length xs.length, .func (.func c) #[] #[]]) hno
    refine wl_skip g4 (w' := w3) (by
      have m1 := A3.m
      have m3 := eval_put A2 q3 (.agg #[.slice (some ⟨w.heap.size, 0, none⟩) xs.length xs.length, .func (.func c) #[] #[]]) d3
      rw [if_pos rfl] at m3
      rw [h4, m3]
      rw [show Act.eval _ (.tmp 1) = _ from m1]
      simp only [Sem.run_bind, hr, Result.andThen_ok, Sem.run_pure]) ?_
    rw [e4]
    exact h _ w3 _ (hR2.enter hE ⟨rfl, w.heap.size, _, rfl, hR.size, by omega, f3, rfl⟩) A3
  · exact absurd hs2 (hfree s hs1)
end Go.Pev
