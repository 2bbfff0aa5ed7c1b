/- The contract of the function that pads a block: its row grows, where it stands or anew. -/
import Derived.Test.YtbfkfobfhjgphaaGreatFnTab
import Derived.Test.YtbfkfobfhjgphaaGreatPevHand
import Derived.Lib.Walk
import Derived.Lib.SliceRun
import Derived.Deep.LoopGhost
import Derived.WalkKit
set_option linter.unusedVariables false
set_option linter.unusedSimpArgs false
namespace Go.Proofs.YtbfkfobfhjgphaaGreat.Fn
open Go Go.Pev Go.Proofs Go.RowKit Go.Lib

theorem wpList_own_zeros {P : Program} {ops : Array Oper} {rest : List Oper} {o : Oper} {a : Act} {w : World} {Q : Exit → Act → World → Prop} (hgd : o.guard = none) (s x : Operand) (t tn : TypeId)
    (ho : o.op = .call { callee := .builtin .append, args := #[s, x], argTypes := #[t, tn] })
    (base : Nat) (e : TypeId) (i : TypeInfo) (q kn : IntKind) (ht : P.underlying t = some (.slice e)) (htn : P.underlying tn = some (.int kn)) (hi : P.info? e = some i) (hz : i.zero = some (.int q 0)) (h1 : i.size = 1) (h4 : i.bytes = 4)
    (v : Value) (n : Nat) (cs : List Value) (hs : a.eval s = v) (hown : w.ownsRow base e 1 v n cs) (hone : ∀ u ∈ cs, u.oneCell' = true) (k : Nat) (hx : a.eval x = .int .i64 (k : Int)) (hb : (n + k) * 4 ≤ 140737488355328) (hbase : base ≤ w.heap.size)
    (h : ∀ V w', w'.ownsRow base e 1 V (n + k) (cs ++ List.replicate k (.int q 0)) → OwnGrown w w' v V → wpList P ops Q rest (a.put o.dst V) w') :
    wpList P ops Q (o :: rest) a w := by
  refine wpList_plain hgd fun K hK => ?_
  obtain ⟨V, w', hr, h2, h3⟩ := run_own_zeros (P := P) w base t tn o.type e i q kn ht htn hi hz h1 h4 v n cs hown hone k hb hbase
  unfold Oper.wp execOp
  simp only [ho, resolve, invoke, builtin, Sem.run_bind, Sem.run_pure, Result.andThen_ok, List.map_toArray, List.map_cons, List.map_nil, hs, hx, hr]
  exact hK _ _ (h V w' h2 h3)

theorem wpList_store_run {P : Program} {ops : Array Oper} {rest : List Oper} {o : Oper} {a : Act} {w w' : World} {Q : Exit → Act → World → Prop} (hgd : o.guard = none) (t : TypeId) (x y : Operand) (ho : o.op = .store t x y) (ad : Addr) (hx : a.eval x = .pointer (some ad)) (v : Value) (hy : a.eval y = v)
    (size : Nat) (hs1 : (sizeOf t).run P w = .ok size w) (hs2 : v.cells.size = size) (hst : (storeCells ad v.cells.toList).run P w = .ok () w') (h : wpList P ops Q rest (a.put o.dst undef) w') : wpList P ops Q (o :: rest) a w := by
  refine wpList_plain hgd fun K hK => ?_
  refine wp_skip' (w' := w') ?_ (hK _ _ h)
  simp only [execOp, ho, Instr.storeAt, hx, hy, Instr.sureAddr, storeVar, Sem.run_bind, Sem.run_pure, Result.andThen_ok, hs1]
  rw [if_neg (by rw [hs2]; simp), hst]
  rfl
theorem wpList_load_run {P : Program} {ops : Array Oper} {rest : List Oper} {o : Oper} {a : Act} {w : World} {Q : Exit → Act → World → Prop} (hgd : o.guard = none) (t : TypeId) (x : Operand) (ho : o.op = .load t x) (ad : Addr) (hx : a.eval x = .pointer (some ad))
    (size : Nat) (hag : (isAgg t).run P w = .ok true w) (hs1 : (sizeOf t).run P w = .ok size w) (cs : Array Value) (hl : (loadCells ad size).run P w = .ok cs w) (h : wpList P ops Q rest (a.put o.dst (.agg cs)) w) : wpList P ops Q (o :: rest) a w := by
  refine wpList_plain hgd fun K hK => ?_
  refine wp_value (x := .agg cs) (w' := w) ?_ (hK _ _ h)
  simp only [execOp, ho, Instr.loadAt, hx, Instr.sureAddr, loadVar, Sem.run_bind, Sem.run_pure, Result.andThen_ok, hag, if_true, hs1, hl]

theorem infoEl : Tryz.prog.info? 21 = some Tryz.t21 := by kernel_rfl
theorem zeroEl : Tryz.t21.zero = some (.int .i32 0) := by kernel_rfl
theorem sizeEl : Tryz.t21.size = 1 := by kernel_rfl
theorem bytesEl : Tryz.t21.bytes = 4 := by kernel_rfl

set_option maxHeartbeats 2000000 in
set_option maxRecDepth 100000 in
theorem pad_calls (w : World) (base : Nat) (c n : Int) (ad : Option Addr) (cap : Nat) (len k : Nat) (cs : List Value) (hbase : base ≤ w.heap.size) (hown : w.ownsRow base padEl 1 (.slice ad len cap) len cs) (hone : ∀ u ∈ cs, u.oneCell' = true) (hk : padCount c n len = (k : Int)) (hb : (len + k) * 4 ≤ 140737488355328) :
    Calls Tryz.prog 106 #[.agg #[.int .i64 c, .slice ad len cap], .int .i64 n] w fun e w' => ∃ V, e = .returned (.agg #[.int .i64 c, V]) ∧ w'.ownsRow base padEl 1 V (len + k) (cs ++ List.replicate k (.int .i32 0)) ∧ OwnGrown w w' (.slice ad len cap) V := by
  have A : Aside (w.ownsRow base padEl 1 (.slice ad len cap) len cs) := hown
  have B : Aside (padCount c n len = (k : Int)) := hk
  clear hown hk
  go_enter Tryz.func106, Tryz.ntmps106
  go_wp2_with (at_builtin; refine wpList_own_zeros rfl _ _ _ _ rfl base padEl Tryz.t21 .i32 .i64 (by kernel_rfl) (by kernel_rfl) infoEl zeroEl sizeEl bytesEl _ len cs rfl ?own hone k ?hx hb ?hbase ?_)
  case hx => rw [← B.out]; exact congrArg (Value.int .i64) (by unfold padCount; rw [IntWalk.i64_left, IntWalk.i64_left])
  case own =>
    show World.ownsRow _ base padEl 1 (Value.slice ad len cap) len cs
    refine (A.out.kept (row := none) (w' := (w.alloc _).alloc _) ⟨rfl, rfl, rfl, by simp; omega, fun j hj _ => ?_⟩ ?_)
    · rw [Below.heap_alloc _ _ _ (by simp; omega), Below.heap_alloc _ _ _ hj]
    · cases ad with
      | none => exact .inl rfl
      | some x => exact .inr (by simp [Value.ownBlock])
  case hbase => simp; omega
  intro V w2 hown hog
  have hlt : ∀ g, (Value.slice ad len cap).ownBlock = some g → g < w.heap.size := fun g hg => (A.out.lt g hg).2
  have f1 : w2.heap[w.heap.size]? = some (.cells #[.int .i64 c, .slice ad len cap] 44 (0, 0)) := by
    rw [hog.by_.block w.heap.size (by simp; omega) (fun e => by have := hlt _ e.symm; omega), Below.heap_alloc _ _ _ (by simp)]
    exact heap_alloc_new w _
  have f2 : w2.heap[w.heap.size + 1]? = some (.cells #[.int .i64 0, .slice none 0 0] 44 (0, 0)) := by
    rw [hog.by_.block (w.heap.size + 1) (by simp) (fun e => by have := hlt _ e.symm; omega)]
    have := heap_alloc_new (w.alloc (.cells #[Value.int IntKind.i64 c, Value.slice ad len cap] 44)) (.cells #[Value.int IntKind.i64 0, Value.slice none 0 0] 44)
    simpa using this
  have hsz : w.heap.size + 2 ≤ w2.heap.size := by have := hog.by_.size; simp at this; omega
  obtain ⟨a', l', cap', rfl⟩ : ∃ a' l' cap', V = .slice a' l' cap' := by
    rcases hown.2 with ⟨e, _⟩ | ⟨g, cp, cur, e, _⟩
    · exact ⟨_, _, _, e⟩
    · exact ⟨_, _, _, e⟩
  have hn0 : ∀ g, (Value.slice a' l' cap').ownBlock = some g → g ≠ w.heap.size ∧ g ≠ w.heap.size + 1 := by
    intro g hg
    rcases hog.blk g hg with h | h
    · have := hlt g h; omega
    · simp at h; omega
  obtain ⟨w3, hw3⟩ : ∃ w3, w3 = w2.setRow w.heap.size #[.int .i64 c, .slice a' l' cap'] := ⟨_, rfl⟩
  obtain ⟨w4, hw4⟩ : ∃ w4, w4 = w3.setRow (w.heap.size + 1) #[.int .i64 c, .slice a' l' cap'] := ⟨_, rfl⟩
  have q1 : (storeCells ⟨w.heap.size, 1, none⟩ [.slice a' l' cap']).run Tryz.prog w2 = .ok () w3 := by
    have := run_storeCells_at Tryz.prog w.heap.size 1 44 [.slice a' l' cap'] 0 _ w2 f1 (by simp) (by simp [Value.oneCell'])
    rw [hw3]
    simpa using this
  have f3 : w3.heap[w.heap.size]? = some (.cells #[.int .i64 c, .slice a' l' cap'] 44 (0, 0)) := by rw [hw3]; exact setRow_heap w2 _ _ _ 44 _ f1
  have f4 : w3.heap[w.heap.size + 1]? = some (.cells #[.int .i64 0, .slice none 0 0] 44 (0, 0)) := by rw [hw3, heap_setRow_ne _ _ _ _ (by omega)]; exact f2
  have f5 : w4.heap[w.heap.size + 1]? = some (.cells #[.int .i64 c, .slice a' l' cap'] 44 (0, 0)) := by rw [hw4]; exact setRow_heap w3 _ _ _ 44 _ f4
  have c1 : ∀ j u, ([.int .i64 c, .slice a' l' cap'] : List Value)[j]? = some u → w3.cell? ((⟨w.heap.size, 0, none⟩ : Addr).add j) = some u := by
    intro j u hj
    rw [add_blk]
    simp only [World.cell?, f3]
    simpa using hj
  have c2 : ∀ j u, ([.int .i64 c, .slice a' l' cap'] : List Value)[j]? = some u → w4.cell? ((⟨w.heap.size + 1, 0, none⟩ : Addr).add j) = some u := by
    intro j u hj
    rw [add_blk]
    simp only [World.cell?, f5]
    simpa using hj
  have q2 : (loadCells ⟨w.heap.size, 0, none⟩ 2).run Tryz.prog w3 = .ok #[.int .i64 c, .slice a' l' cap'] w3 := by simpa using run_loadCells_list (P := Tryz.prog) w3 ⟨w.heap.size, 0, none⟩ _ c1
  have q4 : (loadCells ⟨w.heap.size + 1, 0, none⟩ 2).run Tryz.prog w4 = .ok #[.int .i64 c, .slice a' l' cap'] w4 := by simpa using run_loadCells_list (P := Tryz.prog) w4 ⟨w.heap.size + 1, 0, none⟩ _ c2
  have q3 : (storeCells ⟨w.heap.size + 1, 0, none⟩ [.int .i64 c, .slice a' l' cap']).run Tryz.prog w3 = .ok () w4 := by
    have := run_storeCells_at Tryz.prog (w.heap.size + 1) 0 44 [.int .i64 c, .slice a' l' cap'] 0 _ w3 f4 (by simp) (by simp [Value.oneCell'])
    rw [hw4]
    simpa using this
  have hold : ∀ j, j ≠ w.heap.size → j ≠ w.heap.size + 1 → w4.heap[j]? = w2.heap[j]? := by
    intro j h1 h2
    rw [hw4, heap_setRow_ne _ _ _ _ h2, hw3, heap_setRow_ne _ _ _ _ h1]
  have hs4 : w4.heap.size = w2.heap.size := by rw [hw4, hw3]; simp [World.setRow]
  have hos : w4.os = w2.os ∧ w4.tape = w2.tape ∧ w4.output = w2.output := by rw [hw4, hw3]; exact ⟨rfl, rfl, rfl⟩
  have hfin : ∃ V, Ending.returned (.agg #[.int .i64 c, .slice a' l' cap']) = .returned (.agg #[.int .i64 c, V]) ∧ w4.ownsRow base padEl 1 V (len + k) (cs ++ List.replicate k (.int .i32 0)) ∧ OwnGrown w w4 (.slice ad len cap) V := by
    refine ⟨_, rfl, ⟨hown.1, ?_⟩, ⟨⟨?_, ?_, ?_, ?_, ?_⟩, hog.one, ?_, ?_⟩⟩
    · rcases hown.2 with h | ⟨g, cp, cur, e, h1, h2, h3⟩
      · exact .inl h
      · refine .inr ⟨g, cp, cur, e, h1, ?_, h3⟩
        have := hn0 g (by rw [e]; rfl)
        rw [hold g this.1 this.2]; exact h2
    · rw [hos.1, hog.by_.os]; rfl
    · rw [hos.2.1, hog.by_.tape]; rfl
    · rw [hos.2.2, hog.by_.output]; rfl
    · omega
    · intro j hj hne
      rw [hold j (by omega) (by omega), hog.by_.block j (by simp; omega) hne, Below.heap_alloc _ _ _ (by simp; omega), Below.heap_alloc _ _ _ hj]
    · intro g hg
      rcases hog.blk g hg with h | h
      · exact .inl h
      · exact .inr (by simp at h; omega)
    · intro g hg hne
      have := hlt g hg
      rw [hold g (by omega) (by omega), hog.old g hg hne, Below.heap_alloc _ _ _ (by simp; omega), Below.heap_alloc _ _ _ this]
  clear hold hs4 hos hown hog f1 f2 f3 f4 f5 c1 c2 hw3 hw4 hsz hn0
  have z32 : ∀ w, (sizeOf 32).run Tryz.prog w = .ok 1 w := fun w => by rfl
  have z44 : ∀ w, (sizeOf 44).run Tryz.prog w = .ok 2 w := fun w => by rfl
  have a44 : ∀ w, (isAgg 44).run Tryz.prog w = .ok true w := fun w => by rfl
  go_wp2_with (first | refine wpList_store_run rfl 32 _ _ rfl _ rfl _ rfl 1 (z32 _) rfl q1 ?_ | refine wpList_load_run rfl 44 _ rfl _ rfl 2 (a44 _) (z44 _) _ q2 ?_ | refine wpList_store_run rfl 44 _ _ rfl _ rfl _ rfl 2 (z44 _) rfl q3 ?_)
  refine ⟨rfl, .agg #[.int .i64 c, .slice a' l' cap'], ?_, hfin⟩
  have hl : (loadVar 44 ⟨w.heap.size + 1, 0, none⟩).run Tryz.prog w4 = .ok (.agg #[.int .i64 c, .slice a' l' cap']) w4 := by
    simp only [loadVar, Sem.run_bind, Sem.run_pure, Result.andThen_ok, a44, if_true, z44, q4]
  have hr : Tryz.f106.results = #[.cell 4 44] := by kernel_rfl
  unfold results
  rw [hr]
  simp [Act.put, asAddr, hl]
theorem pad_ok : PadOK Tryz.prog := by
  intro w base c n v len k cs hbase hown hone hk hb
  obtain ⟨ad, cap, rfl⟩ : ∃ ad cap, v = .slice ad len cap := by
    rcases hown.2 with ⟨e, e2⟩ | ⟨g, cp, cur, e, _⟩
    · exact ⟨none, 0, by rw [e, e2]⟩
    · exact ⟨_, _, e⟩
  exact .inl ⟨by simp [callFunc, padFn, Tryz.func106, Tryz.f106, Sem.run_bind], pad_calls w base c n ad cap len k cs hbase hown hone hk hb⟩
end Go.Proofs.YtbfkfobfhjgphaaGreat.Fn
