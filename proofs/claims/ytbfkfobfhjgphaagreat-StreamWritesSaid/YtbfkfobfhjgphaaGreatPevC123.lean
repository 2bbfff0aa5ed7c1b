/- The contracts of what makes the rules of the commands: two functions that make closures. -/
import Derived.Test.YtbfkfobfhjgphaaGreatFnTab
import Derived.Test.YtbfkfobfhjgphaaGreatPevMap
import Derived.Lib.Walk
import Derived.Lib.SliceRun
import Derived.WalkKit
set_option linter.unusedVariables false
set_option linter.unusedSimpArgs false
namespace Go.Proofs.YtbfkfobfhjgphaaGreat.Fn
open Go Go.Pev Go.Proofs Go.RowKit Go.Lib

theorem turn_calls (n : Int) (w : World) : Calls Tryz.prog 166 #[.int .i64 n] w fun e w' => e = .returned (.func (.func 222) #[] #[.pointer (some ⟨w.heap.size, 0, none⟩)]) ∧ w' = w.alloc (.cells #[.int .i64 n] 3) := by
  go_enter Tryz.func166, Tryz.ntmps166
  go_wp2
  go_ret
  exact ⟨rfl, rfl⟩
theorem end_calls (n : Int) (w : World) : Calls Tryz.prog 167 #[.int .i64 n] w fun e w' => e = .returned (.func (.func 223) #[] #[.pointer (some ⟨w.heap.size, 0, none⟩)]) ∧ w' = w.alloc (.cells #[.int .i64 n] 3) := by
  go_enter Tryz.func167, Tryz.ntmps167
  go_wp2
  go_ret
  exact ⟨rfl, rfl⟩
def rulesL : List RuleS := [(1, [1, 2], 222, some 3), (2, [3], 222, some 4), (3, [4], 222, some 3), (4, [2, 3, 4], 222, some 5), (5, [1, 2, 3, 4, 5], 223, some 6), (6, [1, 2, 3, 4, 5, 6], 223, some 7), (7, [1, 2, 3, 4], 168, none)]
set_option maxHeartbeats 4000000 in
set_option maxRecDepth 100000 in
theorem rules_calls (w : World) : Calls Tryz.prog 94 #[] w fun e w' => ∃ B es clock, e = .returned (.map (some B)) ∧ RS 3 w w' B es clock rulesL := by
  have u176 : Tryz.prog.underlying 176 = some (.map 3 174) := by kernel_rfl
  have u3 : Tryz.prog.underlying 3 = some (.int .i64) := by kernel_rfl
  have e166 : ∀ (m : Int) w, (callFunc 166 #[.int .i64 m]).run Tryz.prog w = .ok (.enter 166 #[.int .i64 m]) w := fun m w => by simp [callFunc, Tryz.func166, Tryz.f166, Sem.run_bind]
  have e167 : ∀ (m : Int) w, (callFunc 167 #[.int .i64 m]).run Tryz.prog w = .ok (.enter 167 #[.int .i64 m]) w := fun m w => by simp [callFunc, Tryz.func167, Tryz.f167, Sem.run_bind]
  go_enter Tryz.func94, Tryz.ntmps94
  refine wp_seq (wp_region_lit ?_)
  refine wl_val rfl rfl ?_
  refine wpList_nil ?_
  show Code.wp _ _ _ _ _
  refine wp_seq (wp_region_lit ?_)
  refine wl_val (x := .map (some w.heap.size)) (w' := w.alloc (.map #[] 0)) rfl rfl ?_
  have R0 : RS 3 w (w.alloc (.map #[] 0)) w.heap.size #[] 0 [] := ⟨heap_alloc_new w _, trivial, fun j hj => heap_alloc w _ j hj, by simp, rfl, rfl, rfl, Nat.le_refl _⟩
  generalize w.alloc (.map #[] 0) = w1 at *
  have b174 : ∀ (c : FuncId) (g n b : Nat) w, (Instr.build 174 #[(0, .slice (some ⟨g, 0, none⟩) n n), (1, .func (.func c) #[] #[.pointer (some ⟨b, 0, none⟩)])]).run Tryz.prog w = .ok (.agg #[.slice (some ⟨g, 0, none⟩) n n, .func (.func c) #[] #[.pointer (some ⟨b, 0, none⟩)]]) w := fun c g n b w => by kernel_rfl
  refine wl_rule' (n := 23) R0 ⟨rfl, rfl, rfl⟩ rfl rfl rfl rfl u176 u3 [1, 2] 166 222 3 1 2 3 4 rfl rfl rfl rfl (by decide) (fun a w => by kernel_rfl) (fun a w => by kernel_rfl) (e166 3) (turn_calls 3) (fun ρ => by simp [execOp]) (b174 222) (fun a => rfl) (by simp) ?_
  intro a1 w2 es2 R1 A1
  refine wl_rule' (n := 23) R1 A1 rfl rfl rfl rfl u176 u3 [3] 166 222 4 2 5 6 7 rfl rfl rfl rfl (by decide) (fun a w => by kernel_rfl) (fun a w => by kernel_rfl) (e166 4) (turn_calls 4) (fun ρ => by simp [execOp]) (b174 222) (fun a => rfl) (by simp) ?_
  intro a2 w3 es3 R2 A2
  refine wl_rule' (n := 23) R2 A2 rfl rfl rfl rfl u176 u3 [4] 166 222 3 3 8 9 10 rfl rfl rfl rfl (by decide) (fun a w => by kernel_rfl) (fun a w => by kernel_rfl) (e166 3) (turn_calls 3) (fun ρ => by simp [execOp]) (b174 222) (fun a => rfl) (by simp) ?_
  intro a3 w4 es4 R3 A3
  refine wl_rule' (n := 23) R3 A3 rfl rfl rfl rfl u176 u3 [2, 3, 4] 166 222 5 4 11 12 13 rfl rfl rfl rfl (by decide) (fun a w => by kernel_rfl) (fun a w => by kernel_rfl) (e166 5) (turn_calls 5) (fun ρ => by simp [execOp]) (b174 222) (fun a => rfl) (by simp) ?_
  intro a4 w5 es5 R4 A4
  refine wl_rule' (n := 23) R4 A4 rfl rfl rfl rfl u176 u3 [1, 2, 3, 4, 5] 167 223 6 5 14 15 16 rfl rfl rfl rfl (by decide) (fun a w => by kernel_rfl) (fun a w => by kernel_rfl) (e167 6) (end_calls 6) (fun ρ => by simp [execOp]) (b174 223) (fun a => rfl) (by simp) ?_
  intro a5 w6 es6 R5 A5
  refine wl_rule' (n := 23) R5 A5 rfl rfl rfl rfl u176 u3 [1, 2, 3, 4, 5, 6] 167 223 7 6 17 18 19 rfl rfl rfl rfl (by decide) (fun a w => by kernel_rfl) (fun a w => by kernel_rfl) (e167 7) (end_calls 7) (fun ρ => by simp [execOp]) (b174 223) (fun a => rfl) (by simp) ?_
  intro a6 w7 es7 R6 A6
  have b174' : ∀ (g n : Nat) w, (Instr.build 174 #[(0, .slice (some ⟨g, 0, none⟩) n n), (1, .func (.func 168) #[] #[])]).run Tryz.prog w = .ok (.agg #[.slice (some ⟨g, 0, none⟩) n n, .func (.func 168) #[] #[]]) w := fun g n w => by kernel_rfl
  refine wl_rule0' (n := 23) R6 A6 rfl rfl rfl u176 u3 [1, 2, 3, 4] 168 7 20 21 rfl rfl rfl (by decide) (fun a w => by kernel_rfl) (fun a => by simp [execOp, Act.eval]) b174' (fun a => rfl) (by simp) ?_
  intro a7 w8 es8 R7 A7
  have A8 := A7.put (show 22 < 23 by omega) (by decide) (a7.eval (.tmp 1))
  refine wl_val rfl (x := a7.eval (.tmp 1)) (w' := w8) rfl ?_
  refine wl_val rfl (x := .map (some w.heap.size)) (w' := w8) ?_ ?_
  · have h1 := eval_put A7 (show 22 < 23 by omega) (a7.eval (.tmp 1)) 22
    rw [if_pos rfl] at h1
    have h2 : a7.eval (.tmp 1) = .map (some w.heap.size) := A7.m
    rw [h2] at h1 ⊢
    show Sem.run _ (pure (Next.value (Act.eval _ (.tmp 22)))) _ = _
    rw [h1]
    rfl
  refine wpList_nil ?_
  show Code.wp _ _ _ _ _
  have A9 := (A8.put (show 0 < 23 by omega) (by decide) (.map (some w.heap.size)))
  have h0 := getD_put (a7.put (some 22) (a7.eval (.tmp 1))) 0 0 (.map (some w.heap.size)) (by rw [A8.size]; omega)
  rw [if_pos rfl] at h0
  refine wp_ret ⟨A9.defers, .map (some w.heap.size), ?_, w.heap.size, es8, _, rfl, R7⟩
  have hr : Tryz.f94.results = #[.tmp 0] := by kernel_rfl
  unfold results
  rw [hr]
  rw [Array.getD_eq_getD_getElem?] at h0
  simp [h0]
end Go.Proofs.YtbfkfobfhjgphaaGreat.Fn
