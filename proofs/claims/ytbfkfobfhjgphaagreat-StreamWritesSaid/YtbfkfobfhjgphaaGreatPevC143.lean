/- Contracts of Go's library: slices.Clone and slices.Grow onto nil. -/
import Derived.Test.YtbfkfobfhjgphaaGreatFnTab
import Derived.Test.YtbfkfobfhjgphaaGreatPevHand
import Derived.Test.YtbfkfobfhjgphaaGreatFnD0
import Derived.Lib.Walk
import Derived.Lib.SliceRun
import Derived.Lib.AppendZeros
import Derived.Deep.LoopGhost
import Derived.WalkKit
set_option linter.unusedVariables false
set_option linter.unusedSimpArgs false
namespace Go.Proofs.YtbfkfobfhjgphaaGreat.Fn
open Go Go.Pev Go.Proofs Go.RowKit Go.Lib

theorem info21 : Tryz.prog.info? 21 = some Tryz.t21 := by kernel_rfl
theorem zero21 : Tryz.t21.zero = some (.int .i32 0) := by kernel_rfl
theorem size21 : Tryz.t21.size = 1 := by kernel_rfl
theorem bytes21 : Tryz.t21.bytes = 4 := by kernel_rfl

set_option maxHeartbeats 2000000 in
set_option maxRecDepth 100000 in
theorem clone_some (ad : Addr) (n c : Nat) (news : List Value) (w : World) (hl : news.length = n * 1) (hn : n ≤ maxLen) (hbig : n * 4 ≤ 140737488355328)
    (hc : ∀ j u, news[j]? = some u → w.cell? (ad.add j) = some u) (h1 : ∀ u ∈ news, u.oneCell' = true) :
    Calls Tryz.prog 169 #[.slice (some ad) n c] w fun e w' => ∃ v', e = .returned v' ∧ w'.ownsRow w.heap.size 21 1 v' n news ∧ Below w.heap.size w w' := by
  have q22 : ∀ (w : World) (a : Option Addr) (n c n' c' : Nat), (binOp .eql 32 (.slice a n c) (.slice none n' c')).run Tryz.prog w = .ok (.bool a.isNone) w := fun w a n c n' c' => Lib.run_eql_slice_nil w _ _ a n c n' c' Tryz.underlying32
  have A : Aside (∀ j u, news[j]? = some u → w.cell? (ad.add j) = some u) := hc
  clear hc
  go_enter Tryz.func169, Tryz.ntmps169
  go_wp2_with (at_builtin; refine wpList_append_own _ rfl _ _ 32 rfl w.heap.size 21 Tryz.t21 (.int .i32 0) 1 4 Tryz.underlying32 info21 zero21 size21 bytes21 rfl (Nat.succ_pos 0) _ _ _ rfl (World.ownsRow_made w #[] 0 (Nat.le_refl _) (Nat.zero_le _) (by simp)) ad n c news rfl ?qc1 ?qc2 ?qc3 ?qc4 ?qc5 ?qc6 ?_)
  case qc1 => exact hl
  case qc2 =>
    intro j u hj
    exact Lib.cell?_alloc_some _ (A.out j u hj)
  case qc3 => exact h1
  case qc4 => rw [Nat.zero_add]; exact hn
  case qc5 => rw [Nat.zero_add]; exact hbig
  case qc6 => simp
  intro v' w1 hown hgrow hnil
  go_wp2
  go_ret
  refine ⟨v', rfl, by simpa using hown, ?_⟩
  exact ((Below.refl _ w).alloc (Nat.le_refl _) _).grown hgrow (by simp) (by intro k hk; simp [Value.ownBlock] at hk; omega)

set_option maxHeartbeats 1000000 in
theorem clone_nil (n c : Nat) (w : World) : Calls Tryz.prog 169 #[.slice none n c] w fun e w' => e = .returned (.slice none 0 0) ∧ w' = w := by
  have q22 : ∀ (w : World) (a : Option Addr) (n c n' c' : Nat), (binOp .eql 32 (.slice a n c) (.slice none n' c')).run Tryz.prog w = .ok (.bool a.isNone) w := fun w a n c n' c' => Lib.run_eql_slice_nil w _ _ a n c n' c' Tryz.underlying32
  go_enter Tryz.func169, Tryz.ntmps169
  go_wp2
  go_ret
  exact ⟨rfl, rfl⟩

set_option maxHeartbeats 2000000 in
set_option maxRecDepth 100000 in
theorem grow_pos (n : Nat) (h0 : 0 < n) (hbig : n * 4 ≤ 140737488355328) (w : World) : Calls Tryz.prog 221 #[.slice none 0 0, .int .i64 n] w fun e w' => ∃ v', e = .returned v' ∧ w'.ownsRow w.heap.size 21 1 v' 0 [] ∧ Below w.heap.size w w' := by
  have hrun := run_append_nil_zeros (P := Tryz.prog) w 32 3 32 21 Tryz.t21 (.int .i32 0) .i64 .i64 Tryz.underlying32 (by kernel_rfl) info21 zero21 n h0 (by rw [size21]; omega) (by omega) (by rw [bytes21]; omega)
  have HR : Hid ((Builtin.append_ #[32, 3] 32 #[.slice none 0 0, .int .i64 (n : Int)]).run Tryz.prog w = _) := hrun
  clear hrun
  have hc1 := grownCap_ge w n 0 21
  have hc2 := grownCap_le_maxLen w n 0 21 (by unfold maxLen; omega)
  have hpos : (0 : Int) < (n : Int) := by omega
  go_enter Tryz.func221, Tryz.ntmps221
  go_wp2_with (at_builtin; refine wpList_append_run _ rfl _ _ _ _ rfl _ _ rfl rfl _ _ HR.out ?_)
  go_ret
  refine ⟨_, rfl, ⟨by simp, .inr ⟨w.heap.size, grownCap w n 0 21, (Builtin.zeroCells (Value.int IntKind.i32 0).cells n ++ Builtin.zeroCells (Value.int IntKind.i32 0).cells (grownCap w n 0 21 - n)), rfl, Nat.le_refl _, ?_, Nat.zero_le _, hc2, ?_, by simp⟩⟩, ?_⟩
  · exact heap_alloc_new w.drew _
  · simp only [Array.size_append, size_zeroCells, Value.cells]
    simp
    omega
  · exact ((Below.refl _ w).drew).alloc (Nat.le_refl _) _

set_option maxHeartbeats 2000000 in
set_option maxRecDepth 100000 in
theorem grow_zero (w : World) : Calls Tryz.prog 221 #[.slice none 0 0, .int .i64 0] w fun e w' => e = .returned (.slice none 0 0) ∧ w' = w := by
  go_enter Tryz.func221, Tryz.ntmps221
  go_wp2
  go_ret
  exact ⟨rfl, rfl⟩

/-! ### As contracts -/
noncomputable def sig169 : Sig := ⟨[.val false (.sl (.int .i32))], [(false, [.own 21 (.int .i32)])], []⟩
noncomputable def spec169 (k : Nat) : FSpec := ⟨sig169, fun x => f169 k x⟩
noncomputable def sig221 : Sig := ⟨[.unit, .val false (.int .i64)], [(false, [.own 21 (.int .i32)])], []⟩
noncomputable def spec221 (k : Nat) : FSpec := ⟨sig221, fun x => f221 k x⟩

theorem ok221 (k : Nat) : FnOK Tryz.prog 221 (spec221 k) := by
  intro x r xs hx hd w I vs Bs hin hr hn
  obtain ⟨u, n⟩ := x
  change Int at n
  change f221 k (u, n) = some r at hx
  simp only [f221, cond_eq_ite, Bool.and_eq_true, decide_eq_true_eq] at hx
  split at hx
  · rename_i hc
    injection hx with hx
    subst hx
    obtain ⟨xa, ys, v1, vs', B1, B2, rfl, rfl, h1, h2, h3, h4⟩ := args_cons (a := .unit) (b := .val false (.int .i64)) (l := []) hd hr
    obtain ⟨xb, v2, rfl, h5, h6⟩ := args_one (a := .val false (.int .i64)) h3 h4
    obtain ⟨rfl, rfl⟩ := argv_unit h1 h2
    obtain ⟨rfl, h7⟩ := argv_false hin h5 h6
    have h7 : [v2] = [.int .i64 n] := h7
    simp only [List.cons.injEq, and_true] at h7
    subst h7
    refine .inl ⟨by simp [callFunc, Tryz.func221, Tryz.f221, Sem.run_bind], ?_⟩
    obtain ⟨hc0, hc1⟩ := hc
    unfold maxBytes at hc1
    by_cases hz : n = 0
    · subst hz
      refine (grow_zero w).mono fun e w' ⟨he, hw⟩ => ?_
      subst hw
      obtain ⟨I', Cs, hp⟩ := post_own (k := .i32) (xs := []) hin (World.ownsRow_nil w' w'.heap.size 21 1) (Below.refl _ w')
      exact ⟨_, I', Cs, he, hp⟩
    · have e : n = (n.toNat : Int) := by omega
      rw [e]
      refine (grow_pos n.toNat (by omega) (by omega) w).mono fun e w' ⟨v', he, hown, hb⟩ => ?_
      obtain ⟨I', Cs, hp⟩ := post_own (k := .i32) (xs := []) hin hown hb
      exact ⟨_, I', Cs, he, hp⟩
  · cases hx

theorem ok169 (k : Nat) : FnOK Tryz.prog 169 (spec169 k) := by
  intro x r xs hx hd w I vs Bs hin hr hn
  change List Int at x
  change f169 k x = some r at hx
  simp only [f169, cond_eq_ite, Bool.and_eq_true, decide_eq_true_eq] at hx
  split at hx
  · rename_i hc
    injection hx with hx
    subst hx
    obtain ⟨xa, v, rfl, h5, h6⟩ := args_one (a := .val false (.sl (.int .i32))) hd hr
    obtain ⟨rfl, h7⟩ := argv_false hin h5 h6
    obtain ⟨a, cap, rfl, h8, h9, h10⟩ := view_ints h7
    obtain ⟨hc1, hc2⟩ := hc
    unfold maxBytes at hc1
    refine .inl ⟨by simp [callFunc, Tryz.func169, Tryz.f169, Sem.run_bind], ?_⟩
    cases a with
    | none =>
      have hx := h9 rfl
      subst hx
      refine (clone_nil _ _ w).mono fun e w' ⟨he, hw⟩ => ?_
      subst hw
      obtain ⟨I', Cs, hp⟩ := post_own (k := .i32) (xs := []) hin (World.ownsRow_nil w' w'.heap.size 21 1) (Below.refl _ w')
      exact ⟨_, I', Cs, he, hp⟩
    | some ad =>
      have hcell := h10 _ rfl
      refine (clone_some ad x.length cap (x.map (Value.int .i32)) w (by simp) hc2 (by omega) hcell (fun u hu => ?_)).mono fun e w' ⟨v', he, hown, hb⟩ => ?_
      · obtain ⟨n, _, rfl⟩ := List.mem_map.1 hu; rfl
      · obtain ⟨I', Cs, hp⟩ := post_own (k := .i32) (xs := x) hin hown hb
        exact ⟨_, I', Cs, he, hp⟩
  · cases hx
end Go.Proofs.YtbfkfobfhjgphaaGreat.Fn
