/- append of zeros onto a row that is owned, in the machine: what it leaves. -/
import Derived.Test.YtbfkfobfhjgphaaGreatPevL
set_option linter.unusedVariables false
set_option linter.unusedSimpArgs false
namespace Go.Pev
open Go

/-- what is left behind an append onto the row 'v' -/
structure OwnGrown (w w' : World) (v V : Value) : Prop where
  by_ : w.grownBy w' v.ownBlock
  one : V.oneCell' = true
  blk : ∀ g, V.ownBlock = some g → v.ownBlock = some g ∨ w.heap.size ≤ g
  old : ∀ g, v.ownBlock = some g → V.ownBlock ≠ some g → w'.heap[g]? = w.heap[g]?

theorem run_own_zeros {P : Program} (w : World) (base : Nat) (t tn ty e : TypeId) (i : TypeInfo) (q kn : IntKind) (ht : P.underlying t = some (.slice e)) (htn : P.underlying tn = some (.int kn)) (hi : P.info? e = some i) (hz : i.zero = some (.int q 0)) (h1 : i.size = 1) (h4 : i.bytes = 4)
    (v : Value) (n : Nat) (cs : List Value) (ho : w.ownsRow base e 1 v n cs) (hone : ∀ u ∈ cs, u.oneCell' = true) (k : Nat) (hb : (n + k) * 4 ≤ 140737488355328) (hbase : base ≤ w.heap.size) :
    ∃ V w', (Builtin.append_ #[t, tn] ty #[v, .int .i64 (k : Int)]).run P w = .ok V w' ∧ w'.ownsRow base e 1 V (n + k) (cs ++ List.replicate k (.int q 0)) ∧ OwnGrown w w' v V := by
  have hzl : (Builtin.zeroCells (Value.int q 0).cells k).toList = List.replicate k (.int q 0) := by
    rw [zeroCells_flat (Value.int q 0).cells [.int q 0] rfl (by simp) k]
    induction k with
    | zero => rfl
    | succ k ih => simp [List.replicate_succ]
  have hsr : Src P w tn (.int .i64 (k : Int)) i.size i.bytes k (.int q 0) (List.replicate k (.int q 0)) :=
    ⟨by rw [h1]; simp, .inr ⟨kn, htn, rfl, by omega, by rw [h4]; omega, hzl.symm⟩⟩
  rcases ho.2 with ⟨rfl, hn⟩ | ⟨g, cap, cur, rfl, hbg, hg, hnc, hcm, hcs, htake⟩
  · subst hn
    have hcs : cs = [] := List.eq_nil_of_length_eq_zero (by have := ho.1; simpa using this)
    subst hcs
    by_cases h0 : k = 0
    · subst h0
      refine ⟨_, w, app_none t tn ty e i (.int q 0) ht hi hsr, ⟨by simp, .inl ⟨rfl, rfl⟩⟩, ⟨⟨rfl, rfl, rfl, Nat.le_refl _, fun _ _ _ => rfl⟩, rfl, by simp [Value.ownBlock], fun _ _ _ => rfl⟩⟩
    · have hr := app_grow t tn ty e i (.int q 0) ht hi hz none 0 0 [] (by simp [run_firstCells_none]) hsr (by omega) (by omega) (growslice_fits (by omega) (by rw [h4]; omega))
      have hge := grownCap_ge w (0 + k) 0 e
      have hge2 : k ≤ grownCap w k 0 e := by simpa using hge
      have hcm := grownCap_le_maxLen w (0 + k) 0 e (by unfold maxLen; omega)
      refine ⟨_, _, hr, ⟨by simp, .inr ⟨w.heap.size, _, _, rfl, hbase, heap_alloc_new w.drew _, hge, hcm, ?_, ?_⟩⟩, ⟨?_, rfl, ?_, by simp [Value.ownBlock]⟩⟩
      · simp only [Array.size_append, List.size_toArray, size_zeroCells, Value.cells]
        simp
        omega
      · simp
      · exact ⟨rfl, rfl, rfl, by simp, fun j hj _ => heap_alloc w.drew _ j (by simpa using hj)⟩
      · intro g' hg'
        simp only [Value.ownBlock, Option.some.injEq] at hg'
        exact .inr (by omega)
  · by_cases hroom : n + k ≤ cap
    · have hfit : n * i.size + (List.replicate k (Value.int q 0)).length ≤ cur.size := by rw [h1, hcs]; simp; omega
      have hr := app_room t tn ty e i (.int q 0) ht hi hz g n cap cur hg hsr (by intro u hu; rw [(List.mem_replicate.1 hu).2]; rfl) hroom hfit
      have hl : cs.length = n := by have := ho.1; simpa using this
      refine ⟨_, _, hr, ⟨by simp [hl], .inr ⟨g, cap, _, rfl, hbg, setRow_heap w g cur _ e _ hg, hroom, hcm, ?_, ?_⟩⟩, ⟨?_, rfl, ?_, ?_⟩⟩
      · rw [h1, List.size_toArray]
        simp
        omega
      · rw [h1]
        rw [Nat.mul_one] at htake
        simp only [Nat.mul_one, htake]
        rw [List.take_append_of_le_length (by simp [hl]), List.take_of_length_le (by simp [hl])]
      · exact ⟨rfl, rfl, rfl, by simp [World.setRow], fun j _ hj => heap_setRow_ne w g j _ (fun e => hj (by rw [e]; rfl))⟩
      · intro g' hg'
        exact .inl hg'
      · intro g' h1 h2
        exact absurd h1 h2
    · have holds : ∀ j u, cs[j]? = some u → w.drew.cell? ((⟨g, 0, none⟩ : Addr).add j) = some u := ho.cells (g := g) rfl
      have hl : cs.length = n := by have := ho.1; simpa using this
      have hfo := run_firstCells_some (P := P) w.drew i.size n ⟨g, 0, none⟩ n cap cs (by rw [h1]; simpa using hl) holds
      have hr := app_grow t tn ty e i (.int q 0) ht hi hz (some ⟨g, 0, none⟩) n cap cs hfo hsr (by omega) (by omega) (growslice_fits (by omega) (by rw [h4]; omega))
      have hge := grownCap_ge w (n + k) cap e
      have hcm' := grownCap_le_maxLen w (n + k) cap e (by unfold maxLen; omega)
      refine ⟨_, _, hr, ⟨by simp [hl], .inr ⟨w.heap.size, _, _, rfl, hbase, heap_alloc_new w.drew _, hge, hcm', ?_, ?_⟩⟩, ⟨?_, rfl, ?_, ?_⟩⟩
      · simp only [Array.size_append, List.size_toArray, size_zeroCells, Value.cells]
        simp [hl]
        omega
      · simp only [Array.toList_append, List.append_assoc, Nat.mul_one]
        rw [← List.append_assoc, List.take_append_of_le_length (by simp [hl]), List.take_of_length_le (by simp [hl])]
      · exact ⟨rfl, rfl, rfl, by simp, fun j hj _ => heap_alloc w.drew _ j (by simpa using hj)⟩
      · intro g' hg'
        simp only [Value.ownBlock, Option.some.injEq] at hg'
        exact .inr (by omega)
      · intro g' h1 _
        simp only [Value.ownBlock, Option.some.injEq] at h1
        subst h1
        exact heap_alloc w.drew _ g (by simpa using (Array.getElem?_eq_some_iff.1 hg).1)
end Go.Pev
