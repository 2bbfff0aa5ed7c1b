/- The abstract evaluator: a function's end, and what its callers know of it. -/
import Derived.Test.YtbfkfobfhjgphaaGreatPevU
set_option linter.unusedVariables false
set_option linter.unusedSimpArgs false
namespace Go.Pev
open Go

section
variable {C : Ctx} {st : AS} {I : Imm} {ρ : Nat → Value} {a : Act} {w : World}

theorem resCells_run {TAB : TypeId → Option TI} (hs : Sim C I ρ st a w) (hT : TabOK C.P TAB) (f : ResultVar → Sem Value) (hf : ∀ u, f (.tmp u) = pure (a.tmps.getD u undef)) (hc : ∀ p t, f (.cell p t) = (do loadVar t (← asAddr (a.tmps.getD p undef)))) :
    ∀ (rs : List ResultVar) (ccs : List (Bool × List SV)), resCells TAB st rs = some ccs → ∃ vs, (rs.mapM f).run C.P w = .ok vs w ∧ All2 (compRep I w ρ) ccs vs
  | [], ccs, h => by
    simp only [resCells, Option.some.injEq] at h
    subst h
    exact ⟨[], by simp, trivial⟩
  | .tmp t :: r, ccs, h => by
    simp only [resCells] at h
    have ht := hs.tmps t
    split at h
    · cases h
    · rename_i s l hne h1 h2
      injection h with h
      subst h
      obtain ⟨vs, e, h3⟩ := resCells_run hs hT f hf hc r l h2
      rw [h1] at ht
      exact ⟨a.tmps.getD t undef :: vs, by simp [List.mapM_cons, hf, e], ht.sc hne, h3⟩
    · rename_i cs l h1 h2
      injection h with h
      subst h
      obtain ⟨vs, e, h3⟩ := resCells_run hs hT f hf hc r l h2
      rw [h1] at ht
      exact ⟨a.tmps.getD t undef :: vs, by simp [List.mapM_cons, hf, e], ht, h3⟩
    · cases h
  | .cell p t :: r, ccs, h => by
    simp only [resCells] at h
    have hp := hs.tmps p
    split at h
    · rename_i ti s ht h1
      split at h
      · rename_i cs l hl h2
        split at h
        · rename_i av hav
          injection h with h
          subst h
          rw [h1] at hp
          have hne : s ≠ .undef := by intro e; subst e; simp [loadCellsA] at hl
          obtain ⟨ad, vs0, he, hlen, hrep, hcell, _⟩ := hs.cells hl (hp.sc hne)
          obtain ⟨vs, e, h3⟩ := resCells_run hs hT f hf hc r l h2
          have hti := hT t ti ht
          have hlc := run_loadCells_list (P := C.P) w ad vs0 hcell
          rw [hlen] at hlc
          cases hag : ti.agg with
          | true =>
            refine ⟨.agg vs0.toArray :: vs, ?_, ⟨vs0.toArray, rfl, by simpa using hrep⟩, h3⟩
            rw [List.mapM_cons, hc, he]
            simp only [asAddr, loadVar, Sem.run_bind, Sem.run_pure, Result.andThen_ok, hti.agg, hti.size, hag]
            simp [hti.size, hlc, e]
          | false =>
            rw [hag] at hav
            simp only [mkAV, cond_false] at hav
            split at hav
            · match vs0, hrep, hcell with
              | [u], hrep, hcell =>
                have h5 := hcell 0 u (by simp)
                have h0 : ad.add 0 = ad := by simp [Addr.add]
                rw [h0] at h5
                refine ⟨u :: vs, ?_, hrep.1, h3⟩
                rw [List.mapM_cons, hc, he]
                simp only [asAddr, loadVar, Sem.run_bind, Sem.run_pure, Result.andThen_ok, hti.agg, hti.size, hag]
                simp [h5, e]
            · cases hav
        · cases h
      · cases h
    · cases h
end
end Go.Pev
