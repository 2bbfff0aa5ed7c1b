/- The abstract evaluator: its operations are the machine's (those that make nothing and write nothing). -/
import Derived.Test.YtbfkfobfhjgphaaGreatPevD
set_option linter.unusedVariables false
set_option linter.unusedSimpArgs false
namespace Go.Pev
open Go

def zrep : SV → Value → Prop
  | .undef, v => v.oneCell' = true
  | .int k n, v => v = .int k n
  | .bool b, v => v = .bool b
  | .str s, v => v = .string s
  | .nilsl, v => v = .slice none 0 0
  | .nilp, v => v = .pointer none
  | _, _ => False
def zval : SV → Value
  | .int k n => .int k n
  | .bool b => .bool b
  | .str s => .string s
  | _ => undef

/-- The zero value's cells of a type. -/
def zcells : Ty → List Value
  | .int k => [.int k 0]
  | .bool => [.bool false]
  | .str => [.string ByteArray.empty]
  | .pair a b => zcells a ++ zcells b
  | .sl _ => [.slice none 0 0]

structure TiOK (P : Program) (t : TypeId) (ti : TI) : Prop where
  info : ∃ i z, P.info? t = some i ∧ i.size = ti.size ∧ i.bytes = ti.bytes ∧ i.zero = some z ∧ All2 zrep ti.zero z.cells.toList ∧ (ti.tok = true → ti.ty.size = ti.size ∧ z.cells.toList = zcells ti.ty)
  und : ∃ d, P.underlying t = some d ∧ match ti.d with
    | .int k => d = .int k
    | .bool => d = .bool
    | .str => d = .string
    | .struct fs => ∃ fields, d = .struct fields ∧ fields.toList.map (fun f => (f.offset, P.cellsOf f.type)) = fs ∧ (ti.flat = true → ∀ f ∈ fields.toList, ∃ u, P.underlying f.type = some u ∧ (P.cellsOf f.type = 1 → (∀ g, u ≠ .struct g) ∧ ∀ n e, u ≠ .array n e))
    | .slice e => d = .slice e
    | .other => (∀ f, d ≠ .struct f) ∧ ∀ n e, d ≠ .array n e

def TabOK (P : Program) (TAB : TypeId → Option TI) : Prop := ∀ t ti, TAB t = some ti → TiOK P t ti
def EqOK (P : Program) (EQ : TypeId → Option (List Ty)) : Prop := ∀ t ts, EQ t = some ts → (ts = [] → P.underlying t = some .bool) ∧ (ts ≠ [] → P.eqGuardType P.depth t = false ∧
  ∀ xs ys c w, sameCells ts xs ys = some c → (Op.equal t (.agg (xs.map zval).toArray) (.agg (ys.map zval).toArray)).run P w = .ok c w)

/-- What an operation leaves is what the machine's leaves. -/
def OpOK (C : Ctx) (o : Oper) (st : AS) (v : AV) (us : List (Nat × Blk)) : Prop :=
  ∀ I ρ a w, Sim C I ρ st a w → ∀ (next : Act → World → Prop) (Q : Exit → Act → World → Prop),
    (∀ I' ρ' a' w', Sim C I' ρ' (st.apply o.dst v us) a' w' → next a' w') → o.wp C.P a w next Q

theorem wp_value {P : Program} {o : Oper} {a : Act} {w w' : World} {x : Value} {next : Act → World → Prop} {Q : Exit → Act → World → Prop}
    (h : (execOp a.eval o).run P w = .ok (.value x) w') (hn : next (a.put o.dst x) w') : o.wp P a w next Q := by
  simp only [Oper.wp, h, Oper.upon]; exact hn
theorem wp_skip' {P : Program} {o : Oper} {a : Act} {w w' : World} {next : Act → World → Prop} {Q : Exit → Act → World → Prop}
    (h : (execOp a.eval o).run P w = .ok .skip w') (hn : next (a.put o.dst undef) w') : o.wp P a w next Q := by
  simp only [Oper.wp, h, Oper.upon]; exact hn

theorem Sim.eval {C : Ctx} {I : Imm} {ρ : Nat → Value} {st : AS} {a : Act} {w : World} (h : Sim C I ρ st a w) (x : Operand) : AVRep I w ρ (evalO st x) (a.eval x) ∧ ∀ id ∈ refsAV (evalO st x), st.H id ≠ .none := by
  cases x with
  | tmp t => exact ⟨h.tmps t, h.refT t⟩
  | const v =>
    refine ⟨?_, ?_⟩
    · simp only [evalO, Act.eval]
      unfold svOfConst
      split <;> first | rfl | trivial
    · simp only [evalO]
      unfold svOfConst
      split <;> simp [refsAV, refs]
  | global g => exact ⟨trivial, by simp [evalO, refsAV, refs]⟩
  | func f => exact ⟨by simp [evalO, AVRep, SRep, Act.eval], by simp [evalO, refsAV, refs]⟩

theorem AVRep.sc {I : Imm} {w : World} {ρ : Nat → Value} {s : SV} {v : Value} (h : AVRep I w ρ (.sc s) v) (hs : s ≠ .undef) : SRep I w ρ s v := by
  cases s <;> first | exact h | exact absurd rfl hs
theorem SRep.av {I : Imm} {w : World} {ρ : Nat → Value} {s : SV} {v : Value} (h : SRep I w ρ s v) : AVRep I w ρ (.sc s) v := by
  cases s <;> first | exact h | trivial

/-- A value that needs nothing new: the world stays. -/
theorem OpOK.pure {C : Ctx} {o : Oper} {st : AS} {v : AV} (hd : ∀ d, o.dst = some d → d < C.n)
    (h : ∀ I ρ a w, Sim C I ρ st a w → ∃ x, (execOp a.eval o).run C.P w = .ok (.value x) w ∧ AVRep I w ρ v x ∧ ∀ id ∈ refsAV v, st.H id ≠ .none) : OpOK C o st v [] := by
  intro I ρ a w hs next Q hn
  obtain ⟨x, hx, hv, hr⟩ := h I ρ a w hs
  exact wp_value hx (hn I ρ _ _ (hs.put hd hv hr))

theorem add_blk (g j : Nat) : (⟨g, 0, none⟩ : Addr).add j = ⟨g, j, none⟩ := by unfold Addr.add; split <;> simp_all

theorem rowRep.view {I : Imm} {w : World} {base : Nat} {tid : TypeId} {e : Ty} {xs : List e.I} {v : Value} (h : rowRep I w base tid e xs v) : CRep I w (.sl e) xs [v] := by
  obtain ⟨cs, h1, h2, h3, hz, h4⟩ := h
  rcases h2.2 with ⟨rfl, hn⟩ | ⟨g, cap, cur, rfl, hbg, hg, hnc, hcm, hcs, htake⟩
  · exact ⟨none, 0, by rw [hn], by omega, fun i hi => by omega⟩
  · refine ⟨some ⟨g, 0, none⟩, cap, rfl, hnc, fun i hi => ?_⟩
    obtain ⟨c, hc, hj⟩ := h1.get xs cs i hi
    refine ⟨⟨g, 0, none⟩, c, rfl, hc, fun j u hu => ?_⟩
    have hcell := h2.cells (g := g) rfl (i * e.size + j) u (hj j u hu)
    refine ⟨?_, hcell⟩
    rw [add_blk]
    refine (h4 g rfl _).2 ?_
    have := (List.getElem?_eq_some_iff.1 (hj j u hu)).1
    rw [h1.length] at this
    exact this

theorem castL_eq {a b : Ty} {xs : List a.I} {ys : List b.I} (h : castL a b xs = some ys) : ∃ e : a = b, ys = e ▸ xs := by
  unfold castL at h
  split at h
  · rename_i e
    injection h with h
    exact ⟨e, h.symm⟩
  · cases h

theorem Sim.viewOf {C : Ctx} {I : Imm} {ρ : Nat → Value} {st : AS} {a : Act} {w : World} (h : Sim C I ρ st a w) {e : Ty} {s : SV} {xs : List e.I} {v : Value} (hv : viewOf st.H e s = some xs) (hs : SRep I w ρ s v) : CRep I w (.sl e) xs [v] := by
  unfold Pev.viewOf at hv
  split at hv
  · obtain ⟨rfl, rfl⟩ := castL_eq hv
    exact hs
  · injection hv with hv
    subst hv
    simp only [SRep] at hs
    subst hs
    exact ⟨none, 0, rfl, Nat.le_refl _, fun i hi => absurd hi (Nat.not_lt_zero _)⟩
  · rename_i id
    split at hv
    · rename_i tid e' xs' hH
      obtain ⟨rfl, rfl⟩ := castL_eq hv
      have := h.blks id
      rw [hH] at this
      rw [hs.1]
      exact rowRep.view this
    · cases hv
  · cases hv

/-- The cells of a value of a type, as the evaluator has them. -/
theorem cellsOf_rep {I : Imm} {w : World} {ρ : Nat → Value} : ∀ (t : Ty) (x : t.I) (cs : List Value), CRep I w t x cs → All2 (SRep I w ρ) (cellsOf t x) cs
  | .int k, _, _, h => by subst h; exact ⟨rfl, trivial⟩
  | .bool, _, _, h => by subst h; exact ⟨rfl, trivial⟩
  | .str, _, _, h => by subst h; exact ⟨rfl, trivial⟩
  | .pair a b, x, _, ⟨c1, c2, h0, h1, h2⟩ => by subst h0; exact All2.append _ _ _ _ (cellsOf_rep a _ _ h1) (cellsOf_rep b _ _ h2)
  | .sl e, xs, cs, h => by
    obtain ⟨a, cap, h0, h1, h2⟩ := h
    subst h0
    exact ⟨⟨a, cap, rfl, h1, h2⟩, trivial⟩
theorem refs_cellsOf : ∀ (t : Ty) (x : t.I) (s : SV), s ∈ cellsOf t x → refs s = []
  | .int k, _, s, h => by simp [cellsOf] at h; subst h; rfl
  | .bool, _, s, h => by simp [cellsOf] at h; subst h; rfl
  | .str, _, s, h => by simp [cellsOf] at h; subst h; rfl
  | .pair a b, x, s, h => by
    simp only [cellsOf, List.mem_append] at h
    rcases h with h | h
    · exact refs_cellsOf a _ s h
    · exact refs_cellsOf b _ s h
  | .sl e, xs, s, h => by simp [cellsOf] at h; subst h; rfl

/-- The cells at an address, as they are loaded. -/
theorem Sim.cells {C : Ctx} {I : Imm} {ρ : Nat → Value} {st : AS} {a : Act} {w : World} (h : Sim C I ρ st a w) {s : SV} {n : Nat} {cs : List SV} {v : Value} (hl : loadCellsA st s n = some cs) (hv : SRep I w ρ s v) :
    ∃ (ad : Addr) (vs : List Value), v = .pointer (some ad) ∧ vs.length = n ∧ All2 (SRep I w ρ) cs vs ∧ (∀ j u, vs[j]? = some u → w.cell? (ad.add j) = some u) ∧ ∀ s ∈ cs, ∀ id ∈ refs s, st.H id ≠ .none := by
  unfold loadCellsA at hl
  split at hl
  · rename_i id off
    split at hl
    · rename_i bs hH
      cases hb : Nat.ble (off + n) bs.length with
      | false => rw [hb] at hl; cases hl
      | true =>
        rw [hb] at hl
        simp only [cond_true, Option.some.injEq] at hl
        subst hl
        have hle := Nat.le_of_ble_eq_true hb
        have hB := h.blks id
        rw [hH] at hB
        obtain ⟨B, hB, cur, T, hc, hrep, himm⟩ := hB
        have hlen := All2.length _ _ hrep
        refine ⟨⟨bl ρ id, off, none⟩, (cur.toList.drop off).take n, hv, by simp at hlen ⊢; omega, All2.take _ _ _ (All2.drop _ _ _ hrep), ?_, ?_⟩
        · intro j u hu
          have hbl : bl ρ id = B := by simp [bl, hB, boxV, Value.ownBlock]
          have : ((⟨bl ρ id, off, none⟩ : Addr).add j) = ⟨B, off + j, none⟩ := by
            rw [hbl]; unfold Addr.add; split
            · rename_i h0; simp [h0]
            · rfl
          rw [this]
          rw [List.getElem?_take] at hu
          split at hu
          · rw [List.getElem?_drop] at hu
            simpa [World.cell?, hc] using hu
          · cases hu
        · intro s hs i hi
          exact h.refH id bs hH s (List.mem_of_mem_drop (List.mem_of_mem_take hs)) i hi
    · cases hl
  · rename_i e x off
    cases hb : Nat.ble (off + n) e.size with
    | false => rw [hb] at hl; cases hl
    | true =>
      rw [hb] at hl
      simp only [cond_true, Option.some.injEq] at hl
      subst hl
      have hle := Nat.le_of_ble_eq_true hb
      obtain ⟨ad, vs, hv, hc, hj⟩ := hv
      have hlen := CRep.length _ _ _ hc
      refine ⟨ad.add off, (vs.drop off).take n, hv, by simp; omega, All2.take _ _ _ (All2.drop _ _ _ (cellsOf_rep _ _ _ hc)), ?_, ?_⟩
      · intro j u hu
        rw [add_add]
        rw [List.getElem?_take] at hu
        split at hu
        · rw [List.getElem?_drop] at hu
          exact (hj _ u hu).2
        · cases hu
      · intro s hs i hi
        have := refs_cellsOf e x s (List.mem_of_mem_drop (List.mem_of_mem_take hs))
        rw [this] at hi
        cases hi
  · cases hl
end Go.Pev
