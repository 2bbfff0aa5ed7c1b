/- The abstract evaluator: its operations are the machine's: those that only read. -/
import Derived.Test.YtbfkfobfhjgphaaGreatPevF
set_option linter.unusedVariables false
set_option linter.unusedSimpArgs false
namespace Go.Pev
open Go

section
variable {C : Ctx} {o : Oper} {st : AS}

theorem TiOK.size {P : Program} {t : TypeId} {ti : TI} (h : TiOK P t ti) (w : World) : (sizeOf t).run P w = .ok ti.size w := by
  obtain ⟨i, z, h1, h2, _⟩ := h.info
  simp [sizeOf, typeInfo, h1, h2]
theorem TiOK.cellsOf {P : Program} {t : TypeId} {ti : TI} (h : TiOK P t ti) : P.cellsOf t = ti.size := by
  obtain ⟨i, z, h1, h2, _⟩ := h.info
  simp [Program.cellsOf, h1, h2]
theorem TiOK.agg {P : Program} {t : TypeId} {ti : TI} (h : TiOK P t ti) (w : World) : (isAgg t).run P w = .ok ti.agg w := by
  obtain ⟨d, hu, hd⟩ := h.und
  unfold isAgg TI.agg
  simp only [Sem.run_bind, run_underlying hu, Result.andThen_ok]
  split at hd <;> rename_i htd <;> rw [htd]
  · subst hd; rfl
  · subst hd; rfl
  · subst hd; rfl
  · obtain ⟨f, rfl, _⟩ := hd; rfl
  · subst hd; rfl
  · split
    · rename_i f; exact absurd rfl (hd.1 f)
    · rename_i n e; exact absurd rfl (hd.2 n e)
    · rfl
theorem TiOK.int {P : Program} {t : TypeId} {ti : TI} (h : TiOK P t ti) {k : IntKind} (hk : ti.d = .int k) : P.underlying t = some (.int k) := by
  obtain ⟨d, hu, hd⟩ := h.und
  rw [hk] at hd
  exact hd ▸ hu
theorem TiOK.slice {P : Program} {t : TypeId} {ti : TI} (h : TiOK P t ti) {e : TypeId} (hk : ti.d = .slice e) : P.underlying t = some (.slice e) := by
  obtain ⟨d, hu, hd⟩ := h.und
  rw [hk] at hd
  exact hd ▸ hu
theorem TiOK.struct {P : Program} {t : TypeId} {ti : TI} (h : TiOK P t ti) {fs : List (Nat × Nat)} (hk : ti.d = .struct fs) : ∃ fields, P.underlying t = some (.struct fields) ∧ fields.toList.map (fun f => (f.offset, P.cellsOf f.type)) = fs := by
  obtain ⟨d, hu, hd⟩ := h.und
  rw [hk] at hd
  obtain ⟨f, rfl, hf, _⟩ := hd
  exact ⟨f, hu, hf⟩
theorem TiOK.struct' {P : Program} {t : TypeId} {ti : TI} (h : TiOK P t ti) {fs : List (Nat × Nat)} (hk : ti.d = .struct fs) (htok : ti.flat = true) : ∃ fields, P.underlying t = some (.struct fields) ∧ fields.toList.map (fun f => (f.offset, P.cellsOf f.type)) = fs ∧
    ∀ f ∈ fields.toList, ∃ u, P.underlying f.type = some u ∧ (P.cellsOf f.type = 1 → (∀ g, u ≠ .struct g) ∧ ∀ n e, u ≠ .array n e) := by
  obtain ⟨d, hu, hd⟩ := h.und
  rw [hk] at hd
  obtain ⟨f, rfl, hf, h3⟩ := hd
  exact ⟨f, hu, hf, h3 htok⟩

theorem elemOf_ok {P : Program} {TAB : TypeId → Option TI} (hT : TabOK P TAB) {t e : TypeId} {te : TI} (h : elemOf TAB t = some (e, te)) : P.underlying t = some (.slice e) ∧ TiOK P e te ∧ te.tok = true := by
  unfold elemOf at h
  split at h
  · rename_i ti hti
    split at h
    · rename_i e' hd
      split at h
      · rename_i te' hte
        cases hk : te'.tok with
        | false => rw [hk] at h; cases h
        | true =>
          rw [hk] at h
          simp only [cond_true, Option.some.injEq, Prod.mk.injEq] at h
          obtain ⟨rfl, rfl⟩ := h
          exact ⟨(hT _ _ hti).slice hd, hT _ _ hte, hk⟩
      · cases h
    · cases h
  · cases h

theorem ok_move (hd : ∀ d, o.dst = some d → d < C.n) {x : Operand} (ho : o.op = .move x ∨ o.op = .assign x) : OpOK C o st (evalO st x) [] :=
  .pure hd fun I ρ a w hs => ⟨a.eval x, by rcases ho with ho | ho <;> simp [execOp, ho] <;> rfl, (hs.eval x).1, (hs.eval x).2⟩

theorem ok_pick (hd : ∀ d, o.dst = some d → d < C.n) {c x y : Operand} (ho : o.op = .pick c x y) {b : Bool} (hc : evalO st c = .sc (.bool b)) : OpOK C o st (if b then evalO st x else evalO st y) [] :=
  .pure hd fun I ρ a w hs => by
    have h1 := (hs.eval c).1
    rw [hc] at h1
    have h2 : a.eval c = .bool b := h1
    refine ⟨if b then a.eval x else a.eval y, ?_, ?_, ?_⟩
    · simp [execOp, ho, h2, asBool]
    · cases b
      · exact (hs.eval y).1
      · exact (hs.eval x).1
    · cases b
      · exact (hs.eval y).2
      · exact (hs.eval x).2

theorem mkAV_rep {I : Imm} {w : World} {ρ : Nat → Value} {b : Bool} {cs : List SV} {v : AV} {vs : List Value} (h : mkAV b cs = some v) (hr : All2 (SRep I w ρ) cs vs) :
    AVRep I w ρ v (if b then .agg vs.toArray else vs.headD undef) ∧ ∀ id ∈ refsAV v, ∃ s ∈ cs, id ∈ refs s := by
  unfold mkAV at h
  cases b with
  | true =>
    simp only [cond_true, Option.some.injEq] at h
    subst h
    exact ⟨⟨vs.toArray, rfl, by simpa using hr⟩, fun id hid => by simpa [refsAV] using hid⟩
  | false =>
    simp only [cond_false] at h
    split at h
    · rename_i s
      injection h with h
      subst h
      match vs, hr with
      | [u], hr => exact ⟨SRep.av hr.1, fun id hid => ⟨s, by simp, hid⟩⟩
    · cases h

theorem ok_load (hd : ∀ d, o.dst = some d → d < C.n) {TAB : TypeId → Option TI} (hT : TabOK C.P TAB) {t : TypeId} {x : Operand} (ho : o.op = .load t x) {ti : TI} (ht : TAB t = some ti) {s : SV} (hx : evalO st x = .sc s)
    {cs : List SV} (hl : loadCellsA st s ti.size = some cs) {v : AV} (hv : mkAV ti.agg cs = some v) : OpOK C o st v [] :=
  .pure hd fun I ρ a w hs => by
    have h1 := (hs.eval x).1
    rw [hx] at h1
    have hne : s ≠ .undef := by intro e; subst e; simp [loadCellsA] at hl
    obtain ⟨ad, vs, he, hlen, hrep, hcell, hrf⟩ := hs.cells hl (h1.sc hne)
    obtain ⟨h2, h3⟩ := mkAV_rep hv hrep
    have hti := hT t ti ht
    refine ⟨_, ?_, h2, fun id hid => by obtain ⟨s, hs', hi⟩ := h3 id hid; exact hrf s hs' id hi⟩
    have hlc := run_loadCells_list (P := C.P) w ad vs hcell
    rw [hlen] at hlc
    simp only [execOp, ho, Instr.loadAt, he, Instr.sureAddr, loadVar]
    simp only [Sem.run_bind, Sem.run_pure, Result.andThen_ok, hti.agg, hti.size]
    cases hag : ti.agg with
    | true => simp [hti.size, hlc]
    | false =>
      rw [hag] at hv
      simp only [mkAV, cond_false] at hv
      split at hv
      · match vs, hrep, hcell with
        | [u], _, hcell =>
          have := hcell 0 u (by simp)
          have h0 : ad.add 0 = ad := by simp [Addr.add]
          rw [h0] at this
          simp [this]
      · cases hv

theorem eqGuard_int (P : Program) (op : BinOp) (t : TypeId) (x y : Operand) (k k' : IntKind) (a b : Int) (w : World) : (eqGuard op t x y (.int k a) (.int k' b)).run P w = .ok () w := by
  unfold eqGuard
  simp only [Sem.run_bind]
  split <;> rfl
theorem eqGuard_agg (P : Program) (op : BinOp) (t : TypeId) (x y : Operand) (a b : Array Value) (w : World) (h : P.eqGuardType P.depth t = false) : (eqGuard op t x y (.agg a) (.agg b)).run P w = .ok () w := by
  unfold eqGuard
  simp only [Sem.run_bind]
  split <;> simp [h]

theorem rep_zval {I : Imm} {w : World} {ρ : Nat → Value} : ∀ (ts : List Ty) (xs ys : List SV) (c : Bool) (vs us : List Value), sameCells ts xs ys = some c → All2 (SRep I w ρ) xs vs → All2 (SRep I w ρ) ys us → vs = xs.map zval ∧ us = ys.map zval
  | [], [], [], c, [], [], h, _, _ => ⟨rfl, rfl⟩
  | .int k :: ts, .int k1 a :: xs, .int k2 b :: ys, c, v :: vs, u :: us, h, ⟨h1, h2⟩, ⟨h3, h4⟩ => by
    simp only [sameCells] at h
    split at h
    · rename_i c' h5 h6 h7
      obtain ⟨e1, e2⟩ := rep_zval ts xs ys _ vs us h7 h2 h4
      simp only [SRep] at h1 h3
      simp [h1, h3, e1, e2, zval]
    · cases h
  | .bool :: ts, .bool a :: xs, .bool b :: ys, c, v :: vs, u :: us, h, ⟨h1, h2⟩, ⟨h3, h4⟩ => by
    simp only [sameCells] at h
    split at h
    · rename_i c' h7
      obtain ⟨e1, e2⟩ := rep_zval ts xs ys _ vs us h7 h2 h4
      simp only [SRep] at h1 h3
      simp [h1, h3, e1, e2, zval]
    · cases h

theorem ok_bin (hd : ∀ d, o.dst = some d → d < C.n) {EQ : TypeId → Option (List Ty)} (hQ : EqOK C.P EQ) {op : BinOp} {xt yt : TypeId} {x y : Operand} (ho : o.op = .binOp op xt x y yt) {v : AV}
    (h : binK EQ op xt (evalO st x) (evalO st y) (fun v => some v) = some v) : OpOK C o st v [] :=
  .pure hd fun I ρ a w hs => by
    have h1 := (hs.eval x).1
    have h2 := (hs.eval y).1
    have he : ∀ (r : Value), (eqGuard op xt x y (a.eval x) (a.eval y)).run C.P w = .ok () w → (binOp op xt (a.eval x) (a.eval y)).run C.P w = .ok r w → (execOp a.eval o).run C.P w = .ok (.value r) w := fun r hg hr => by
      simp [execOp, ho, hg, hr]
    unfold binK at h
    simp only [cond_eq_ite] at h
    split at h
    · rename_i k n k' m e1 e2
      rw [e1] at h1
      rw [e2] at h2
      have h3 : a.eval x = .int k n := h1
      have h4 : a.eval y = .int k' m := h2
      rw [h3, h4] at he
      have hg := eqGuard_int C.P op xt x y k k' n m w
      split at h
      · split at h
        · cases h
        · rename_i hn
          injection h with h
          subst h
          refine ⟨_, he _ hg ?_, rfl, by simp [refsAV, refs]⟩
          simp only [decide_eq_true_eq] at hn
          simp [binOp, Op.shift, hn]
      · split at h
        · cases h
        · rename_i hn
          injection h with h
          subst h
          refine ⟨_, he _ hg ?_, rfl, by simp [refsAV, refs]⟩
          simp only [decide_eq_true_eq] at hn
          simp [binOp, Op.shift, hn]
      · split at h
        · rename_i hk
          simp only [decide_eq_true_eq] at hk
          subst hk
          split at h
          · injection h with h; subst h; exact ⟨_, he _ hg (by simp [binOp, Op.intArith]), rfl, by simp [refsAV, refs]⟩
          · injection h with h; subst h; exact ⟨_, he _ hg (by simp [binOp, Op.intArith]), rfl, by simp [refsAV, refs]⟩
          · injection h with h; subst h; exact ⟨_, he _ hg (by simp [binOp, Op.intArith]), rfl, by simp [refsAV, refs]⟩
          · split at h
            · cases h
            · rename_i hn
              have hn' : ¬ m = 0 := by simpa using hn
              injection h with h; subst h; exact ⟨_, he _ hg (by simp [binOp, Op.intDiv, hn']), rfl, by simp [refsAV, refs]⟩
          · split at h
            · cases h
            · rename_i hn
              have hn' : ¬ m = 0 := by simpa using hn
              injection h with h; subst h; exact ⟨_, he _ hg (by simp [binOp, Op.intDiv, hn']), rfl, by simp [refsAV, refs]⟩
          · split at h
            · rename_i c hc; simp only [bitsOf, Option.some.injEq] at hc; injection h with h; subst h; subst hc; exact ⟨_, he _ hg (by simp [binOp, Op.intBits]), rfl, by simp [refsAV, refs]⟩
            · cases h
          · split at h
            · rename_i c hc; simp only [bitsOf, Option.some.injEq] at hc; injection h with h; subst h; subst hc; exact ⟨_, he _ hg (by simp [binOp, Op.intBits]), rfl, by simp [refsAV, refs]⟩
            · cases h
          · split at h
            · rename_i c hc; simp only [bitsOf, Option.some.injEq] at hc; injection h with h; subst h; subst hc; exact ⟨_, he _ hg (by simp [binOp, Op.intBits]), rfl, by simp [refsAV, refs]⟩
            · cases h
          · split at h
            · rename_i c hc
              injection h with h
              subst h
              refine ⟨_, he _ hg ?_, rfl, by simp [refsAV, refs]⟩
              unfold cmpOf at hc
              split at hc <;> first | (cases hc; done) | (injection hc with hc; subst hc; unfold binOp; simp [Op.intCmp])
            · cases h
        · cases h
    · rename_i b c e1 e2
      rw [e1] at h1
      rw [e2] at h2
      have h3 : a.eval x = .bool b := h1
      have h4 : a.eval y = .bool c := h2
      rw [h3, h4] at he
      have hg : (eqGuard op xt x y (.bool b) (.bool c)).run C.P w = .ok () w := by
        unfold eqGuard
        simp only [Sem.run_bind]
        split <;> rfl
      split at h
      · rename_i hts
        have hu := (hQ _ _ hts).1 rfl
        have heq : (Op.equal xt (.bool b) (.bool c)).run C.P w = .ok (b == c) w := by
          have key : ∀ n, (Op.equalIn (n + 1) xt (.bool b) (.bool c)).run C.P w = .ok (b == c) w := fun n => by
            simp only [Op.equalIn, Sem.run_bind, run_underlying hu, Result.andThen_ok, Sem.run_pure]
          exact key 9999
        split at h
        · injection h with h; subst h; exact ⟨_, he _ hg (by simp [binOp, heq]), rfl, by simp [refsAV, refs]⟩
        · injection h with h; subst h; exact ⟨_, he _ hg (by simp [binOp, heq]; cases b <;> cases c <;> rfl), rfl, by simp [refsAV, refs]⟩
        · cases h
      · cases h
    · rename_i xs ys e1 e2
      rw [e1] at h1
      rw [e2] at h2
      obtain ⟨vs, h3, h5⟩ := h1
      obtain ⟨us, h4, h6⟩ := h2
      rw [h3, h4] at he
      split at h
      · rename_i t0 ts hts
        obtain ⟨hq1, hq2⟩ := (hQ _ _ hts).2 (by simp)
        have hg := eqGuard_agg C.P op xt x y vs us w hq1
        split at h
        · split at h
          · rename_i c hc
            injection h with h
            subst h
            obtain ⟨f1, f2⟩ := rep_zval _ _ _ _ _ _ hc h5 h6
            refine ⟨_, he _ hg ?_, rfl, by simp [refsAV, refs]⟩
            have := hq2 _ _ c w hc
            rw [← f1, ← f2] at this
            simp only [Array.toArray_toList] at this
            simp [binOp, this]
          · cases h
        · split at h
          · rename_i c hc
            injection h with h
            subst h
            obtain ⟨f1, f2⟩ := rep_zval _ _ _ _ _ _ hc h5 h6
            refine ⟨_, he _ hg ?_, rfl, by simp [refsAV, refs]⟩
            have := hq2 _ _ c w hc
            rw [← f1, ← f2] at this
            simp only [Array.toArray_toList] at this
            simp [binOp, this]
          · cases h
        · cases h
      · cases h
    · cases h
end
end Go.Pev
