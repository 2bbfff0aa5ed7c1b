/- The contract of the function that carries out a command: the look into the map of rules by hand, the rest by the evaluator. -/
import Derived.Test.YtbfkfobfhjgphaaGreatFnCS
import Derived.Test.YtbfkfobfhjgphaaGreatPevC123
set_option linter.unusedVariables false
set_option linter.unusedSimpArgs false
namespace Go.Pev
open Go
theorem ov_step {P : Program} {ops : Array Oper} {i n : Nat} {o : Oper} {Q : Exit → Act → World → Prop} {a : Act} {w : World} (ho : ops[i]? = some o) (hg : o.guard = none) (h : o.wp P a w (fun a' w' => wpOps P ops Q (List.range' (i + 1) n) a' w') Q) : wpOps P ops Q (List.range' i (n + 1)) a w := by
  rw [List.range'_succ, wpOps_cons]
  unfold wpOp
  rw [ho]
  have : Region.wanted o (yielded ops a.tmps) = true := by simp [Region.wanted, hg]
  simp only [this, if_true]
  exact .inl h
theorem ov_val {P : Program} {ops : Array Oper} {i n : Nat} {o : Oper} {Q : Exit → Act → World → Prop} {a : Act} {w w' : World} {x : Value} (ho : ops[i]? = some o) (hg : o.guard = none) (hr : (execOp a.eval o).run P w = .ok (.value x) w') (h : wpOps P ops Q (List.range' (i + 1) n) (a.put o.dst x) w') : wpOps P ops Q (List.range' i (n + 1)) a w :=
  ov_step ho hg (wp_value hr h)
theorem ov_call {P : Program} {ops : Array Oper} {i n : Nat} {o : Oper} {Q : Exit → Act → World → Prop} {a : Act} {w : World} (ho : ops[i]? = some o) (hg : o.guard = none) {f : FuncId} {args : Array Value} {R : Ending → World → Prop} (hr : (execOp a.eval o).run P w = (callFunc f args).run P w) (he : (callFunc f args).run P w = .ok (.enter f args) w)
    (hc : Calls P f args w R) (h : ∀ e w', R e w' → ∃ v, e = .returned v ∧ wpOps P ops Q (List.range' (i + 1) n) (a.put o.dst v) w') : wpOps P ops Q (List.range' i (n + 1)) a w := by
  refine ov_step ho hg ?_
  unfold Oper.wp
  rw [hr, he, Oper.upon_enter]
  refine hc.mono ?_
  intro e w' hR
  obtain ⟨v, rfl, h'⟩ := h e w' hR
  exact h'
/-- a row of whole numbers that is not written any more, as a view -/
theorem crep_ints {I : Imm} {w : World} {k : IntKind} {xs : List Int} {T : TypeId} {g : Nat} (hg : w.heap[g]? = some (.cells (xs.map (Value.int k)).toArray T (0, 0))) (hI : ∀ j, j < xs.length → I g j) : CRep I w (.sl (.int k)) xs [.slice (some ⟨g, 0, none⟩) xs.length xs.length] := by
  refine ⟨some ⟨g, 0, none⟩, xs.length, rfl, Nat.le_refl _, fun i hi => ⟨⟨g, 0, none⟩, [.int k xs[i]], rfl, rfl, fun j u hj => ?_⟩⟩
  cases j with
  | succ j => simp at hj
  | zero =>
    have hj' : Value.int k xs[i] = u := by simpa using hj
    subst hj'
    rw [add_blk]
    show I g (i * 1 + 0) ∧ _
    rw [Nat.mul_one, Nat.add_zero]
    refine ⟨hI i hi, ?_⟩
    simp only [World.cell?, hg]
    simp [Ty.size, hi]
/-- The world behind a call that only made blocks. -/
theorem Sim.wider {C : Ctx} {I : Imm} {ρ : Nat → Value} {st : AS} {a : Act} {w w' : World} (h : Sim C I ρ st a w) (hold : ∀ j, j < w.heap.size → w'.heap[j]? = w.heap[j]?) (hsz : w.heap.size ≤ w'.heap.size) (hos : w'.os = w.os) (htape : w'.tape = w.tape) (hout : w'.output = w.output) : Sim C I ρ st a w' :=
  h.evolve (fun _ _ h => h) (fun p u hI hc => by
      have hlt := h.immIn _ _ hI
      unfold World.cell? at hc ⊢
      rw [hold _ hlt]; exact hc) (fun id g hg => ⟨hold g (bk_lt h hg), fun _ => Iff.rfl⟩) h.immNew (fun b o hb => Nat.lt_of_lt_of_le (h.immIn b o hb) hsz) hsz (fun i hi _ => hold i (Nat.lt_of_lt_of_le hi h.size)) hos htape hout
end Go.Pev
namespace Go.Proofs.YtbfkfobfhjgphaaGreat.Fn
open Go Go.Pev Go.Proofs

noncomputable def o28 (i : Nat) : Oper := ops28_1[i]?.getD { dst := none, op := .move (.tmp 0), type := 0, pos := "", after := #[], guard := none }
theorem u176 : Tryz.prog.underlying 176 = some (.map 3 174) := by kernel_rfl
theorem u3 : Tryz.prog.underlying 3 = some (.int .i64) := by kernel_rfl
theorem size28 : ops28_1.size = 9 := by kernel_rfl
theorem code28_eq : code28 = .seq reg28_0 (.seq (.region 1 ops28_1 false) rest28) := by kernel_rfl

set_option maxHeartbeats 4000000 in
/-- from the state behind the look into the map on -/
theorem behind28 (k : Nat) {C : Ctx} (hP : C.P = Tryz.prog) (hn : C.n = Tryz.f28.ntmps) {x : argsI sig28.args} {v13 : AV} {b : Bool} {us : List (Nat × Blk)} {r : sig28.R} {Q : Exit → Act → World → Prop}
    (hrun : regK tab eqs (env28 k) ops28_1 (ops28_1.toList.drop 6) (look28 x v13 b us) (fun st => pevK tab eqs (env28 k) (fun _ _ _ => none) (fun _ => ⟨[], [], []⟩) rest28 st (finish tab Tryz.f28 sig28)) = some r)
    {I : Imm} {ρ : Nat → Value} {a : Act} {w : World} (hs : Sim C I ρ (look28 x v13 b us) a w)
    (hk : ∀ e st' I' ρ' a' w', finish tab Tryz.f28 sig28 e st' = some r → Sim C I' ρ' st' a' w' → Q e.conc a' w') :
    wpOps Tryz.prog ops28_1 (Exit.then (rest28.wp Tryz.prog Q) Q) (List.range' 6 3) a w := by
  obtain ⟨P, w0, I0, F, n, Z, hZ⟩ := C
  change P = Tryz.prog at hP
  change n = Tryz.f28.ntmps at hn
  subst hP
  subst hn
  have hd : ∀ o ∈ ops28_1.toList, ∀ d, o.dst = some d → d < Tryz.f28.ntmps := by
    have : (ops28_1.toList.all fun o => match o.dst with | some d => Nat.blt d Tryz.f28.ntmps | none => true) = true := by kernel_rfl
    intro o ho d hd
    have := List.all_eq_true.1 this o ho
    rw [hd] at this
    simpa [Nat.blt_eq] using this
  have hlen : (ops28_1.toList.drop 6).length = 3 := by rw [List.length_drop, Array.length_toList, size28]
  rw [← hlen]
  refine regK_sound (Q := Exit.then (rest28.wp Tryz.prog Q) Q) (C := ⟨Tryz.prog, w0, I0, F, Tryz.f28.ntmps, Z, hZ⟩) tab_ok eq_ok (envok28 k) hd (ops28_1.toList.drop 6) 6 (fun j => by simp) _ _ hrun hs ?_
  intro st' I' ρ' a' w' hK hs'
  show rest28.wp Tryz.prog Q a' w'
  exact pevK_sound (C := ⟨Tryz.prog, w0, I0, F, Tryz.f28.ntmps, Z, hZ⟩) (MX := fun _ _ => ⟨[], [], []⟩) (fuel := 0) hmix tab_ok eq_ok (envok28 k) rest28 (by kernel_rfl) (loops_of (show ∀ b ∈ loopBodies rest28, _ from (show loopBodies rest28 = [] by kernel_rfl) ▸ loops_nil)) st' _ r Q hK I' ρ' a' w' hs' hk

theorem rules_mem {s : RuleS} (h : s ∈ rulesL) : s = (1, [1, 2], 222, some 3) ∨ s = (2, [3], 222, some 4) ∨ s = (3, [4], 222, some 3) ∨ s = (4, [2, 3, 4], 222, some 5) ∨ s = (5, [1, 2, 3, 4, 5], 223, some 6) ∨ s = (6, [1, 2, 3, 4, 5, 6], 223, some 7) ∨ s = (7, [1, 2, 3, 4], 168, none) := by
  simpa [rulesL] using h

def lookV (s : RuleS) : AV := .agg [.view (.int .i64) s.2.1, .clo s.2.2.1 (match s.2.2.2 with | some _ => [100012] | none => [])]
def lookU (s : RuleS) : List (Nat × Blk) := match s.2.2.2 with | some n => [(100012, .box [.int .i64 n])] | none => []
def Out (cmd : Int) (v13 : AV) (b : Bool) (us : List (Nat × Blk)) : Prop :=
  (b = false ∧ v13 = .agg [.nilsl, .undef] ∧ us = [] ∧ ∀ s ∈ rulesL, s.1 ≠ cmd) ∨ ∃ s ∈ rulesL, s.1 = cmd ∧ b = true ∧ v13 = lookV s ∧ us = lookU s
theorem ops_at {i : Nat} (hi : i < 9) : ops28_1[i]? = some (o28 i) := by
  have h : i < ops28_1.size := by rw [size28]; exact hi
  unfold o28
  rw [Array.getElem?_eq_getElem h]
  rfl
theorem e94 (w : World) : (callFunc 94 #[]).run Tryz.prog w = .ok (.enter 94 #[]) w := by simp [callFunc, Tryz.func94, Tryz.f94, Sem.run_bind]
theorem zero174 (w : World) : (zeroValue 174).run Tryz.prog w = .ok (.agg #[.slice none 0 0, Value.nilFunc]) w := by kernel_rfl
set_option maxHeartbeats 4000000 in
theorem look28_ok {C : Ctx} (hn : C.n = Tryz.f28.ntmps) {x : argsI sig28.args} {I : Imm} {ρ : Nat → Value} {a : Act} {w : World} (hs : Sim C I ρ (st28 x) a w) {Q : Exit → Act → World → Prop}
    (hk : ∀ v13 b us I' ρ' a' w', Out x.2 v13 b us → Sim C I' ρ' (look28 x v13 b us) a' w' → wpOps Tryz.prog ops28_1 Q (List.range' 6 3) a' w') : wpOps Tryz.prog ops28_1 Q (List.range' 0 9) a w := by
  have d80 : ∀ d, d < 80 → d < C.n := fun d hd => by rw [hn]; exact hd
  have hd : ∀ (i d : Nat), d < 80 → ∀ e, some d = some e → e < C.n := fun i d h e he => by injection he with he; subst he; exact d80 d h
  have g1 : a.eval (.tmp 1) = .int .i64 x.2 := (hs.tmps 1)
  refine ov_call (ops_at (by decide)) (by kernel_rfl) (by kernel_rfl : (execOp a.eval (o28 0)).run Tryz.prog w = (callFunc 94 #[]).run Tryz.prog w) (e94 w) (rules_calls w) ?_
  rintro e w2 ⟨B, es, clock, rfl, hR⟩
  refine ⟨_, rfl, ?_⟩
  have hs1 := hs.wider hR.old hR.size hR.os hR.tape hR.output
  have p0 : (o28 0).dst = some 10 := by kernel_rfl
  rw [p0]
  have hs2 := hs1.put (dst := some 10) (hd 0 10 (by decide)) (v := .sc .undef) (x := .map (some B)) trivial (by simp [refsAV, refs])
  have f10 : ∀ t, (a.put (some 10) (.map (some B))).tmps.getD t undef = if t = 10 then .map (some B) else a.tmps.getD t undef := fun t => getD_put a 10 t _ (by rw [hs1.frame]; exact d80 10 (by decide))
  have g1' : (a.put (some 10) (.map (some B))).eval (.tmp 1) = .int .i64 x.2 := (f10 1).trans g1
  have g10 : (a.put (some 10) (.map (some B))).eval (.tmp 10) = .map (some B) := f10 10
  obtain ⟨a2, ha2⟩ : ∃ a2, a2 = a.put (some 10) (.map (some B)) := ⟨_, rfl⟩
  rw [← ha2] at hs2 g1' g10 ⊢
  clear f10
  refine ov_val (ops_at (by decide)) (by kernel_rfl) (x := a2.eval (.tmp 1)) (w' := w2) (by kernel_rfl) ?_
  have p1 : (o28 1).dst = some 11 := by kernel_rfl
  rw [p1, g1']
  have hs3 := hs2.put (dst := some 11) (hd 0 11 (by decide)) (v := .sc (.int .i64 x.2)) (x := .int .i64 x.2) rfl (by simp [refsAV, refs])
  have f11 : ∀ t, (a2.put (some 11) (.int .i64 x.2)).tmps.getD t undef = if t = 11 then .int .i64 x.2 else a2.tmps.getD t undef := fun t => getD_put a2 11 t _ (by rw [hs2.frame]; exact d80 11 (by decide))
  have k10 : (a2.put (some 11) (.int .i64 x.2)).eval (.tmp 10) = .map (some B) := (f11 10).trans g10
  have k11 : (a2.put (some 11) (.int .i64 x.2)).eval (.tmp 11) = .int .i64 x.2 := f11 11
  obtain ⟨a3, ha3⟩ : ∃ a3, a3 = a2.put (some 11) (.int .i64 x.2) := ⟨_, rfl⟩
  rw [← ha3] at hs3 k10 k11 ⊢
  clear f11
  have hlook : ∀ (v : Value) (b : Bool), (Instr.lookup 176 (.map (some B)) (.int .i64 x.2) true).run Tryz.prog w2 = .ok (.tuple #[v, .bool b]) w2 →
      (∀ a' , Sim C I ρ (((((st28 x).apply (some 10) (.sc .undef) []).apply (some 11) (.sc (.int .i64 x.2)) []).apply (some 12) (.sc .undef) []).apply (some 9) (.sc .undef) []) a' w2 → 
        wpOps Tryz.prog ops28_1 Q (List.range' 6 3) ((a'.put (some 13) v).put (some 14) (.bool b)) w2) → wpOps Tryz.prog ops28_1 Q (List.range' 2 7) a3 w2 := by
    intro v b hl hgo
    refine ov_val (ops_at (by decide)) (by kernel_rfl) (x := .tuple #[v, .bool b]) (w' := w2) ?_ ?_
    · have : (execOp a3.eval (o28 2)).run Tryz.prog w2 = (do let v ← Instr.lookup 176 (a3.eval (.tmp 10)) (a3.eval (.tmp 11)) true; pure (Next.value v) : Sem Next).run Tryz.prog w2 := by kernel_rfl
      rw [this, k10, k11]
      simp only [Sem.run_bind, hl, Result.andThen_ok, Sem.run_pure]
    have p2 : (o28 2).dst = some 12 := by kernel_rfl
    rw [p2]
    have hs4 := hs3.put (dst := some 12) (hd 0 12 (by decide)) (v := .sc .undef) (x := .tuple #[v, .bool b]) trivial (by simp [refsAV, refs])
    have f12 : (a3.put (some 12) (.tuple #[v, .bool b])).eval (.tmp 12) = .tuple #[v, .bool b] := by
      have := getD_put a3 12 12 (.tuple #[v, .bool b]) (by rw [hs3.frame]; exact d80 12 (by decide))
      rw [if_pos rfl] at this; exact this
    obtain ⟨a4, ha4⟩ : ∃ a4, a4 = a3.put (some 12) (.tuple #[v, .bool b]) := ⟨_, rfl⟩
    rw [← ha4] at hs4 f12 ⊢
    refine ov_val (ops_at (by decide)) (by kernel_rfl) (x := a4.eval (.tmp 12)) (w' := w2) (by kernel_rfl) ?_
    have p3 : (o28 3).dst = some 9 := by kernel_rfl
    rw [p3, f12]
    have hs5 := hs4.put (dst := some 9) (hd 0 9 (by decide)) (v := .sc .undef) (x := .tuple #[v, .bool b]) trivial (by simp [refsAV, refs])
    have f9 : (a4.put (some 9) (.tuple #[v, .bool b])).eval (.tmp 9) = .tuple #[v, .bool b] := by
      have := getD_put a4 9 9 (.tuple #[v, .bool b]) (by rw [hs4.frame]; exact d80 9 (by decide))
      rw [if_pos rfl] at this; exact this
    obtain ⟨a5, ha5⟩ : ∃ a5, a5 = a4.put (some 9) (.tuple #[v, .bool b]) := ⟨_, rfl⟩
    rw [← ha5] at hs5 f9 ⊢
    refine ov_val (ops_at (by decide)) (by kernel_rfl) (x := v) (w' := w2) ?_ ?_
    · have : (execOp a5.eval (o28 4)).run Tryz.prog w2 = (do pure (Next.value (← Instr.extract (a5.eval (.tmp 9)) 0)) : Sem Next).run Tryz.prog w2 := by kernel_rfl
      rw [this, f9]
      rfl
    have p4 : (o28 4).dst = some 13 := by kernel_rfl
    rw [p4]
    have f9' : (a5.put (some 13) v).eval (.tmp 9) = .tuple #[v, .bool b] := by
      have := getD_put a5 13 9 v (by rw [hs5.frame]; exact d80 13 (by decide))
      rw [if_neg (by decide)] at this; exact this.trans f9
    refine ov_val (ops_at (by decide)) (by kernel_rfl) (x := .bool b) (w' := w2) ?_ ?_
    · have : (execOp (a5.put (some 13) v).eval (o28 5)).run Tryz.prog w2 = (do pure (Next.value (← Instr.extract ((a5.put (some 13) v).eval (.tmp 9)) 1)) : Sem Next).run Tryz.prog w2 := by kernel_rfl
      rw [this, f9']
      rfl
    have p5 : (o28 5).dst = some 14 := by kernel_rfl
    rw [p5]
    exact hgo a5 hs5
  rcases find_rules (w := w2) (B := B) x.2 es.toList rulesL 0 hR.ents with ⟨hno, hf⟩ | ⟨j, en, s, hm, hkey, hE, hf⟩
  · refine hlook _ false (run_missing w2 176 3 174 u176 u3 B es clock hR.map x.2 _ (zero174 w2) hf) ?_
    intro a' hs'
    have h6 := hs'.put (dst := some 13) (hd 0 13 (by decide)) (v := .agg [.nilsl, .undef]) (x := .agg #[.slice none 0 0, Value.nilFunc]) ⟨_, rfl, rfl, by rfl, trivial⟩ (by simp [refsAV, refs])
    have h7 := h6.put (dst := some 14) (hd 0 14 (by decide)) (v := .sc (.bool false)) (x := .bool false) rfl (by simp [refsAV, refs])
    exact hk _ _ _ _ _ _ _ (.inl ⟨rfl, rfl, rfl, hno⟩) h7
  · obtain ⟨hk1, g, fv, hv, hg0, hgB, hg, hc⟩ := hE
    refine hlook en.val true (run_found w2 176 3 174 u176 u3 B es clock hR.map x.2 j en.val hf) ?_
    intro a' hs'
    rw [hv]
    have hgl : g < w2.heap.size := (Array.getElem?_eq_some_iff.1 hg).1
    have hI' : ∀ b o, I b o → b < w.heap.size := hs.immIn
    obtain ⟨I', hI'd⟩ : ∃ I' : Imm, I' = fun b o => I b o ∨ (b = g ∧ o < s.2.1.length) := ⟨_, rfl⟩
    have hlt : ∀ id g', bk ρ id ((st28 x).H id) = some g' → g' < w.heap.size := fun id g' h => bk_lt hs h
    have h5 : Sim C I' ρ (((((st28 x).apply (some 10) (.sc .undef) []).apply (some 11) (.sc (.int .i64 x.2)) []).apply (some 12) (.sc .undef) []).apply (some 9) (.sc .undef) []) a' w2 := by
      refine hs'.evolve (fun b o h => by rw [hI'd]; exact .inl h) (fun _ _ _ h => h) (fun id g' h => ⟨rfl, fun o => ?_⟩) (fun b o h => ?_) (fun b o h => ?_) (Nat.le_refl _) (fun _ _ _ => rfl) rfl rfl rfl
      · have := hlt id g' h
        rw [hI'd]
        constructor
        · rintro (h | ⟨h, _⟩)
          · exact h
          · omega
        · exact .inl
      · rw [hI'd] at h
        rcases h with h | ⟨h, _⟩
        · exact hs.immNew b o h
        · have := hs.size; exact .inr (by omega)
      · rw [hI'd] at h
        rcases h with h | ⟨h, _⟩
        · have := hI' b o h; have := hR.size; omega
        · omega
    have hcr : CRep I' w2 (.sl (.int .i64)) s.2.1 [.slice (some ⟨g, 0, none⟩) s.2.1.length s.2.1.length] := crep_ints hg (fun j hj => by rw [hI'd]; exact .inr ⟨rfl, hj⟩)
    cases hcase : s.2.2.2 with
    | none =>
      rw [hcase] at hc
      have h6 := h5.put (dst := some 13) (hd 0 13 (by decide)) (v := lookV s) (x := .agg #[.slice (some ⟨g, 0, none⟩) s.2.1.length s.2.1.length, fv]) ⟨_, rfl, hcr, by rw [hcase]; exact hc, trivial⟩ (by simp [lookV, hcase, refsAV, refs])
      have h7 := h6.put (dst := some 14) (hd 0 14 (by decide)) (v := .sc (.bool true)) (x := .bool true) rfl (by simp [refsAV, refs])
      refine hk (lookV s) true [] _ _ _ _ (.inr ⟨s, hm, hkey, rfl, rfl, ?_⟩) h7
      unfold lookU; rw [hcase]
    | some n =>
      rw [hcase] at hc
      obtain ⟨b, hfv, hb0, hbB, hbg, hb⟩ := hc
      have hnone : ((((((st28 x).apply (some 10) (.sc .undef) []).apply (some 11) (.sc (.int .i64 x.2)) []).apply (some 12) (.sc .undef) []).apply (some 9) (.sc .undef) []) : AS).H 100012 = .none := rfl
      have h5' := h5.new (id := 100012) hnone (C.z_ge (by decide)) (V := boxV b) (b := .box [.int .i64 n]) ⟨b, by rw [upd_same], #[.int .i64 n], 3, hb, ⟨rfl, trivial⟩, fun o h => ?_⟩ (fun j g' h => ?_) (fun g' h => ?_) (by intro cs hcs s hs; injection hcs with hcs; subst hcs; simp at hs; subst hs; simp [refs]) (by simp)
      · have hpv : ptrV (upd ρ 100012 (boxV b)) 100012 = .pointer (some ⟨b, 0, none⟩) := by simp [ptrV, bl, upd_same, boxV, Value.ownBlock]
        have h6 := h5'.put (dst := some 13) (hd 0 13 (by decide)) (v := lookV s) (x := .agg #[.slice (some ⟨g, 0, none⟩) s.2.1.length s.2.1.length, fv]) ⟨_, rfl, hcr, by rw [hcase]; show fv = _; rw [hfv]; simp [hpv], trivial⟩ (by
          intro id hid
          simp only [lookV, hcase, refsAV, List.flatMap_cons, List.flatMap_nil, refs, List.append_nil, List.nil_append, List.mem_singleton] at hid
          subst hid
          show upd (st28 x).H 100012 (.box [.int .i64 n]) 100012 ≠ .none
          rw [upd_same]; simp)
        have h7 := h6.put (dst := some 14) (hd 0 14 (by decide)) (v := .sc (.bool true)) (x := .bool true) rfl (by simp [refsAV, refs])
        refine hk (lookV s) true [(100012, .box [.int .i64 n])] _ _ _ _ (.inr ⟨s, hm, hkey, rfl, rfl, ?_⟩) h7
        unfold lookU; rw [hcase]
      · rw [hI'd] at h
        rcases h with h | ⟨h, _⟩
        · have := hI' b o h; omega
        · omega
      · have h1 := hlt j g' h
        simp only [boxV, Value.ownBlock, Option.some.injEq, ne_eq]
        omega
      · simp only [boxV, Value.ownBlock, Option.some.injEq] at h
        have := hs.size
        exact .inl (by omega)

set_option maxHeartbeats 4000000 in
theorem ok28 (k : Nat) : FnOK Tryz.prog 28 (spec28 k) := by
  intro x r xs hx hd w I vs Bs hin hr hn
  have hsig : sigOK Tryz.f28.ntmps sig28 = true := by kernel_rfl
  obtain ⟨s1, s2, s3, s4⟩ := sigOK_spec hsig
  have hstart := sim_start Tryz.prog hin Tryz.f28.ntmps sig28 hsig xs x vs Bs hd hr hn
  have hlen : (boxIdsFrom 0 sig28.args).length = Bs.length := by
    obtain ⟨h1, _, h3, _⟩ := args_start hin 0 sig28.args xs x vs Bs hd hr
    rw [← h3, List.length_map]
    exact All2.length _ _ h1
  refine .inl ⟨by simp [callFunc, Tryz.func28, Tryz.f28, Sem.run_bind], ?_⟩
  refine calls_of_wp Tryz.func28 (c := code28) (by kernel_rfl) ?_
  rw [code28_eq]
  refine wp_seq (pevK_sound (C := startC Tryz.prog w I Tryz.f28.ntmps sig28 Bs hsig) (MX := fun _ _ => ⟨[], [], []⟩) (fuel := 0) hmix tab_ok eq_ok (envok28 k) reg28_0 (by kernel_rfl) (loops_of (show ∀ b ∈ loopBodies reg28_0, _ from (show loopBodies reg28_0 = [] by kernel_rfl) ▸ loops_nil)) (startAS sig28.args x) _ (st28 x) _ (run28_r k x) I _ _ w hstart ?_)
  intro e st' I' ρ' a' w' hK hs'
  cases e with
  | exit j => cases hK
  | ret => cases hK
  | normal =>
    injection hK with hK
    subst hK
    refine wp_seq (wp_region ?_)
    rw [size28, List.range_eq_range']
    refine look28_ok rfl hs' ?_
    intro v13 b us I2 ρ2 a2 w2 hout hs2
    have hrun : regK tab eqs (env28 k) ops28_1 (ops28_1.toList.drop 6) (look28 x v13 b us) (fun st => pevK tab eqs (env28 k) (fun _ _ _ => none) (fun _ => ⟨[], [], []⟩) rest28 st (finish tab Tryz.f28 sig28)) = some r := by
      obtain ⟨s, c⟩ := x
      change Int at c
      have hx : f28 k (s, c) = some r := hx
      have hout : Out c v13 b us := hout
      rcases hout with ⟨rfl, rfl, rfl, hno⟩ | ⟨q, hm, hq, rfl, rfl, rfl⟩
      · have hne : ∀ n : Int, (∃ s ∈ rulesL, s.1 = n) → (c == n) = false := by
          rintro n ⟨s, hs, rfl⟩
          have := hno s hs
          simpa using fun h => this h.symm
        have h1 := hne 1 (by simp [rulesL])
        have h2 := hne 2 (by simp [rulesL])
        have h3 := hne 3 (by simp [rulesL])
        have h4 := hne 4 (by simp [rulesL])
        have h5 := hne 5 (by simp [rulesL])
        have h6 := hne 6 (by simp [rulesL])
        have h7 := hne 7 (by simp [rulesL])
        unfold f28 at hx
        simp only [h1, h2, h3, h4, h5, h6, h7, cond_false] at hx
        exact (run28_0 k (s, c)).trans hx
      · rcases rules_mem hm with rfl | rfl | rfl | rfl | rfl | rfl | rfl <;> simp only at hq <;> subst hq
        · exact (run28_1 k s).trans hx
        · exact (run28_2 k s).trans hx
        · exact (run28_3 k s).trans hx
        · exact (run28_4 k s).trans hx
        · exact (run28_5 k s).trans hx
        · exact (run28_6 k s).trans hx
        · exact (run28_7 k s).trans hx
    refine behind28 k (C := startC Tryz.prog w I Tryz.f28.ntmps sig28 Bs hsig) rfl rfl hrun hs2 ?_
    intro e st3 I3 ρ3 a3 w3 hK3 hs3
    refine finish_ok tab_ok hs3 hK3 ?_ (fun g hg => hg) (fun id hid => (s2 id hid).2) s4
    exact All2.imp _ _ (fun id B _ h => hs3.args id B h) (z_all _ _ s1 hlen)
end Go.Proofs.YtbfkfobfhjgphaaGreat.Fn
