/- The abstract evaluator: a function's contract, an environment's, a loop's descriptor. -/
import Derived.Test.YtbfkfobfhjgphaaGreatPevW
set_option linter.unusedVariables false
set_option linter.unusedSimpArgs false
namespace Go.Pev
open Go

/-- A function does what its form in Lean says. -/
def FnOK (P : Program) (g : FuncId) (s : FSpec) : Prop := ∀ (x : argsI s.sig.args) (r : s.sig.R) (xs : List XA), s.f x = some r → decArgs s.sig.args xs = some x → CallOK P g xs (encRes s.sig.rets s.sig.boxes r)

theorem finish_ok {C : Ctx} {TAB : TypeId → Option TI} (hT : TabOK C.P TAB) {I : Imm} {ρ : Nat → Value} {st : AS} {a : Act} {w : World} (hs : Sim C I ρ st a w) {fn : Func} {s : Sig} {e : AExit} {r : s.R} (h : finish TAB fn s e st = some r)
    {Bs : List Nat} (hids : All2 (fun id B => ρ id = boxV B) (boxIdsFrom 0 s.args) Bs) (hF : ∀ g, C.F g → g ∈ Bs) (hr : ∀ id ∈ boxIdsFrom 0 s.args, 90000 ≤ id ∧ id < 100000) (hl : s.boxes.length = (boxIdsFrom 0 s.args).length) :
    bodyPost C.P fn (fun e w' => ∃ v I' Cs, e = .returned v ∧ Post C.I0 C.w0 Bs (encRes s.rets s.boxes r) v w' I' Cs) e.conc a w := by
  have key : ∃ ccs, resCells TAB st fn.results.toList = some ccs ∧ decRes st.H (boxIdsFrom 0 s.args) [] s.rets s.boxes ccs = some r ∧ (e.conc = .normal ∨ e.conc = .ret) := by
    cases e with
    | exit id => simp [finish] at h
    | normal =>
      simp only [finish] at h
      split at h
      · rename_i ccs hc; exact ⟨ccs, hc, h, .inl rfl⟩
      · cases h
    | ret =>
      simp only [finish] at h
      split at h
      · rename_i ccs hc; exact ⟨ccs, hc, h, .inr rfl⟩
      · cases h
  obtain ⟨ccs, h1, h2, he⟩ := key
  have hbox : ∀ id ∈ boxIdsFrom 0 s.args, ∃ cs, st.H id = .box cs := by
    have gen : ∀ (rs : List (Bool × List RT)) (bs : List Ty) (used : List Nat) (ccs : List (Bool × List SV)) (x : prodI (rs.map (fun p => cellsI p.2) ++ bs.map Ty.I)), bs.length = (boxIdsFrom 0 s.args).length → decRes st.H (boxIdsFrom 0 s.args) used rs bs ccs = some x → ∀ id ∈ boxIdsFrom 0 s.args, ∃ cs, st.H id = .box cs := by
      intro rs
      induction rs with
      | nil =>
        intro bs used ccs x hl h
        cases ccs with
        | nil => simp only [decRes] at h; exact (decBoxes_rep hs bs _ Bs x h hids).2.2
        | cons c ccs => simp [decRes] at h
      | cons p rs ih =>
        intro bs used ccs x hl h
        obtain ⟨g, l⟩ := p
        match rs, bs, ccs, x, h, ih with
        | [], [], [(g', cs)], x, h, _ =>
          have : boxIdsFrom 0 s.args = [] := List.eq_nil_of_length_eq_zero (by simpa using hl.symm)
          rw [this]; simp
        | [], b :: bs, [(g', cs)], x, h, _ =>
          simp only [decRes, cond_eq_ite] at h
          split at h
          · split at h
            · rename_i y u z hy hz
              exact (decBoxes_rep hs (b :: bs) _ Bs z hz hids).2.2
            · cases h
          · cases h
        | q :: rs, bs, (g', cs) :: ccs, x, h, ih =>
          simp only [decRes, cond_eq_ite] at h
          split at h
          · split at h
            · split at h
              · rename_i z hz
                exact ih bs _ ccs z hl hz
              · cases h
            · cases h
          · cases h
        | [], [], [], _, h, _ => simp [decRes] at h
        | [], _ :: _, [], _, h, _ => simp [decRes] at h
        | [], [], _ :: _ :: _, _, h, _ => simp [decRes] at h
        | [], _ :: _, _ :: _ :: _, _, h, _ => simp [decRes] at h
        | _ :: _, _, [], _, h, _ => simp [decRes] at h
    exact gen s.rets s.boxes [] ccs r hl h2
  have hnb : ∀ id cs, st.H id = .box cs → ¬ (90000 ≤ id ∧ id < 100000) → C.base ≤ bl ρ id := by
    intro id cs hH hid
    have hb := hs.blks id
    rw [hH] at hb
    obtain ⟨B, hB, _⟩ := hb
    have hbl : bl ρ id = B := by simp [bl, hB, boxV, Value.ownBlock]
    have hbk : bk ρ id (st.H id) = some B := by rw [hH]; simp [bk, hB, boxV, Value.ownBlock]
    rw [hbl]
    rcases hs.home id B hbk with h | h
    · exact h
    · exfalso
      obtain ⟨k, hk⟩ := List.mem_iff_getElem?.1 (hF B h)
      have hlen := All2.length _ _ hids
      have hk1 := (List.getElem?_eq_some_iff.1 hk).1
      have hk2 : k < (boxIdsFrom 0 s.args).length := by omega
      obtain ⟨B', g1, g2⟩ := All2.get _ _ hids k _ (List.getElem?_eq_getElem hk2)
      rw [hk] at g1
      injection g1 with g1
      subst g1
      obtain ⟨cs', hc⟩ := hbox _ (List.getElem_mem hk2)
      have := hs.apart id _ B hbk (by rw [hc]; simp [bk, g2, boxV, Value.ownBlock])
      subst this
      exact hid (hr _ (List.getElem_mem hk2))
  obtain ⟨vs, h3, h4⟩ := resCells_run hs hT (fun | .tmp t => pure (a.tmps.getD t undef) | .cell p t => do loadVar t (← asAddr (a.tmps.getD p undef))) (fun _ => rfl) (fun _ _ => rfl) fn.results.toList ccs h1
  obtain ⟨u', Cs, h5, h6, h7, h8⟩ := decRes_rep hs hnb hids s.rets s.boxes [] ccs vs r hl h2 h4
  have hres : ∃ v, (results fn a.tmps).run C.P w = .ok v w ∧ resRep I w C.base (encRes s.rets s.boxes r).rets v Cs := by
    have e1 : fn.results = fn.results.toList.toArray := by simp
    refine ⟨if h : vs.toArray.size = 1 then vs.toArray[0] else .tuple vs.toArray, ?_, ?_⟩
    · unfold results
      rw [e1, List.mapM_toArray]
      simp only [Sem.run_bind, Sem.run_map]
      erw [h3]
      simp
    · generalize (encRes s.rets s.boxes r).rets = l at h5
      match l, vs, h5 with
      | [p], [v], ⟨B1, B2, e, g1, g2⟩ =>
        have : B2 = [] := g2
        subst this
        rw [List.append_nil] at e
        subst e
        exact g1
      | [], [], h5 => exact ⟨_, rfl, h5⟩
      | p :: q :: l, v :: v' :: vs, h5 => exact ⟨(v :: v' :: vs).toArray, by simp, h5⟩
      | [p], _ :: _ :: _, ⟨_, _, _, _, h⟩ => exact h.elim
      | _ :: _ :: _, [_], ⟨_, _, _, _, h⟩ => exact h.elim
      | [], _ :: _, h => exact h.elim
      | _ :: _, [], h => exact h.elim
  obtain ⟨v, hv1, hv2⟩ := hres
  have hpost : Post C.I0 C.w0 Bs (encRes s.rets s.boxes r) v w I Cs :=
    { imm := hs.imm, immNew := hs.immNew, immIn := hs.immIn, size := hs.size, old := fun i hi hn => hs.old i hi (fun h => hn (hF i h)), os := hs.os, tape := hs.tape, output := hs.output, boxes := h7, boxRefs := h8, rets := hv2, nodup := h6.nodup }
  rcases he with he | he <;> rw [he] <;> exact ⟨hs.defers, v, hv1, v, I, Cs, rfl, hpost⟩

/-- A function whose body the evaluator runs. -/
theorem fn_ok {P : Program} {TAB : TypeId → Option TI} {EQ : TypeId → Option (List Ty)} {E : Env} (hm : P.follows .mixedOrders = true) (hT : TabOK P TAB) (hQ : EqOK P EQ) (hE : EnvOK P E) {g : FuncId} {fn : Func} {c : Code} (hf : P.funcs[g]? = some fn) (hname : (fn.name == "runtime.NumGoroutine") = false) (hb : fn.body = some c)
    {s : FSpec} (hsig : sigOK fn.ntmps s.sig = true) (hcode : codeOK fn.ntmps c = true) (LP : Nat → LS → (AExit → AS → Option s.sig.R) → Option s.sig.R) (MH : Nat → Mask) (MX : Nat → AExit → Mask) (fuel : Nat)
    (hl : LoopsOK TAB EQ E LP MH MX fuel c) (hv : ∀ x, pevK TAB EQ E LP MH c (startAS s.sig.args x) (finish TAB fn s.sig) = s.f x) : FnOK P g s := by
  intro x r xs hx hd w I vs Bs hin hr hn
  obtain ⟨s1, s2, s3, s4⟩ := sigOK_spec hsig
  have hstart := sim_start P hin fn.ntmps s.sig hsig xs x vs Bs hd hr hn
  have hlen : (boxIdsFrom 0 s.sig.args).length = Bs.length := by
    obtain ⟨h1, _, h3, _⟩ := args_start hin 0 s.sig.args xs x vs Bs hd hr
    rw [← h3, List.length_map]
    exact All2.length _ _ h1
  refine .inl ⟨?_, ?_⟩
  · have hname' : ¬ fn.name = "runtime.NumGoroutine" := by simpa using hname
    simp [callFunc, hf, hname', hb, Sem.run_bind]
  · refine calls_of_wp hf hb ?_
    refine pevK_sound (C := startC P w I fn.ntmps s.sig Bs hsig) hm hT hQ hE c hcode hl (startAS s.sig.args x) (finish TAB fn s.sig) r _ ((hv x).trans hx) I _ _ w hstart ?_
    intro e st' I' ρ' a' w' hK hs'
    refine finish_ok hT hs' hK ?_ (fun g hg => hg) (fun id hid => (s2 id hid).2) s4
    exact All2.imp _ _ (fun id B _ h => hs'.args id B h) (z_all _ _ s1 hlen)

/-- The environment of functions that do what their forms say. -/
theorem env_ok1 {P : Program} : ∀ (l : List (Nat × FSpec)), (∀ p ∈ l, FnOK P p.1 p.2) → ∀ g xs (R : Type) (K : Res → Option R) r, envOf l g xs K = some r → ∃ res, K res = some r ∧ (∀ (R' : Type) (K' : Res → Option R'), envOf l g xs K' = K' res) ∧ CallOK P g xs res
  | [], _ => fun g xs R K r h => by simp [envOf] at h
  | (f, s) :: l, hl => fun g xs R K r h => by
    simp only [envOf, cond_eq_ite] at h
    by_cases hg : Nat.beq g f = true
    · rw [if_pos hg] at h
      have e := Nat.eq_of_beq_eq_true hg
      subst e
      unfold FSpec.E at h
      split at h
      · rename_i x hx
        cases hy : s.f x with
        | none => rw [hy] at h; simp at h
        | some y =>
          rw [hy] at h
          refine ⟨encRes s.sig.rets s.sig.boxes y, h, fun R' K' => ?_, hl (g, s) (by simp) x y xs hy hx⟩
          simp only [envOf, cond_eq_ite, if_pos hg, FSpec.E, hx, hy, Option.bind_some]
      · cases h
    · rw [if_neg hg] at h
      obtain ⟨res, h1, h2, h3⟩ := env_ok1 l (fun p hp => hl p (List.mem_cons_of_mem _ hp)) g xs R K r h
      exact ⟨res, h1, fun R' K' => by simp only [envOf, cond_eq_ite, if_neg hg]; exact h2 R' K', h3⟩

theorem env_ok {P : Program} (hp : PadOK P) (l : List (Nat × FSpec)) (hl : ∀ p ∈ l, FnOK P p.1 p.2) : EnvOK P (envOf l) := ⟨env_ok1 l hl, hp⟩

/-! ### Loops -/
theorem eqNats_eq : ∀ (l m : List Nat), eqNats l m = true → l = m := eqNats_spec
theorem eqFix_spec : ∀ (s v : SV), eqFix s v = true → v = s := by
  intro s v h
  cases s <;> cases v <;> simp [eqFix] at h <;> first | rfl | skip
  all_goals first | (subst h; rfl) | (obtain ⟨rfl, h⟩ := h; first | (subst h; rfl) | (rw [eqNats_eq _ _ h]))

theorem CD.dec_enc : ∀ (d : CD) (v : SV) (x : d.I), d.dec v = some x → v = d.enc x
  | .fix s, v, x, h => by
    simp only [CD.dec, cond_eq_ite] at h
    split at h
    · rename_i hs; exact eqFix_spec s v hs
    · cases h
  | .leaf (.int k), .int k' n, x, h => by
    simp only [CD.dec, cond_eq_ite] at h
    split at h
    · rename_i hk
      injection h with h
      simp only [decide_eq_true_eq] at hk
      subst hk h
      rfl
    · cases h
  | .leaf .bool, .bool b, x, h => by injection h with h; subst h; rfl
  | .leaf .str, .str b, x, h => by injection h with h; subst h; rfl
  | .leaf (.sl e), .view e' xs, x, h => by
    obtain ⟨rfl, rfl⟩ := castL_eq (show castL e' e xs = some x from h)
    rfl
  | .leaf (.pair _ _), v, x, h => by cases v <;> simp [CD.dec] at h
  | .leaf (.int k), .undef, x, h | .leaf (.int k), .bool _, x, h | .leaf (.int k), .str _, x, h | .leaf (.int k), .view _ _, x, h | .leaf (.int k), .nilsl, x, h | .leaf (.int k), .nilp, x, h | .leaf (.int k), .row _, x, h | .leaf (.int k), .ptr _ _, x, h | .leaf (.int k), .eptr _ _ _, x, h | .leaf (.int k), .clo _ _, x, h => by simp [CD.dec] at h
  | .leaf .bool, .undef, x, h | .leaf .bool, .int _ _, x, h | .leaf .bool, .str _, x, h | .leaf .bool, .view _ _, x, h | .leaf .bool, .nilsl, x, h | .leaf .bool, .nilp, x, h | .leaf .bool, .row _, x, h | .leaf .bool, .ptr _ _, x, h | .leaf .bool, .eptr _ _ _, x, h | .leaf .bool, .clo _ _, x, h => by simp [CD.dec] at h
  | .leaf .str, .undef, x, h | .leaf .str, .int _ _, x, h | .leaf .str, .bool _, x, h | .leaf .str, .view _ _, x, h | .leaf .str, .nilsl, x, h | .leaf .str, .nilp, x, h | .leaf .str, .row _, x, h | .leaf .str, .ptr _ _, x, h | .leaf .str, .eptr _ _ _, x, h | .leaf .str, .clo _ _, x, h => by simp [CD.dec] at h
  | .leaf (.sl _), .undef, x, h | .leaf (.sl _), .int _ _, x, h | .leaf (.sl _), .bool _, x, h | .leaf (.sl _), .str _, x, h | .leaf (.sl _), .nilsl, x, h | .leaf (.sl _), .nilp, x, h | .leaf (.sl _), .row _, x, h | .leaf (.sl _), .ptr _ _, x, h | .leaf (.sl _), .eptr _ _ _, x, h | .leaf (.sl _), .clo _ _, x, h => by simp [CD.dec] at h

theorem cds_enc : ∀ (l : List CD) (vs : List SV) (x : cdsI l), cdsDec l vs = some x → vs = cdsEnc l x
  | [], [], x, h => rfl
  | d :: l, s :: r, x, h => by
    simp only [cdsDec] at h
    split at h
    · rename_i y z hy hz
      injection h with h
      subst h
      simp only [cdsEnc]
      rw [← CD.dec_enc d s y hy, ← cds_enc l r z hz]
    · cases h
  | [], _ :: _, _, h => by simp [cdsDec] at h
  | _ :: _, [], _, h => by simp [cdsDec] at h
theorem BD.dec_enc : ∀ (d : BD) (v : Blk) (x : d.I), d.dec v = some x → v = d.enc x
  | .no, .none, x, h => rfl
  | .box ds, .box cs, x, h => by
    simp only [BD.enc]
    rw [← cds_enc ds cs x h]
  | .row tid e, .row tid' e' xs, x, h => by
    simp only [BD.dec, cond_eq_ite] at h
    split at h
    · rename_i ht
      have ht := Nat.eq_of_beq_eq_true ht
      subst ht
      obtain ⟨rfl, rfl⟩ := castL_eq h
      rfl
    · cases h
  | .no, .dead, _, h | .no, .box _, _, h | .no, .row _ _ _, _, h | .no, .raw _ _ _, _, h => by simp [BD.dec] at h
  | .box _, .none, _, h | .box _, .dead, _, h | .box _, .row _ _ _, _, h | .box _, .raw _ _ _, _, h => by simp [BD.dec] at h
  | .row _ _, .none, _, h | .row _ _, .dead, _, h | .row _ _, .box _, _, h | .row _ _, .raw _ _ _, _, h => by simp [BD.dec] at h
theorem bds_enc : ∀ (l : List BD) (vs : List Blk) (x : bdsI l), bdsDec l vs = some x → vs = bdsEnc l x
  | [], [], x, h => rfl
  | d :: l, s :: r, x, h => by
    simp only [bdsDec] at h
    split at h
    · rename_i y z hy hz
      injection h with h
      subst h
      simp only [bdsEnc]
      rw [← BD.dec_enc d s y hy, ← bds_enc l r z hz]
    · cases h
  | [], _ :: _, _, h => by simp [bdsDec] at h
  | _ :: _, [], _, h => by simp [bdsDec] at h
theorem tds_enc : ∀ (l : List (Bool × List CD)) (vs : List AV) (x : tdsI l), tdsDec l vs = some x → vs = tdsEnc l x
  | [], [], x, h => rfl
  | (false, [d]) :: l, .sc s :: r, x, h => by
    simp only [tdsDec] at h
    split at h
    · rename_i y z hy hz
      injection h with h
      subst h
      simp only [tdsEnc, tdEnc]
      rw [← CD.dec_enc d s y hy, ← tds_enc l r z hz]
    · cases h
  | (true, ds) :: l, .agg cs :: r, x, h => by
    simp only [tdsDec] at h
    split at h
    · rename_i y z hy hz
      injection h with h
      subst h
      simp only [tdsEnc, tdEnc]
      rw [← cds_enc ds cs y hy, ← tds_enc l r z hz]
    · cases h
  | [], _ :: _, _, h => by simp [tdsDec] at h
  | (true, _) :: _, [], _, h => by simp [tdsDec] at h
  | (true, _) :: _, .sc _ :: _, _, h => by simp [tdsDec] at h
  | (true, _) :: _, .tup _ :: _, _, h => by simp [tdsDec] at h
  | (false, [_]) :: _, [], _, h => by simp [tdsDec] at h
  | (false, [_]) :: _, .agg _ :: _, _, h => by simp [tdsDec] at h
  | (false, [_]) :: _, .tup _ :: _, _, h => by simp [tdsDec] at h
  | (false, []) :: _, vs, _, h => by cases vs <;> simp [tdsDec] at h
  | (false, _ :: _ :: _) :: _, vs, _, h => by cases vs <;> simp [tdsDec] at h
theorem LD.dec_enc (D : LD) (l : LS) (x : D.I) (h : D.dec l = some x) : l = D.enc x := by
  unfold LD.dec at h
  split at h
  · rename_i y z hy hz
    injection h with h
    subst h
    exact Prod.ext (tds_enc _ _ _ hy) (bds_enc _ _ _ hz)
  · cases h

/-- One loop's debt, by its descriptor. -/
theorem loop_ok {TAB : TypeId → Option TI} {EQ : TypeId → Option (List Ty)} {E : Env} {R : Type} {LP : Nat → LS → (AExit → AS → Option R) → Option R} {MH : Nat → Mask} {MX : Nat → AExit → Mask} {fuel : Nat} {c : Code} (D : LD) (g : (AExit → AS → Option R) → D.I → (D.I → Option R) → Option R)
    (hrun : ∀ l K, LP (loopKey c) l K = match D.dec l with | some x => loopC fuel (g K) x | none => none)
    (hstep : ∀ K x next, roundK TAB EQ E LP MH MX c K (D.enc x) next = g K x fun y => next (D.enc y)) :
    ∀ l K r, LP (loopKey c) l K = some r → loopC fuel (roundK TAB EQ E LP MH MX c K) l = some r := by
  intro l K r h
  rw [hrun] at h
  split at h
  · rename_i x hx
    rw [D.dec_enc l x hx, loopC_enc D.enc _ (g K) (hstep K)]
    exact h
  · cases h
end Go.Pev
