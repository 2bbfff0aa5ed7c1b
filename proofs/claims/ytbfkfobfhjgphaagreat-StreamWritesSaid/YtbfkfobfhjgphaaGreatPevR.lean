/- The abstract evaluator: regions, in the order of the text and in any order. -/
import Derived.Test.YtbfkfobfhjgphaaGreatPevQ
import Derived.Orders
set_option linter.unusedVariables false
set_option linter.unusedSimpArgs false
namespace Go.Pev
open Go

section
variable {C : Ctx} {TAB : TypeId → Option TI} {EQ : TypeId → Option (List Ty)} {E : Env} {ops : Array Oper}

/-- Whether an operation is carried out. -/
def wantA (ops : Array Oper) (o : Oper) (st : AS) : Option Bool :=
  match o.guard with
  | none => some true
  | some (j, want) => match (ops[j]?).bind (·.dst) with
    | some d => match st.T d with
      | .sc (.bool b) => some (b == want)
      | .tup _ => some false
      | _ => none
    | none => none

/-- What an operation of a region leaves. -/
def StepD (TAB : TypeId → Option TI) (EQ : TypeId → Option (List Ty)) (E : Env) (ops : Array Oper) (o : Oper) (st : AS) (v : AV) (us : List (Nat × Blk)) : Prop :=
  (wantA ops o st = some true ∧ opK TAB EQ E st o (fun v us => some (v, us)) = some (v, us)) ∨ (wantA ops o st = some false ∧ v = .tup [] ∧ us = [])

theorem upd_self {α : Type} (f : Nat → α) (k : Nat) (v : α) (h : f k = v) : upd f k v = f := by
  funext n
  rw [upd_eq]
  split
  · rename_i e; rw [e, h]
  · rfl

theorem stepK_cases (hE : EnvNat E) {R : Type} {o : Oper} {st : AS} {K : AS → List Nat → Option R} {r : R} (h : stepK TAB EQ E ops o st K = some r) :
    ∃ v us, K (st.apply o.dst v us) (us.map (·.1)) = some r ∧ StepD TAB EQ E ops o st v us := by
  unfold stepK at h
  split at h
  · rename_i hg
    obtain ⟨v, us, h1, h2⟩ := op_cases hE h
    exact ⟨v, us, h1, .inl ⟨by simp [wantA, hg], h2 _ _⟩⟩
  · rename_i j want hg
    split at h
    · rename_i d hd
      split at h
      · rename_i b hb
        have key : ∀ (c : Bool), b = c → (⟨upd st.T d (.sc (.bool c)), st.H⟩ : AS) = st := by
          intro c e
          rw [upd_self _ _ _ (by rw [hb, e])]
        have hw : wantA ops o st = some (b == want) := by simp only [wantA, hg, hd, hb]
        cases want <;> cases b <;> simp only [cond_true, cond_false, stepK.runK, stepK.skipK] at h
        · rw [key false rfl] at h
          obtain ⟨v, us, h1, h2⟩ := op_cases hE h
          exact ⟨v, us, h1, .inl ⟨hw, h2 _ _⟩⟩
        · rw [key true rfl] at h
          exact ⟨_, [], h, .inr ⟨hw, rfl, rfl⟩⟩
        · rw [key false rfl] at h
          exact ⟨_, [], h, .inr ⟨hw, rfl, rfl⟩⟩
        · rw [key true rfl] at h
          obtain ⟨v, us, h1, h2⟩ := op_cases hE h
          exact ⟨v, us, h1, .inl ⟨hw, h2 _ _⟩⟩
      · rename_i l hl
        exact ⟨_, [], h, .inr ⟨by simp only [wantA, hg, hd, hl], rfl, rfl⟩⟩
      · cases h
    · cases h

theorem wanted_rep {I : Imm} {ρ : Nat → Value} {st : AS} {a : Act} {w : World} (hs : Sim C I ρ st a w) {o : Oper} {b : Bool} (h : wantA ops o st = some b) : Region.wanted o (yielded ops a.tmps) = b := by
  unfold wantA at h
  unfold Region.wanted
  split at h
  · rename_i hg
    injection h with h
    rw [hg, h]
  · rename_i j want hg
    rw [hg]
    split at h
    · rename_i d hd
      split at h
      · rename_i b' hb
        injection h with h
        have := hs.tmps d
        rw [hb] at this
        have h2 : a.tmps.getD d undef = .bool b' := this
        have h3 : a.tmps[d]? = some (.bool b') := by
          rw [Array.getD_eq_getD_getElem?] at h2
          cases h4 : a.tmps[d]? with
          | none => rw [h4] at h2; simp [undef] at h2
          | some v => rw [h4] at h2; simpa using h2
        have h5 : yielded ops a.tmps j = some b' := by simp [yielded, hd, h3]
        simp only [h5]
        rw [← h]
        cases b' <;> cases want <;> rfl
      · rename_i l hl
        injection h with h
        have := hs.tmps d
        rw [hl] at this
        obtain ⟨vs, h2, _⟩ := this
        have h5 : yielded ops a.tmps j = none := by
          unfold yielded
          rw [hd]
          simp only [Option.bind_some]
          rw [Array.getD_eq_getD_getElem?] at h2
          cases h4 : a.tmps[d]? with
          | none => rfl
          | some v =>
            rw [h4] at h2
            have : v = .tuple vs := by simpa using h2
            subst this
            rfl
        simp only [h5]
        rw [← h]
        rfl
      · cases h
    · cases h

/-- The machine's step. -/
theorem step_wp (hT : TabOK C.P TAB) (hQ : EqOK C.P EQ) (hE : EnvOK C.P E) {o : Oper} (hd : ∀ d, o.dst = some d → d < C.n) {st : AS} {v : AV} {us : List (Nat × Blk)} (h : StepD TAB EQ E ops o st v us) {I : Imm} {ρ : Nat → Value} {a : Act} {w : World} (hs : Sim C I ρ st a w)
    {K : Act → World → Prop} {Q : Exit → Act → World → Prop} (hk : ∀ I' ρ' a' w', Sim C I' ρ' (st.apply o.dst v us) a' w' → K a' w') :
    if Region.wanted o (yielded ops a.tmps) then o.wp C.P a w K Q ∨ (o.asks C.P a w ∧ LetsOut Q) else K (a.put o.dst undef) w := by
  rcases h with ⟨h1, h2⟩ | ⟨h1, rfl, rfl⟩
  · rw [wanted_rep hs h1, if_pos rfl]
    exact .inl (op_sound hT hQ hE hd h2 I ρ a w hs K Q hk)
  · rw [wanted_rep hs h1, if_neg (by simp)]
    exact hk I ρ _ _ (hs.put hd (v := .tup []) (x := undef) ⟨#[], rfl, trivial⟩ (by simp [refsAV]))

theorem regK_sound (hT : TabOK C.P TAB) (hQ : EqOK C.P EQ) (hE : EnvOK C.P E) (hd : ∀ o ∈ ops.toList, ∀ d, o.dst = some d → d < C.n) {R : Type} {Q : Exit → Act → World → Prop} {r : R} : ∀ (l : List Oper) (i : Nat), (∀ k, l[k]? = ops[i + k]?) → ∀ (st : AS) (K : AS → Option R), regK TAB EQ E ops l st K = some r →
    ∀ {I ρ a w}, Sim C I ρ st a w → (∀ st' I' ρ' a' w', K st' = some r → Sim C I' ρ' st' a' w' → Q .normal a' w') → wpOps C.P ops Q (List.range' i l.length) a w
  | [], i, hl, st, K, h, I, ρ, a, w, hs, hk => by
    simp only [regK] at h
    simpa [wpOps] using hk st I ρ a w h hs
  | o :: l, i, hl, st, K, h, I, ρ, a, w, hs, hk => by
    simp only [regK] at h
    obtain ⟨v, us, h1, h2⟩ := stepK_cases hE.nat h
    have ho : ops[i]? = some o := by simpa using (hl 0).symm
    have hmem : o ∈ ops.toList := by simpa using Array.mem_of_getElem? ho
    rw [List.length_cons, List.range'_succ, wpOps_cons]
    unfold wpOp
    rw [ho]
    exact step_wp hT hQ hE (hd o hmem) h2 hs fun I' ρ' a' w' hs' =>
      regK_sound hT hQ hE hd l (i + 1) (fun k => by have := hl (k + 1); simpa [Nat.add_assoc, Nat.add_comm 1 k] using this) _ K h1 hs' hk

/-! ### Any order -/
def Foots (TAB : TypeId → Option TI) (EQ : TypeId → Option (List Ty)) (E : Env) (ops : Array Oper) (o : Oper) (st : AS) (v : AV) (us : List (Nat × Blk)) (S : List Nat) : Prop :=
  ∀ st2 : AS, (∀ t ∈ readsOf ops o, st2.T t = st.T t) → (∀ id ∈ S, st2.H id = st.H id) → StepD TAB EQ E ops o st2 v us

theorem opTmps_reads {o : Oper} {x : Operand} (hx : x ∈ o.op.operands.toList) : ∀ t ∈ opTmps x, t ∈ readsOf ops o := fun t ht => by
  unfold readsOf
  exact List.mem_append.2 (.inl (List.mem_flatMap.2 ⟨x, hx, ht⟩))
theorem wantA_frame {o : Oper} {st st2 : AS} (h : ∀ t ∈ readsOf ops o, st2.T t = st.T t) : wantA ops o st2 = wantA ops o st := by
  unfold wantA
  split
  · rfl
  · rename_i j want hg
    split
    · rename_i d hd
      rw [h d (by unfold readsOf; rw [hg]; simp only [hd]; simp)]
    · rfl

theorem foots_of (hT : TabOK C.P TAB) (hE : EnvNat E) {o : Oper} {st : AS} {v : AV} {us : List (Nat × Blk)} (h : StepD TAB EQ E ops o st v us) : Foots TAB EQ E ops o st v us (hreads st o ++ us.map (·.1)) := by
  intro st2 h1 h2
  rcases h with ⟨h3, h4⟩ | ⟨h3, h4⟩
  · exact .inl ⟨by rw [wantA_frame h1]; exact h3, op_frame hT hE (fun x hx => evalO_frame fun t ht => h1 t (opTmps_reads hx t ht)) h4 h2⟩
  · exact .inr ⟨by rw [wantA_frame h1]; exact h3, h4⟩

def RunF (TAB : TypeId → Option TI) (EQ : TypeId → Option (List Ty)) (E : Env) (ops : Array Oper) : List Nat → AS → AS → List Foot → Prop
  | [], st, st', tr => st' = st ∧ tr = []
  | i :: l, st, st', tr => ∃ o v us S tr', ops[i]? = some o ∧ Foots TAB EQ E ops o st v us S ∧ (∀ id ∈ us.map (·.1), id ∈ S) ∧ tr = ⟨i, S, us.map (·.1)⟩ :: tr' ∧ RunF TAB EQ E ops l (st.apply o.dst v us) st' tr'

theorem mem_spec : ∀ (x : Nat) (l : List Nat), mem x l = true ↔ x ∈ l
  | x, [] => by simp [mem]
  | x, y :: l => by
    simp only [mem, cond_eq_ite]
    split
    · rename_i h; have := Nat.eq_of_beq_eq_true h; simp [this]
    · rename_i h
      rw [mem_spec x l]
      have : x ≠ y := fun e => h (by rw [e]; exact Nat.beq_refl y)
      simp [this]
theorem disj_spec : ∀ (l m : List Nat), disj l m = true → ∀ x ∈ l, x ∉ m
  | [], _, _, x, hx => by cases hx
  | y :: l, m, h, x, hx => by
    simp only [disj, cond_eq_ite] at h
    split at h
    · cases h
    · rename_i hm
      rcases List.mem_cons.1 hx with rfl | hx
      · exact fun hxm => hm ((mem_spec x m).2 hxm)
      · exact disj_spec l m h x hx

theorem upds_out {α : Type} : ∀ (l : List (Nat × α)) (f : Nat → α) (k : Nat), k ∉ l.map (·.1) → upds f l k = f k
  | [], _, _, _ => rfl
  | (j, v) :: l, f, k, h => by
    show upds (upd f j v) l k = f k
    rw [upds_out l _ k (fun hm => h (List.mem_cons_of_mem _ hm)), upd_ne _ _ (fun e => h (by rw [e]; simp))]
theorem upds_in {α : Type} : ∀ (l : List (Nat × α)) (f g : Nat → α) (k : Nat), k ∈ l.map (·.1) → upds f l k = upds g l k
  | (j, v) :: l, f, g, k, h => by
    show upds (upd f j v) l k = upds (upd g j v) l k
    by_cases hk : k ∈ l.map (·.1)
    · exact upds_in l _ _ k hk
    · have : k = j := by rcases List.mem_cons.1 h with h | h; exact h; exact absurd h hk
      subst this
      rw [upds_out l _ k hk, upds_out l _ k hk, upd_same, upd_same]

/-- Two operations change places. -/
def Indep (ops : Array Oper) (f g : Foot) : Prop :=
  (∀ o p, ops[f.i]? = some o → ops[g.i]? = some p → tmpsPair ops o p = true) ∧ disj f.hw (g.hr ++ g.hw) = true ∧ disj g.hw f.hr = true

theorem tmpsPair_spec {o p : Oper} (h : tmpsPair ops o p = true) : (∀ d, o.dst = some d → d ∉ readsOf ops p ∧ p.dst ≠ some d) ∧ (∀ d, p.dst = some d → d ∉ readsOf ops o) := by
  unfold tmpsPair at h
  rw [Bool.and_eq_true] at h
  refine ⟨fun d hd => ?_, fun d hd => disj_spec _ _ h.2 d (by simp [hd])⟩
  have := disj_spec _ _ h.1 d (by simp [hd])
  simp only [List.mem_append, not_or, Option.mem_toList] at this
  exact this

theorem apply_T (st : AS) (dst : Option Nat) (v : AV) (us : List (Nat × Blk)) (t : Nat) (h : dst ≠ some t) : (st.apply dst v us).T t = st.T t := by
  cases dst with
  | none => rfl
  | some d => exact upd_ne _ _ (fun e => h (by rw [e]))

theorem apply_comm (st : AS) {d e : Option Nat} (v u : AV) (us ws : List (Nat × Blk)) (h : ∀ x, d = some x → e ≠ some x) (h2 : ∀ x ∈ us.map (·.1), x ∉ ws.map (·.1)) :
    (st.apply d v us).apply e u ws = (st.apply e u ws).apply d v us := by
  have hT : ((st.apply d v us).apply e u ws).T = ((st.apply e u ws).apply d v us).T := by
    cases d with
    | none => cases e <;> rfl
    | some x =>
      cases e with
      | none => rfl
      | some y =>
        have hne : x ≠ y := fun e => h x rfl (by rw [e])
        funext t
        show upd (upd st.T x v) y u t = upd (upd st.T y u) x v t
        simp only [upd_eq]
        by_cases h1 : t = y
        · by_cases h3 : t = x
          · exact absurd (h3.symm.trans h1) hne
          · simp [h1, Ne.symm hne]
        · by_cases h3 : t = x <;> simp [h1, h3, hne]
  have hH : ((st.apply d v us).apply e u ws).H = ((st.apply e u ws).apply d v us).H := by
    funext k
    show upds (upds st.H us) ws k = upds (upds st.H ws) us k
    by_cases h3 : k ∈ us.map (·.1)
    · rw [upds_out ws _ k (h2 k h3)]
      exact upds_in us _ _ k h3
    · rw [upds_out us _ k h3]
      by_cases h4 : k ∈ ws.map (·.1)
      · exact upds_in ws _ _ k h4
      · rw [upds_out ws _ k h4, upds_out ws _ k h4, upds_out us _ k h3]
  calc (st.apply d v us).apply e u ws = ⟨((st.apply d v us).apply e u ws).T, ((st.apply d v us).apply e u ws).H⟩ := rfl
    _ = ⟨((st.apply e u ws).apply d v us).T, ((st.apply e u ws).apply d v us).H⟩ := by rw [hT, hH]

theorem RunF.swap {j i : Nat} {l : List Nat} {st st' : AS} {fj fi : Foot} {tr : List Foot} (h : RunF TAB EQ E ops (j :: i :: l) st st' (fj :: fi :: tr)) (hi : Indep ops fj fi) : RunF TAB EQ E ops (i :: j :: l) st st' (fi :: fj :: tr) := by
  obtain ⟨o, v, us, S, tr', h1, h2, h3, h4, o2, v2, us2, S2, tr2, g1, g2, g3, g4, g5⟩ := h
  injection h4 with e1 e2
  subst e1 e2
  injection g4 with e3 e4
  subst e3 e4
  obtain ⟨c1, c2, c3⟩ := hi
  obtain ⟨t1, t2⟩ := tmpsPair_spec (c1 o o2 h1 g1)
  have c2' := disj_spec _ _ c2
  have c3' := disj_spec _ _ c3
  have n1 : ∀ x ∈ us.map (·.1), x ∉ us2.map (·.1) := fun x hx hy => c2' x hx (List.mem_append.2 (.inr hy))
  refine ⟨o2, v2, us2, S2, ⟨j, S, us.map (·.1)⟩ :: tr, g1, ?_, g3, rfl, o, v, us, S, tr, h1, ?_, h3, rfl, ?_⟩
  · intro st2 a1 a2
    refine g2 st2 (fun t ht => ?_) (fun id hid => ?_)
    · rw [apply_T _ _ _ _ _ (fun e => (t1 t e).1 ht)]; exact a1 t ht
    · show st2.H id = upds st.H us id
      rw [upds_out us _ id (fun hx => c2' id hx (List.mem_append.2 (.inl hid)))]; exact a2 id hid
  · intro st2 a1 a2
    refine h2 st2 (fun t ht => ?_) (fun id hid => ?_)
    · rw [a1 t ht, apply_T _ _ _ _ _ (fun e => t2 t e ht)]
    · rw [a2 id hid]
      show upds st.H us2 id = st.H id
      exact upds_out us2 _ id (fun hx => c3' id hx hid)
  · rw [apply_comm st v2 v us2 us (fun x hx e => (t1 x e).2 hx) (fun x hx hy => n1 x hy hx)]
    exact g5

theorem RunF.front : ∀ (l1 : List Nat) (t1 : List Foot) {i : Nat} {l2 : List Nat} {st st' : AS} {fi : Foot} {t2 : List Foot}, RunF TAB EQ E ops (l1 ++ i :: l2) st st' (t1 ++ fi :: t2) → l1.length = t1.length → (∀ f ∈ t1, Indep ops f fi) →
    RunF TAB EQ E ops (i :: (l1 ++ l2)) st st' (fi :: (t1 ++ t2))
  | [], [], i, l2, st, st', fi, t2, h, _, _ => h
  | j :: l1, f :: t1, i, l2, st, st', fi, t2, h, hl, hi => by
    obtain ⟨o, v, us, S, tr', h1, h2, h3, h4, h5⟩ := h
    injection h4 with e1 e2
    subst e2
    have ih := RunF.front l1 t1 h5 (by simpa using hl) (fun f hf => hi f (List.mem_cons_of_mem _ hf))
    have : RunF TAB EQ E ops (j :: i :: (l1 ++ l2)) st st' (f :: fi :: (t1 ++ t2)) := ⟨o, v, us, S, _, h1, h2, h3, by rw [e1], ih⟩
    exact this.swap (hi f (by simp))
  | [], _ :: _, _, _, _, _, _, _, _, h, _ => by simp at h
  | _ :: _, [], _, _, _, _, _, _, _, h, _ => by simp at h

theorem RunF.idx : ∀ (l : List Nat) {st st' : AS} {tr : List Foot}, RunF TAB EQ E ops l st st' tr → tr.map (·.i) = l
  | [], _, _, _, h => by rw [h.2]; rfl
  | i :: l, _, _, _, h => by
    obtain ⟨o, v, us, S, tr', h1, h2, h3, h4, h5⟩ := h
    rw [h4, List.map_cons, RunF.idx l h5]

theorem regDK_run (hT : TabOK C.P TAB) (hE : EnvNat E) {R : Type} {r : R} : ∀ (l : List Oper) (i : Nat), (∀ k, l[k]? = ops[i + k]?) → ∀ (tr : List Foot) (st : AS) (K : AS → Option R), regDK TAB EQ E ops i l tr st K = some r →
    ∃ st' tr', RunF TAB EQ E ops (List.range' i l.length) st st' tr' ∧ footOK (ancs ops.toList) (tr.reverse ++ tr') = true ∧ K st' = some r
  | [], i, hl, tr, st, K, h => by
    simp only [regDK, cond_eq_ite] at h
    split at h
    · rename_i hf
      exact ⟨st, [], ⟨rfl, rfl⟩, by simpa using hf, h⟩
    · cases h
  | o :: l, i, hl, tr, st, K, h => by
    simp only [regDK] at h
    obtain ⟨v, us, h1, h2⟩ := stepK_cases hE h
    have ho : ops[i]? = some o := by simpa using (hl 0).symm
    obtain ⟨st', tr', h3, h4, h5⟩ := regDK_run hT hE l (i + 1) (fun k => by have := hl (k + 1); simpa [Nat.add_assoc, Nat.add_comm 1 k] using this) _ _ K h1
    refine ⟨st', ⟨i, hreads st o ++ us.map (·.1), us.map (·.1)⟩ :: tr', ?_, by simpa using h4, h5⟩
    rw [List.length_cons, List.range'_succ]
    exact ⟨o, v, us, _, tr', ho, foots_of hT hE h2, fun id hid => List.mem_append.2 (.inr hid), rfl, h3⟩
end
end Go.Pev
