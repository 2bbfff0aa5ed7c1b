/- The abstract evaluator: calls. -/
import Derived.Test.YtbfkfobfhjgphaaGreatPevPad
set_option linter.unusedVariables false
set_option linter.unusedSimpArgs false
namespace Go.Pev
open Go

def ρ0 : Nat → Value := fun _ => undef
def bptr (B : Nat) : Value := .pointer (some ⟨B, 0, none⟩)

def argRep (I : Imm) (w : World) : XA → Value → List Nat → Prop
  | .val false [s], v, Bs => SRep I w ρ0 s v ∧ Bs = []
  | .val false _, _, _ => False
  | .val true cs, v, Bs => aggRep I w ρ0 cs v ∧ Bs = []
  | .box cs, v, Bs => ∃ B, Bs = [B] ∧ v = bptr B ∧ boxRep I w ρ0 cs B
  | .clo f css, v, Bs => v = .func (.func f) #[] (Bs.map bptr).toArray ∧ All2 (boxRep I w ρ0) css Bs
def argsRep (I : Imm) (w : World) : List XA → List Value → List Nat → Prop
  | [], [], Bs => Bs = []
  | x :: xs, v :: vs, Bs => ∃ B1 B2, Bs = B1 ++ B2 ∧ argRep I w x v B1 ∧ argsRep I w xs vs B2
  | _, _, _ => False

def rcRep (I : Imm) (w : World) (base : Nat) : RC → Value → List Nat → Prop
  | .s sv, u, Bs => SRep I w ρ0 sv u ∧ Bs = [] ∧ refs sv = []
  | .own tid e xs, u, Bs => rowRep I w base tid e xs u ∧ Bs = u.ownBlock.toList
  | .nbox cs, u, Bs => ∃ B, u = bptr B ∧ base ≤ B ∧ boxRep I w ρ0 cs B ∧ Bs = [B] ∧ ∀ s ∈ cs, refs s = []
def rcsRep (I : Imm) (w : World) (base : Nat) : List RC → List Value → List Nat → Prop
  | [], [], Bs => Bs = []
  | x :: xs, v :: vs, Bs => ∃ B1 B2, Bs = B1 ++ B2 ∧ rcRep I w base x v B1 ∧ rcsRep I w base xs vs B2
  | _, _, _ => False
def retRep (I : Imm) (w : World) (base : Nat) : Bool × List RC → Value → List Nat → Prop
  | (true, l), v, Bs => ∃ vs, v = .agg vs ∧ rcsRep I w base l vs.toList Bs
  | (false, [r]), v, Bs => rcRep I w base r v Bs
  | (false, _), _, _ => False
def retsRep (I : Imm) (w : World) (base : Nat) : List (Bool × List RC) → List Value → List Nat → Prop
  | [], [], Bs => Bs = []
  | x :: xs, v :: vs, Bs => ∃ B1 B2, Bs = B1 ++ B2 ∧ retRep I w base x v B1 ∧ retsRep I w base xs vs B2
  | _, _, _ => False
def resRep (I : Imm) (w : World) (base : Nat) (l : List (Bool × List RC)) (v : Value) (Bs : List Nat) : Prop :=
  match l with
  | [r] => retRep I w base r v Bs
  | l => ∃ vs, v = .tuple vs ∧ retsRep I w base l vs.toList Bs

/-- What a call leaves. -/
structure Post (I : Imm) (w : World) (Bs : List Nat) (res : Res) (v : Value) (w' : World) (I' : Imm) (Cs : List Nat) : Prop where
  imm : ∀ b o, I b o → I' b o
  immNew : ∀ b o, I' b o → I b o ∨ w.heap.size ≤ b
  immIn : ∀ b o, I' b o → b < w'.heap.size
  size : w.heap.size ≤ w'.heap.size
  old : ∀ i, i < w.heap.size → i ∉ Bs → w'.heap[i]? = w.heap[i]?
  os : w'.os = w.os
  tape : w'.tape = w.tape
  output : w'.output = w.output
  boxes : All2 (boxRep I' w' ρ0) res.boxes Bs
  boxRefs : ∀ cs ∈ res.boxes, ∀ s ∈ cs, refs s = []
  rets : resRep I' w' w.heap.size res.rets v Cs
  nodup : Cs.Nodup

def CallsF (P : Program) (g : FuncId) (vs : Array Value) (w : World) (R : Ending → World → Prop) : Prop :=
  ((callFunc g vs).run P w = .ok (.enter g vs) w ∧ Calls P g vs w R) ∨ ∃ v, (callFunc g vs).run P w = .ok (.value v) w ∧ R (.returned v) w

/-- The contract of a function at these arguments. -/
def CallOK (P : Program) (g : FuncId) (xs : List XA) (res : Res) : Prop :=
  ∀ (w : World) (I : Imm) (vs : List Value) (Bs : List Nat), (∀ b o, I b o → b < w.heap.size) → argsRep I w xs vs Bs → Bs.Nodup →
    CallsF P g vs.toArray w fun e w' => ∃ v I' Cs, e = .returned v ∧ Post I w Bs res v w' I' Cs

/-- The contract of the function that pads a block whose row is owned. -/
def PadOK (P : Program) : Prop := ∀ (w : World) (base : Nat) (c n : Int) (v : Value) (len k : Nat) (cs : List Value), base ≤ w.heap.size → w.ownsRow base padEl 1 v len cs → (∀ u ∈ cs, u.oneCell' = true) → padCount c n len = (k : Int) → (len + k) * 4 ≤ 140737488355328 →
  CallsF P padFn #[.agg #[.int .i64 c, v], .int .i64 n] w fun e w' => ∃ V, e = .returned (.agg #[.int .i64 c, V]) ∧ w'.ownsRow base padEl 1 V (len + k) (cs ++ List.replicate k (.int .i32 0)) ∧ OwnGrown w w' v V

def EnvOK (P : Program) (E : Env) : Prop :=
  (∀ g xs (R : Type) (K : Res → Option R) r, E g xs K = some r → ∃ res, K res = some r ∧ (∀ (R' : Type) (K' : Res → Option R'), E g xs K' = K' res) ∧ CallOK P g xs res) ∧ PadOK P
theorem EnvOK.nat {P : Program} {E : Env} (h : EnvOK P E) : EnvNat E := fun g xs R K r hr => by
  obtain ⟨res, h1, h2, _⟩ := h.1 g xs R K r hr
  exact ⟨res, h1, h2⟩

section
variable {C : Ctx} {o : Oper} {st : AS}

theorem resolve_rep {I : Imm} {ρ : Nat → Value} {a : Act} {w : World} (hs : Sim C I ρ st a w) {s s' : SV} {v : Value} (h : resolveSV st.H s = some s') (hr : SRep I w ρ s v) : SRep I w ρ0 s' v ∧ refs s' = [] := by
  unfold resolveSV at h
  split at h <;> try (cases h; done)
  · injection h with h; subst h; exact ⟨hr, rfl⟩
  · injection h with h; subst h; exact ⟨hr, rfl⟩
  · injection h with h; subst h; exact ⟨hr, rfl⟩
  · injection h with h; subst h; exact ⟨hr, rfl⟩
  · injection h with h; subst h; exact ⟨hr, rfl⟩
  · rename_i id
    split at h
    · rename_i tid e xs hH
      injection h with h
      subst h
      have := hs.blks id
      rw [hH] at this
      refine ⟨?_, rfl⟩
      show CRep _ _ _ _ _
      rw [hr.1]
      exact rowRep.view this
    · cases h

theorem resolveAll_rep {I : Imm} {ρ : Nat → Value} {a : Act} {w : World} (hs : Sim C I ρ st a w) : ∀ (cs cs' : List SV) (vs : List Value), resolveAll st.H cs = some cs' → All2 (SRep I w ρ) cs vs → All2 (SRep I w ρ0) cs' vs ∧ ∀ s ∈ cs', refs s = []
  | [], cs', vs, h, hr => by
    simp only [resolveAll, Option.some.injEq] at h
    subst h
    match vs, hr with
    | [], _ => exact ⟨trivial, by simp⟩
  | s :: r, cs', vs, h, hr => by
    simp only [resolveAll] at h
    split at h
    · rename_i s' hs'
      split at h
      · rename_i r' hr'
        injection h with h
        subst h
        match vs, hr with
        | v :: vs, ⟨h1, h2⟩ =>
          obtain ⟨e1, e2⟩ := resolve_rep hs hs' h1
          obtain ⟨e3, e4⟩ := resolveAll_rep hs r r' vs hr' h2
          refine ⟨⟨e1, e3⟩, fun s hsm => ?_⟩
          rcases List.mem_cons.1 hsm with rfl | hsm
          · exact e2
          · exact e4 s hsm
      · cases h
    · cases h

theorem boxOf_rep {I : Imm} {ρ : Nat → Value} {a : Act} {w : World} (hs : Sim C I ρ st a w) {id : Nat} {cs : List SV} (h : boxOf st.H id = some cs) : boxRep I w ρ0 cs (bl ρ id) ∧ bk ρ id (st.H id) = some (bl ρ id) ∧ (∃ bs, st.H id = .box bs) ∧ ρ id = boxV (bl ρ id) := by
  unfold boxOf at h
  split at h
  · rename_i bs hH
    have hb := hs.blks id
    rw [hH] at hb
    obtain ⟨B, hB, cur, T, h1, h2, h3⟩ := hb
    have hbl : bl ρ id = B := by simp [bl, hB, boxV, Value.ownBlock]
    rw [hbl]
    exact ⟨⟨cur, T, h1, (resolveAll_rep hs bs cs _ h h2).1, h3⟩, by rw [hH]; simp [bk, hB, boxV, Value.ownBlock], ⟨bs, hH⟩, hB⟩
  · cases h

theorem boxesOf_rep {I : Imm} {ρ : Nat → Value} {a : Act} {w : World} (hs : Sim C I ρ st a w) : ∀ (ids : List Nat) (css : List (List SV)), boxesOf st.H ids = some css → All2 (boxRep I w ρ0) css (ids.map (bl ρ)) ∧ ∀ id ∈ ids, ∃ cs, boxOf st.H id = some cs
  | [], css, h => by simp only [boxesOf, Option.some.injEq] at h; subst h; exact ⟨trivial, by simp⟩
  | i :: r, css, h => by
    simp only [boxesOf] at h
    split at h
    · rename_i cs hc
      split at h
      · rename_i css' hcs
        injection h with h
        subst h
        obtain ⟨e1, e2⟩ := boxesOf_rep hs r css' hcs
        refine ⟨⟨(boxOf_rep hs hc).1, e1⟩, fun id hid => ?_⟩
        rcases List.mem_cons.1 hid with rfl | hid
        · exact ⟨cs, hc⟩
        · exact e2 id hid
      · cases h
    · cases h

theorem argOf_rep {I : Imm} {ρ : Nat → Value} {a : Act} {w : World} (hs : Sim C I ρ st a w) {v : AV} {x : XA} {ids : List Nat} {u : Value} (h : argOf st.H v = some (x, ids)) (hv : AVRep I w ρ v u) :
    argRep I w x u (ids.map (bl ρ)) ∧ ∀ id ∈ ids, ∃ cs, boxOf st.H id = some cs := by
  unfold argOf at h
  split at h
  · rename_i id
    split at h
    · rename_i cs hc
      simp only [Option.some.injEq, Prod.mk.injEq] at h
      obtain ⟨rfl, rfl⟩ := h
      exact ⟨⟨bl ρ id, rfl, hv, (boxOf_rep hs hc).1⟩, fun i hi => by simp at hi; subst hi; exact ⟨cs, hc⟩⟩
    · cases h
  · rename_i f ids'
    split at h
    · rename_i css hc
      simp only [Option.some.injEq, Prod.mk.injEq] at h
      obtain ⟨rfl, rfl⟩ := h
      obtain ⟨e1, e2⟩ := boxesOf_rep hs _ _ hc
      refine ⟨⟨?_, e1⟩, e2⟩
      have hv' : u = .func (.func f) #[] (ids'.map (ptrV ρ)).toArray := hv
      rw [hv', List.map_map]
      rfl
    · cases h
  · rename_i s _ _
    split at h
    · rename_i s' hs'
      simp only [Option.some.injEq, Prod.mk.injEq] at h
      obtain ⟨rfl, rfl⟩ := h
      have hne : s ≠ .undef := by intro e; subst e; simp [resolveSV] at hs'
      exact ⟨⟨(resolve_rep hs hs' (hv.sc hne)).1, rfl⟩, by simp⟩
    · cases h
  · rename_i cs
    split at h
    · rename_i cs' hc
      simp only [Option.some.injEq, Prod.mk.injEq] at h
      obtain ⟨rfl, rfl⟩ := h
      obtain ⟨vs, h1, h2⟩ := hv
      exact ⟨⟨⟨vs, h1, (resolveAll_rep hs _ _ _ hc h2).1⟩, rfl⟩, by simp⟩
    · cases h
  · cases h

theorem argsOf_rep {I : Imm} {ρ : Nat → Value} {a : Act} {w : World} (hs : Sim C I ρ st a w) : ∀ (l : List Operand) (xs : List XA) (ids : List Nat), argsOf st.H (l.map (evalO st)) = some (xs, ids) →
    argsRep I w xs (l.map a.eval) (ids.map (bl ρ)) ∧ ∀ id ∈ ids, ∃ cs, boxOf st.H id = some cs
  | [], xs, ids, h => by
    simp only [List.map_nil, argsOf, Option.some.injEq, Prod.mk.injEq] at h
    obtain ⟨rfl, rfl⟩ := h
    exact ⟨rfl, by simp⟩
  | y :: r, xs, ids, h => by
    simp only [List.map_cons, argsOf] at h
    split at h
    · rename_i x i hx
      split at h
      · rename_i xs' is hxs
        simp only [Option.some.injEq, Prod.mk.injEq] at h
        obtain ⟨rfl, rfl⟩ := h
        obtain ⟨e1, e2⟩ := argOf_rep hs hx (hs.eval y).1
        obtain ⟨e3, e4⟩ := argsOf_rep hs r xs' is hxs
        refine ⟨⟨_, _, by rw [List.map_append], e1, e3⟩, fun id hid => ?_⟩
        rcases List.mem_append.1 hid with hid | hid
        · exact e2 id hid
        · exact e4 id hid
      · cases h
    · cases h

theorem argsRep_boxes {I : Imm} {w : World} : ∀ (xs : List XA) (vs : List Value) (Bs : List Nat) (css : List (List SV)) (Cs : List Nat), argsRep I w xs vs Bs → All2 (boxRep I w ρ0) css Cs → argsRep I w (xs ++ css.map .box) (vs ++ Cs.map bptr) (Bs ++ Cs)
  | [], [], Bs, css, Cs, h, h' => by
    have hB : Bs = [] := h
    subst hB
    simp only [List.nil_append]
    revert h'
    induction css generalizing Cs with
    | nil => intro h'; match Cs, h' with | [], _ => rfl
    | cons c css ih =>
      intro h'
      match Cs, h' with
      | B :: Cs, ⟨h1, h2⟩ => exact ⟨[B], Cs, rfl, ⟨B, rfl, rfl, h1⟩, ih Cs h2⟩
  | x :: xs, v :: vs, Bs, css, Cs, ⟨B1, B2, e, h1, h2⟩, h' => ⟨B1, B2 ++ Cs, by rw [e, List.append_assoc], h1, argsRep_boxes xs vs B2 css Cs h2 h'⟩

theorem nodup_spec : ∀ (l : List Nat), nodup l = true → l.Nodup
  | [], _ => List.nodup_nil
  | x :: l, h => by
    simp only [nodup, Bool.and_eq_true, Bool.not_eq_true', List.any_eq_false] at h
    refine List.nodup_cons.2 ⟨fun hx => ?_, nodup_spec l h.2⟩
    exact absurd (Nat.beq_refl x) (by simpa using h.1 x hx)

/-- The world goes on: what the call was handed turns, all else stays. -/
theorem Sim.step {I I' : Imm} {ρ : Nat → Value} {a : Act} {w w' : World} (h : Sim C I ρ st a w) {H' : Nat → Blk}
    (hI : ∀ b o, I b o → I' b o) (hk : Keeps I w w') (hnew : ∀ b o, I' b o → C.I0 b o ∨ C.base ≤ b) (hin : ∀ b o, I' b o → b < w'.heap.size) (hsz : w.heap.size ≤ w'.heap.size)
    (hold : ∀ i, i < C.base → ¬ C.F i → w'.heap[i]? = w.heap[i]?) (hos : w'.os = w.os) (htape : w'.tape = w.tape) (hout : w'.output = w.output)
    (hblk : ∀ id, (H' id = st.H id ∧ ∀ g, bk ρ id (st.H id) = some g → w'.heap[g]? = w.heap[g]? ∧ ∀ o, I' g o ↔ I g o) ∨
      (∃ cs', H' id = .box cs' ∧ (∃ cs, st.H id = .box cs) ∧ ρ id = boxV (bl ρ id) ∧ boxRep I' w' ρ0 cs' (bl ρ id) ∧ ∀ s ∈ cs', refs s = [])) : Sim C I' ρ ⟨st.T, H'⟩ a w' := by
  have hbk : ∀ id, bk ρ id (H' id) = bk ρ id (st.H id) := fun id => by
    rcases hblk id with ⟨e, _⟩ | ⟨cs', e1, ⟨cs, e2⟩, _⟩
    · rw [e]
    · rw [e1, e2]; rfl
  have hlive : ∀ id, st.H id ≠ .none → H' id ≠ .none := fun id hid => by
    rcases hblk id with ⟨e, _⟩ | ⟨cs', e1, _⟩
    · rw [e]; exact hid
    · rw [e1]; simp
  exact {
    tmps := fun t => (h.tmps t).map fun s v _ => SRep.mono hI hk
    blks := fun id => by
      rcases hblk id with ⟨e, hb⟩ | ⟨cs', e1, _, e3, ⟨cur, T, b1, b2, b3⟩, e5⟩
      · show BlkRep _ _ _ _ _ (H' id)
        rw [e]
        exact (h.blks id).evolve hI hk hb
      · show BlkRep _ _ _ _ _ (H' id)
        rw [e1]
        exact ⟨bl ρ id, e3, cur, T, b1, All2.imp _ _ (fun s v hs hr => SRep.ren (fun i hi => by rw [e5 s hs] at hi; cases hi) hr) b2, b3⟩
    apart := fun i j g hi hj => h.apart i j g (by rw [← hbk]; exact hi) (by rw [← hbk]; exact hj)
    home := fun i g hi => h.home i g (by rw [← hbk]; exact hi)
    refT := fun t id hid => hlive id (h.refT t id hid)
    refH := fun id cs hc s hs i hi => by
      rcases hblk id with ⟨e, _⟩ | ⟨cs', e1, _, _, _, e5⟩
      · exact hlive i (h.refH id cs (by rw [← e]; exact hc) s hs i hi)
      · change H' id = .box cs at hc
        rw [e1] at hc
        injection hc with hc
        subst hc
        rw [e5 s hs] at hi
        cases hi
    imm := fun b o hb => hI b o (h.imm b o hb)
    immNew := hnew
    immIn := hin
    size := Nat.le_trans h.size hsz
    old := fun i hi hF => (hold i hi hF).trans (h.old i hi hF)
    os := hos.trans h.os
    tape := htape.trans h.tape
    output := hout.trans h.output
    defers := h.defers
    frame := h.frame
    args := h.args }

theorem rowRep.base {I : Imm} {w : World} {b b' : Nat} {tid : TypeId} {e : Ty} {xs : List e.I} {v : Value} (h : rowRep I w b tid e xs v) (hb : b' ≤ b) : rowRep I w b' tid e xs v := by
  obtain ⟨cs, h1, h2, h3⟩ := h
  refine ⟨cs, h1, ⟨h2.1, ?_⟩, h3⟩
  rcases h2.2 with h | ⟨g, cap, cur, e1, e2, r⟩
  · exact .inl h
  · exact .inr ⟨g, cap, cur, e1, Nat.le_trans hb e2, r⟩

theorem freshId_ne {dst k k' : Nat} (h : k ≠ k') : freshId dst k ≠ freshId dst k' := by unfold freshId; omega

/-- What a call hands back is laid under new numbers. -/
structure Imported (C : Ctx) (I : Imm) (ρ ρ' : Nat → Value) (T : Nat → AV) (H H' : Nat → Blk) (a : Act) (w : World) (dst k' : Nat) (Cs : List Nat) : Prop where
  sim : Sim C I ρ' ⟨T, H'⟩ a w
  ren : ∀ id, H id ≠ .none → ρ' id = ρ id
  live : ∀ id, H id ≠ .none → H' id ≠ .none
  fresh : ∀ j, k' ≤ j → H' (freshId dst j) = H (freshId dst j)
  blocks : ∀ id g, bk ρ' id (H' id) = some g → bk ρ id (H id) = some g ∨ g ∈ Cs

theorem Imported.refl {I : Imm} {ρ : Nat → Value} {T : Nat → AV} {H : Nat → Blk} {a : Act} {w : World} (h : Sim C I ρ ⟨T, H⟩ a w) (dst k : Nat) : Imported C I ρ ρ T H H a w dst k [] :=
  ⟨h, fun _ _ => rfl, fun _ h => h, fun _ _ => rfl, fun _ _ h => .inl h⟩
theorem Imported.trans {I : Imm} {ρ ρ1 ρ2 : Nat → Value} {T : Nat → AV} {H H1 H2 : Nat → Blk} {a : Act} {w : World} {dst k1 k2 : Nat} {Cs Ds : List Nat} (h1 : Imported C I ρ ρ1 T H H1 a w dst k1 Cs) (h2 : Imported C I ρ1 ρ2 T H1 H2 a w dst k2 Ds) (hk : k1 ≤ k2) : Imported C I ρ ρ2 T H H2 a w dst k2 (Cs ++ Ds) where
  sim := h2.sim
  ren id hid := (h2.ren id (h1.live id hid)).trans (h1.ren id hid)
  live id hid := h2.live id (h1.live id hid)
  fresh j hj := (h2.fresh j hj).trans (h1.fresh j (Nat.le_trans hk hj))
  blocks id g hg := by
    rcases h2.blocks id g hg with h | h
    · rcases h1.blocks id g h with h | h
      · exact .inl h
      · exact .inr (List.mem_append.2 (.inl h))
    · exact .inr (List.mem_append.2 (.inr h))

theorem importRC_ok {I : Imm} {a : Act} {w : World} {base : Nat} (hbase : C.base ≤ base) (dst : Nat) (H0 : Nat → Blk) : ∀ (rcs : List RC) (k k' : Nat) (vs : List SV) (us : List (Nat × Blk)) (uvs : List Value) (Cs : List Nat) (ρ : Nat → Value) (T : Nat → AV) (H : Nat → Blk),
    importRC H0 dst k rcs = some (vs, us, k') → rcsRep I w base rcs uvs Cs → Cs.Nodup → Sim C I ρ ⟨T, H⟩ a w → (∀ id g, bk ρ id (H id) = some g → g ∉ Cs) → (∀ j, k ≤ j → H0 (freshId dst j) = .none → H (freshId dst j) = .none) →
    k ≤ k' ∧ ∃ ρ', Imported C I ρ ρ' T H (upds H us) a w dst k' Cs ∧ All2 (SRep I w ρ') vs uvs ∧ ∀ s ∈ vs, ∀ id ∈ refs s, upds H us id ≠ .none
  | [], k, k', vs, us, uvs, Cs, ρ, T, H, h, hr, hn, hs, hd, hf => by
    simp only [importRC, Option.some.injEq, Prod.mk.injEq] at h
    obtain ⟨rfl, rfl, rfl⟩ := h
    match uvs, hr with
    | [], hr =>
      have : Cs = [] := hr
      subst this
      exact ⟨Nat.le_refl _, ρ, Imported.refl hs dst k, trivial, by simp⟩
  | .s sv :: r, k, k', vs, us, uvs, Cs, ρ, T, H, h, hr, hn, hs, hd, hf => by
    simp only [importRC] at h
    split at h
    · rename_i vs' us' k1 h1
      simp only [Option.some.injEq, Prod.mk.injEq] at h
      obtain ⟨rfl, rfl, rfl⟩ := h
      match uvs, hr with
      | u :: uvs, ⟨B1, B2, e, ⟨h2, h3, h4⟩, h5⟩ =>
        subst h3
        simp only [List.nil_append] at e
        subst e
        obtain ⟨hk, ρ', hi, ha, hl⟩ := importRC_ok hbase dst H0 r k k1 vs' us' uvs Cs ρ T H h1 h5 hn hs hd hf
        refine ⟨hk, ρ', hi, ⟨SRep.ren (fun i hi => by rw [h4] at hi; cases hi) h2, ha⟩, fun s hsm id hid => ?_⟩
        rcases List.mem_cons.1 hsm with rfl | hsm
        · rw [h4] at hid; cases hid
        · exact hl s hsm id hid
    · cases h
  | .own tid e xs :: r, k, k', vs, us, uvs, Cs, ρ, T, H, h, hr, hn, hs, hd, hf => by
    simp only [importRC] at h
    split at h
    · rename_i vs' us' k1 h0 h1
      simp only [Option.some.injEq, Prod.mk.injEq] at h
      obtain ⟨rfl, rfl, rfl⟩ := h
      match uvs, hr with
      | u :: uvs, ⟨B1, B2, e', ⟨h2, h3⟩, h5⟩ =>
        subst e'
        have hfr : H (freshId dst k) = .none := hf k (Nat.le_refl _) h0
        have hub : ∀ g, u.ownBlock = some g → g ∈ B1 := fun g hg => by rw [h3, hg]; simp
        have hnd := List.nodup_append.1 hn
        have hs1 := hs.new (id := freshId dst k) hfr (C.z_ge (by unfold freshId; omega)) (V := u) (b := .row tid e xs) (by show rowRep _ _ _ _ _ _ _; rw [upd_same]; exact h2.base hbase)
          (fun j g hj hg => hd j g hj (List.mem_append.2 (.inl (hub g hg)))) (fun g hg => .inl (by
            obtain ⟨cs, _, r2, _⟩ := h2
            exact Nat.le_trans hbase (r2.lt g hg).1)) (by simp) (by simp)
        have him : Imported C I ρ (upd ρ (freshId dst k) u) T H (upd H (freshId dst k) (.row tid e xs)) a w dst (k + 1) B1 :=
          ⟨hs1, fun id hid => upd_ne _ _ (fun e : id = freshId dst k => hid (by rw [e]; exact hfr)), fun id hid => by rw [upd_ne _ _ (fun e : id = freshId dst k => hid (by rw [e]; exact hfr))]; exact hid,
            fun j hj => upd_ne _ _ (freshId_ne (by omega)), fun id g hg => by
              by_cases hid : id = freshId dst k
              · subst hid
                rw [upd_same] at hg
                simp only [bk, upd_same] at hg
                exact .inr (hub g hg)
              · rw [upd_ne _ _ hid] at hg
                rw [bk_ren (upd_ne ρ u hid)] at hg
                exact .inl hg⟩
        obtain ⟨hk, ρ', hi, ha, hl⟩ := importRC_ok hbase dst H0 r (k + 1) k1 vs' us' uvs B2 _ T _ h1 h5 hnd.2.1 hs1 (fun id g hg hm => by
          rcases him.blocks id g hg with h | h
          · exact hd id g h (List.mem_append.2 (.inr hm))
          · exact hnd.2.2 g h g hm rfl) (fun j hj h0 => by rw [upd_ne _ _ (freshId_ne (by omega))]; exact hf j (by omega) h0)
        have hlid : upd H (freshId dst k) (.row tid e xs) (freshId dst k) ≠ .none := by rw [upd_same]; simp
        refine ⟨by omega, ρ', him.trans hi hk, ⟨⟨?_, ?_⟩, ha⟩, fun s hsm id hid => ?_⟩
        · rw [hi.ren _ hlid, upd_same]
        · obtain ⟨cs, _, _, h6, _⟩ := h2; exact h6
        · rcases List.mem_cons.1 hsm with rfl | hsm
          · simp only [refs, List.mem_singleton] at hid
            subst hid
            exact hi.live _ hlid
          · exact hl s hsm id hid
    · cases h
  | .nbox cs :: r, k, k', vs, us, uvs, Cs, ρ, T, H, h, hr, hn, hs, hd, hf => by
    simp only [importRC] at h
    split at h
    · rename_i vs' us' k1 h0 h1
      simp only [Option.some.injEq, Prod.mk.injEq] at h
      obtain ⟨rfl, rfl, rfl⟩ := h
      match uvs, hr with
      | u :: uvs, ⟨B1, B2, e', ⟨B, hu, hbB, hbr, h3, hrf⟩, h5⟩ =>
        subst h3
        subst hu
        subst e'
        have hfr : H (freshId dst k) = .none := hf k (Nat.le_refl _) h0
        have hnd := List.nodup_append.1 hn
        have hs1 := hs.new (id := freshId dst k) hfr (C.z_ge (by unfold freshId; omega)) (V := boxV B) (b := .box cs) (by
            obtain ⟨cur, T', b1, b2, b3⟩ := hbr
            exact ⟨B, by rw [upd_same], cur, T', b1, All2.imp _ _ (fun s v hsm hr => SRep.ren (fun i hi => by rw [hrf s hsm] at hi; cases hi) hr) b2, b3⟩)
          (fun j g hj hg => by
            simp only [boxV, Value.ownBlock, Option.some.injEq] at hg
            subst hg
            exact hd j _ hj (by simp)) (fun g hg => .inl (by
            simp only [boxV, Value.ownBlock, Option.some.injEq] at hg
            subst hg
            exact Nat.le_trans hbase hbB)) (fun cs' hc s hsm i hi => by
            injection hc with hc
            subst hc
            rw [hrf s hsm] at hi
            cases hi) (by simp)
        have him : Imported C I ρ (upd ρ (freshId dst k) (boxV B)) T H (upd H (freshId dst k) (.box cs)) a w dst (k + 1) [B] :=
          ⟨hs1, fun id hid => upd_ne _ _ (fun e : id = freshId dst k => hid (by rw [e]; exact hfr)), fun id hid => by rw [upd_ne _ _ (fun e : id = freshId dst k => hid (by rw [e]; exact hfr))]; exact hid,
            fun j hj => upd_ne _ _ (freshId_ne (by omega)), fun id g hg => by
              by_cases hid : id = freshId dst k
              · subst hid
                rw [upd_same] at hg
                simp only [bk, upd_same, boxV, Value.ownBlock, Option.some.injEq] at hg
                exact .inr (by simp [hg])
              · rw [upd_ne _ _ hid] at hg
                rw [bk_ren (upd_ne ρ _ hid)] at hg
                exact .inl hg⟩
        obtain ⟨hk, ρ', hi, ha, hl⟩ := importRC_ok hbase dst H0 r (k + 1) k1 vs' us' uvs B2 _ T _ h1 h5 hnd.2.1 hs1 (fun id g hg hm => by
          rcases him.blocks id g hg with h | h
          · exact hd id g h (List.mem_append.2 (.inr hm))
          · exact hnd.2.2 g h g hm rfl) (fun j hj h0 => by rw [upd_ne _ _ (freshId_ne (by omega))]; exact hf j (by omega) h0)
        have hlid : upd H (freshId dst k) (.box cs) (freshId dst k) ≠ .none := by rw [upd_same]; simp
        refine ⟨by omega, ρ', him.trans hi hk, ⟨?_, ha⟩, fun s hsm id hid => ?_⟩
        · show _ = _
          simp [bl, hi.ren _ hlid, upd_same, boxV, Value.ownBlock, bptr]
        · rcases List.mem_cons.1 hsm with rfl | hsm
          · simp only [refs, List.mem_singleton] at hid
            subst hid
            exact hi.live _ hlid
          · exact hl s hsm id hid
    · cases h
end
end Go.Pev
