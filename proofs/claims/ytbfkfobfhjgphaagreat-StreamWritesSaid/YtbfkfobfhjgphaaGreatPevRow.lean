/- The abstract evaluator: from a function's contract to a law's row: arguments that are read as data are what the evaluator's values mean. -/
import Derived.Test.YtbfkfobfhjgphaaGreatPevX
import Derived.WalkKit
import Derived.ProofKit
import Derived.OpenShut
import Derived.ChangeOld
import Derived.Below
import Derived.SizedLaws
import Derived.Carry
import Derived.Clock
import Derived.Deep.Slices
set_option linter.unusedVariables false
set_option linter.unusedSimpArgs false
namespace Go.Pev
open Go Go.ChangeShapes Go.WideShapes Go.ChangeAt Go.RowKit

/-- Numbers fit into their kinds. -/
def WF : (t : Ty) → t.I → Prop
  | .int k, n => (Lit.int k n).wf = true
  | .bool, _ => True
  | .str, _ => True
  | .pair a b, x => WF a x.1 ∧ WF b x.2
  | .sl e, xs => ∀ x ∈ xs, WF e x

def chain : List Ty → Option Ty
  | [] => none
  | [a] => some a
  | a :: b :: l => match chain (b :: l) with
    | some t => some (.pair a t)
    | none => none

/-- The leaves of a type, as the program's table tells it; of a struct's fields one behind the other. -/
def rdFs (P : Program) (r : TypeId → Option (List Ty)) : Nat → List Field → Option (List Ty)
  | _, [] => some []
  | o, f :: fs => match r f.type with
    | some l => bif Nat.beq f.offset o && Nat.beq (P.cellsOf f.type) l.length then match rdFs P r (o + l.length) fs with
      | some m => some (l ++ m)
      | none => none
      else none
    | none => none
def rdL (P : Program) : Nat → TypeId → Option (List Ty)
  | 0, _ => none
  | n + 1, t => match P.underlying t with
    | some (.int k) => some [.int k]
    | some .bool => some [.bool]
    | some (.slice e) => match rdL P n e with
      | some l => match chain l with
        | some ty => bif Nat.beq (P.cellsOf e) l.length && Nat.beq ty.size l.length then some [.sl ty] else none
        | none => none
      | none => none
    | some (.struct fs) => match rdFs P (rdL P n) 0 fs.toList with
      | some l => bif Nat.beq (P.cellsOf t) l.length then some l else none
      | none => none
    | _ => none

def LRep (I : Imm) (w : World) : List Ty → List Value → Prop
  | [], [] => True
  | t :: ts, c :: cs => (∃ v : t.I, WF t v ∧ CRep I w t v [c]) ∧ LRep I w ts cs
  | _, _ => False
theorem LRep.length {I : Imm} {w : World} : ∀ (l : List Ty) (cs : List Value), LRep I w l cs → cs.length = l.length
  | [], [], _ => rfl
  | t :: ts, c :: cs, h => by simp [LRep.length ts cs h.2]
  | [], _ :: _, h => h.elim
  | _ :: _, [], h => h.elim
theorem LRep.append {I : Imm} {w : World} : ∀ (l m : List Ty) (cs ds : List Value), LRep I w l cs → LRep I w m ds → LRep I w (l ++ m) (cs ++ ds)
  | [], m, [], ds, _, h => h
  | t :: ts, m, c :: cs, ds, h, h' => ⟨h.1, LRep.append ts m cs ds h.2 h'⟩
  | [], _, _ :: _, _, h, _ => h.elim
  | _ :: _, _, [], _, h, _ => h.elim
theorem LRep.chain {I : Imm} {w : World} : ∀ (l : List Ty) (cs : List Value) (ty : Ty), LRep I w l cs → chain l = some ty → ∃ v : ty.I, WF ty v ∧ CRep I w ty v cs
  | [], cs, ty, _, h => by simp [Go.Pev.chain] at h
  | [a], [c], ty, ⟨h1, _⟩, h => by
    simp only [Go.Pev.chain, Option.some.injEq] at h
    subst h
    exact h1
  | [a], _ :: _ :: _, ty, h, _ => h.2.elim
  | [a], [], ty, h, _ => h.elim
  | a :: b :: l, [], ty, h, _ => h.elim
  | a :: b :: l, c :: cs, ty, ⟨⟨v, h1, h1'⟩, h2⟩, h => by
    simp only [Go.Pev.chain] at h
    split at h
    · rename_i t ht
      injection h with h
      subst h
      obtain ⟨u, h3, h4⟩ := LRep.chain (b :: l) cs t h2 ht
      exact ⟨(v, u), ⟨h1, h3⟩, [c], cs, rfl, h1', h4⟩
    · cases h

theorem collect {α : Type} (Q : Nat → α → Prop) : ∀ n, (∀ i, i < n → ∃ v, Q i v) → ∃ vs : List α, vs.length = n ∧ ∀ i (h : i < vs.length), Q i vs[i]
  | 0, _ => ⟨[], rfl, fun i hi => absurd hi (Nat.not_lt_zero _)⟩
  | n + 1, h => by
    obtain ⟨vs, g1, g3⟩ := collect Q n fun i hi => h i (by omega)
    obtain ⟨v, g4⟩ := h n (by omega)
    refine ⟨vs ++ [v], by simp [g1], fun i hi => ?_⟩
    by_cases hlt : i < vs.length
    · rw [List.getElem_append_left hlt]; exact g3 i hlt
    · have : i = n := by simp at hi; omega
      subst this
      rw [List.getElem_append_right (by omega)]
      simpa [g1] using g4

def liveI (w : World) : Imm := fun b _ => b < w.heap.size

section
variable {H : Type} {enc : TypeId × Value → H} {P : Program} {w : World} {base : Nat} {spare : Nat → Bool} {held : Bool}

theorem rd_ok : ∀ (n : Nat) (t : TypeId) (l : List Ty), rdL P n t = some l → ∀ (fuel : Nat) (cs : List Value) (x : DataW H × List MemPlace), DataW.trod enc P w base spare held fuel t cs = some x → LRep (liveI w) w l cs
  | 0, t, l, h => by simp [rdL] at h
  | n + 1, t, l, h => by
    intro fuel cs x hx
    simp only [rdL] at h
    split at h
    · rename_i k hk
      injection h with h
      subst h
      obtain ⟨m, rfl, _, hw⟩ := DataW.trod_int hk hx
      exact ⟨⟨m, hw, rfl⟩, trivial⟩
    · rename_i hk
      injection h with h
      subst h
      obtain ⟨b, rfl, _⟩ := DataW.trod_bool hk hx
      exact ⟨⟨b, trivial, rfl⟩, trivial⟩
    · rename_i e hk
      split at h
      · rename_i le hle
        split at h
        · rename_i ty hty
          simp only [cond_eq_ite] at h
          split at h
          · rename_i hc
            injection h with h
            subst h
            simp only [Bool.and_eq_true] at hc
            have hc1 := Nat.eq_of_beq_eq_true hc.1
            have hc2 := Nat.eq_of_beq_eq_true hc.2
            rcases Go.Deep.open_slice hk hx with ⟨rfl, _⟩ | ⟨a, len, cap, m, fu, D, Pl, rfl, hb, hl, hm, hmm, _, hi⟩
            · refine ⟨⟨([] : List ty.I), fun x hx => (by cases hx), none, 0, rfl, Nat.le_refl _, fun i hi => absurd hi (Nat.not_lt_zero _)⟩, trivial⟩
            · have hlm : len ≤ m := by rw [hmm]; split <;> omega
              have each : ∀ i, i < len → ∃ v : ty.I, WF ty v ∧ ∃ cs', CRep (liveI w) w ty v cs' ∧ ∀ j u, cs'[j]? = some u → liveI w (a.add (i * ty.size + j)).block (a.add (i * ty.size + j)).off ∧ w.cell? (a.add (i * ty.size + j)) = some u := by
                intro i hi'
                obtain ⟨cs', h1, h2⟩ := hi i (by omega)
                obtain ⟨v, h3, h4⟩ := LRep.chain le cs' ty (rd_ok n e le hle _ _ _ h2) hty
                refine ⟨v, h3, cs', h4, fun j u hj => ?_⟩
                obtain ⟨_, h5, h6⟩ := World.cells?_some h1
                have hj' : j < cs'.length := (List.getElem?_eq_some_iff.1 hj).1
                have h7 := h6 j (by omega)
                rw [add_add, hj] at h7
                rw [hc1, ← hc2] at h7
                exact ⟨Go.Clock.block_lt h7, h7⟩
              obtain ⟨vs, g1, g3⟩ := collect _ len each
              refine ⟨⟨vs, fun x hx => ?_, some a, cap, by rw [g1], by omega, fun i hi' => ?_⟩, trivial⟩
              · obtain ⟨i, hi', rfl⟩ := List.mem_iff_getElem.1 hx
                exact (g3 i hi').1
              · obtain ⟨_, cs', g4, g5⟩ := g3 i hi'
                exact ⟨a, cs', rfl, g4, g5⟩
          · cases h
        · cases h
      · cases h
    · rename_i fs hk
      split at h
      · rename_i l' hl'
        simp only [cond_eq_ite] at h
        split at h
        · rename_i hc
          injection h with h
          subst h
          have hc := Nat.eq_of_beq_eq_true hc
          obtain ⟨xs, m, _, _, hcs, hlen, hf⟩ := DataW.trod_struct hk hx
          have gen : ∀ (fl : List Field) (o : Nat) (l : List Ty), rdFs P (rdL P n) o fl = some l → (∀ f ∈ fl, ∃ x, DataW.trod enc P w base spare held m f.type ((cs.drop f.offset).take (P.cellsOf f.type)) = some x) → o + l.length ≤ cs.length → LRep (liveI w) w l ((cs.drop o).take l.length) := by
            intro fl
            induction fl with
            | nil =>
              intro o l hl _ _
              simp only [rdFs, Option.some.injEq] at hl
              subst hl
              simp [LRep]
            | cons f fl ih =>
              intro o l hl hff ho
              simp only [rdFs] at hl
              split at hl
              · rename_i lf hlf
                simp only [cond_eq_ite] at hl
                split at hl
                · rename_i hcc
                  split at hl
                  · rename_i mm hmm
                    injection hl with hl
                    subst hl
                    simp only [Bool.and_eq_true] at hcc
                    have e1 := Nat.eq_of_beq_eq_true hcc.1
                    have e2 := Nat.eq_of_beq_eq_true hcc.2
                    obtain ⟨y, hy⟩ := hff f (by simp)
                    rw [e1, e2] at hy
                    have h1 := rd_ok n f.type lf hlf _ _ _ hy
                    simp only [List.length_append] at ho
                    have h2 := ih (o + lf.length) mm hmm (fun g hg => hff g (List.mem_cons_of_mem _ hg)) (by omega)
                    have h3 := LRep.append _ _ _ _ h1 h2
                    have e3 : (cs.drop o).take (lf ++ mm).length = (cs.drop o).take lf.length ++ (cs.drop (o + lf.length)).take mm.length := by
                      rw [List.length_append, List.take_add, List.drop_drop]
                    rw [e3]
                    exact h3
                  · cases hl
                · cases hl
              · cases hl
          have h1 := gen fs.toList 0 l' hl' (fun f hf' => by
            obtain ⟨i, hi⟩ := List.mem_iff_getElem?.1 hf'
            have hi' : fs[i]? = some f := by simpa using hi
            have h2 := hf i f hi'
            have h3 : i < fs.size := (Array.getElem?_eq_some_iff.1 hi').1
            exact ⟨_, h2.trans (List.getElem?_eq_getElem (by omega))⟩) (by omega)
          rw [List.drop_zero, List.take_of_length_le (by omega)] at h1
          exact h1
        · cases h
      · cases h
    · cases h
end

theorem parse_cellsOf (Hp : Nat → Blk) : ∀ (t : Ty) (x : t.I) (r : List SV), parse Hp t (cellsOf t x ++ r) = some (x, r)
  | .int k, x, r => by simp [cellsOf, parse]
  | .bool, x, r => by simp [cellsOf, parse]
  | .str, x, r => by simp [cellsOf, parse]
  | .pair a b, x, r => by
    simp only [cellsOf, parse, List.append_assoc]
    rw [parse_cellsOf Hp a x.1 (cellsOf b x.2 ++ r)]
    simp only []
    rw [parse_cellsOf Hp b x.2 r]
  | .sl e, x, r => by simp [cellsOf, parse, viewOf, castL]
theorem parseAll_cellsOf (Hp : Nat → Blk) (t : Ty) (x : t.I) : parseAll Hp t (cellsOf t x) = some x := by
  unfold parseAll
  have := parse_cellsOf Hp t x []
  rw [List.append_nil] at this
  rw [this]

def isAggT (P : Program) (t : TypeId) : Bool := match P.underlying t with
  | some (.struct _) => true
  | _ => false
def rdA (P : Program) (n : Nat) (t : TypeId) : Option AT := match rdL P n t with
  | some l => match chain l with
    | some ty => some (.val (isAggT P t) ty)
    | none => none
  | none => none
def rdAs (P : Program) (n : Nat) : List TypeId → Option (List AT)
  | [] => some []
  | t :: ts => match rdA P n t, rdAs P n ts with
    | some a, some l => some (a :: l)
    | _, _ => none

def WFA : (a : AT) → a.I → Prop
  | .val _ t, x => WF t x
  | _, _ => True
def WFAs : (l : List AT) → argsI l → Prop
  | [], _ => True
  | [a], x => WFA a x
  | a :: b :: l, x => WFA a x.1 ∧ WFAs (b :: l) x.2

section
variable {H : Type} {enc : TypeId × Value → H} {P : Program} {w : World} {base : Nat} {spare : Nat → Bool} {held : Bool}

theorem arg_rd {n : Nat} {t : TypeId} {v : Value} {d : DataW H} {p : List MemPlace} {a : AT} {b0 : Nat} {rc : Reach} (ha : rdA P n t = some a) (hv : Value.okWide P w rc b0 t v) (h : DataW.Trod enc P w base spare held t v d p) :
    ∃ (x : a.I) (xa : XA), WFA a x ∧ decArg a xa = some x ∧ argRep (liveI w) w xa v [] := by
  obtain ⟨fuel, hf⟩ := h
  unfold rdA at ha
  split at ha
  · rename_i l hl
    split at ha
    · rename_i ty hty
      injection ha with ha
      subst ha
      have h1 := rd_ok n t l hl _ _ _ hf
      obtain ⟨x, h2, h3⟩ := LRep.chain l _ ty h1 hty
      have h4 := cellsOf_rep (ρ := ρ0) _ _ _ h3
      have hdec : ∀ g : Bool, decArg (.val g ty) (.val g (cellsOf ty x)) = some x := fun g => by
        simp [decArg, parseAll_cellsOf]
      by_cases hs : ∃ fs, P.underlying t = some (.struct fs)
      · obtain ⟨fs, hs⟩ := hs
        obtain ⟨cs, rfl, _⟩ := okWide_struct hs hv
        have hg : isAggT P t = true := by simp [isAggT, hs]
        rw [hg]
        exact ⟨x, .val true (cellsOf ty x), h2, hdec true, ⟨cs, rfl, h4⟩, rfl⟩
      · have hg : isAggT P t = false := by
          unfold isAggT
          split
          · rename_i fs hh; exact absurd ⟨fs, hh⟩ hs
          · rfl
        have hc : v.cells.toList = [v] := by
          cases n with
          | zero => simp [rdL] at hl
          | succ n =>
            simp only [rdL] at hl
            split at hl
            · rename_i k hk; obtain ⟨m, rfl⟩ := okWide_int hk hv; rfl
            · rename_i hk; obtain ⟨m, rfl⟩ := okWide_bool hk hv; rfl
            · rename_i e hk; obtain ⟨m, q, r, rfl⟩ := okWide_slice hk hv; rfl
            · rename_i fs hk; exact absurd ⟨fs, hk⟩ hs
            · cases hl
        rw [hc] at h4
        rw [hg]
        have hd := hdec false
        generalize cellsOf ty x = cs at h4 hd
        match cs, h4 with
        | [s], h4 => exact ⟨x, .val false [s], h2, hd, h4.1, rfl⟩
        | [], h4 => exact h4.elim
        | _ :: _ :: _, h4 => exact h4.2.elim
    · cases ha
  · cases ha

theorem args_rd {n : Nat} {b0 : Nat} {rc : Reach} : ∀ (ts : List TypeId) (vs : List Value) (ds : List (DataW H)) (p : List MemPlace) (l : List AT), rdAs P n ts = some l →
    (∀ (j : Nat) t v, ts[j]? = some t → vs[j]? = some v → Value.okWide P w rc b0 t v) → DataW.TrodAll enc P w base spare held ts vs ds p →
    ∃ (x : argsI l) (xs : List XA), WFAs l x ∧ decArgs l xs = some x ∧ argsRep (liveI w) w xs vs []
  | [], vs, ds, p, l, hl, hv, h => by
    simp only [rdAs, Option.some.injEq] at hl
    subst hl
    obtain ⟨rfl, rfl, rfl⟩ := trodAll_nil h
    exact ⟨(), [], trivial, rfl, rfl⟩
  | t :: ts, vs, ds, p, l, hl, hv, h => by
    simp only [rdAs] at hl
    split at hl
    · rename_i a l' ha hl'
      injection hl with hl
      subst hl
      obtain ⟨v, vs, d, ds, p, q, rfl, rfl, rfl, h1, h2⟩ := trodAll_cons h
      obtain ⟨x, xa, h3, h4, h5⟩ := arg_rd ha (hv 0 t v rfl rfl) h1
      obtain ⟨y, ys, h6, h7, h8⟩ := args_rd ts vs ds q l' hl' (fun j t v ht hv' => hv (j + 1) t v (by simpa using ht) (by simpa using hv')) h2
      match l', y, h6, h7 with
      | [], y, h6, h7 =>
        have : ys = [] := by
          cases ys with
          | nil => rfl
          | cons a b => simp [decArgs] at h7
        subst this
        exact ⟨x, [xa], h3, h4, ⟨[], [], rfl, h5, h8⟩⟩
      | b :: l'', y, h6, h7 =>
        exact ⟨(x, y), xa :: ys, ⟨h3, h6⟩, by simp only [decArgs]; rw [h4, h7], ⟨[], [], rfl, h5, h8⟩⟩
    · cases hl
end

theorem trodAll_below {H : Type} {enc : TypeId × Value → H} {P : Program} (hl : laidOutB P = true) {W W' : World} (hb : Below W.heap.size W W') : ∀ (ts : List TypeId) (vs : List Value) (ds : List (DataW H)) (p : List MemPlace),
    (ts.all fun t => P.readableRec t && decide (t < P.types.size)) = true → DataW.TrodAll enc P W 0 (fun _ => true) true ts vs ds p → DataW.TrodAll enc P W' 0 (fun b => decide (b < W.heap.size)) true ts vs ds p
  | [], vs, ds, p, _, h => by
    obtain ⟨rfl, rfl, rfl⟩ := trodAll_nil h
    exact trodAll_mk0
  | t :: ts, vs, ds, p, ht, h => by
    obtain ⟨v, vs, d, ds, p, q, rfl, rfl, rfl, h1, h2⟩ := trodAll_cons h
    simp only [List.all_cons, Bool.and_eq_true, decide_eq_true_eq] at ht
    have hlt : ∀ x ∈ p, x.block < W.heap.size := by obtain ⟨m, hm⟩ := h1; exact DataW.trod_lt m _ _ _ hm
    exact trodAll_cons_mk (Below.trod hl ht.1.1 ht.1.2 h1 hb hlt) (trodAll_below hl hb ts vs ds q (by simpa using ht.2) h2)

/-- A law that yields true, as its callers see it. -/
theorem law_calls {P : Program} {g : FuncId} {fn : Func} {ats : List AT} {f : argsI ats → Option Bool} (hF : FnOK P g ⟨⟨ats, [(false, [.ty .bool])], []⟩, f⟩) (hf : P.funcs[g]? = some fn) (hname : (fn.name == "runtime.NumGoroutine") = false) (hb : fn.body.isSome = true)
    {w : World} {vs : List Value} {xs : List XA} {x : argsI ats} (ha : argsRep (liveI w) w xs vs []) (hd : decArgs ats xs = some x) (hx : f x = some true) :
    Calls P g vs.toArray w fun e w' => e = .returned (.bool true) ∧ Below w.heap.size w w' := by
  have hcf := hF x true xs hx hd w (liveI w) vs [] (fun b o h => h) ha (by simp)
  have hname' : ¬ fn.name = "runtime.NumGoroutine" := by simpa using hname
  rcases hcf with ⟨_, hc⟩ | ⟨v, hc, _⟩
  · refine hc.mono fun e w' ⟨v, I', Cs, he, hp⟩ => ?_
    have hr : resRep I' w' w.heap.size [(false, [RC.s (.bool true)])] v Cs := hp.rets
    have hv : v = .bool true := hr.1
    subst hv
    exact ⟨he, hp.os, hp.tape, hp.output, hp.size, fun k hk => hp.old k hk (by simp)⟩
  · obtain ⟨c, hb⟩ := Option.isSome_iff_exists.1 hb
    simp [callFunc, hf, hname', hb, Sem.run_bind] at hc
end Go.Pev
