/- The abstract evaluator: contracts that are proved by hand: what arguments are. -/
import Derived.Test.YtbfkfobfhjgphaaGreatPevX
import Derived.Below
set_option linter.unusedVariables false
set_option linter.unusedSimpArgs false
namespace Go.Pev
open Go Go.RowKit

section
variable {I : Imm} {w : World}
theorem argv_false (hin : ∀ b o, I b o → b < w.heap.size) {t : Ty} {x : t.I} {xa : XA} {v : Value} {Bs : List Nat} (h : decArg (.val false t) xa = some x) (hr : argRep I w xa v Bs) : Bs = [] ∧ CRep I w t x [v] := by
  match xa, h, hr with
  | .val false [s], h, ⟨h1, e2⟩ =>
    have h : parseAll noH t [s] = some x := h
    exact ⟨e2, parse0_rep (vs := [v]) hin h ⟨h1, trivial⟩⟩
  | .val true _, h, _ => simp [decArg] at h
  | .val false [], _, h => exact h.elim
  | .val false (_ :: _ :: _), _, h => exact h.elim
  | .box _, h, _ => simp [decArg] at h
  | .clo _ _, h, _ => simp [decArg] at h
theorem argv_true (hin : ∀ b o, I b o → b < w.heap.size) {t : Ty} {x : t.I} {xa : XA} {v : Value} {Bs : List Nat} (h : decArg (.val true t) xa = some x) (hr : argRep I w xa v Bs) : Bs = [] ∧ ∃ vs, v = .agg vs ∧ CRep I w t x vs.toList := by
  match xa, h, hr with
  | .val true cs, h, ⟨⟨vs, e, h1⟩, e2⟩ =>
    have h : parseAll noH t cs = some x := h
    exact ⟨e2, vs, e, parse0_rep hin h h1⟩
  | .val false [], h, _ => simp [decArg] at h
  | .val false [_], h, _ => simp [decArg] at h
  | .val false (_ :: _ :: _), h, _ => simp [decArg] at h
  | .box _, h, _ => simp [decArg] at h
  | .clo _ _, h, _ => simp [decArg] at h
theorem argv_unit {x : Unit} {xa : XA} {v : Value} {Bs : List Nat} (h : decArg .unit xa = some x) (hr : argRep I w xa v Bs) : Bs = [] ∧ v = .slice none 0 0 := by
  have hx : xa = .val false [.nilsl] := by
    match xa, h with
    | .val false [.nilsl], _ => rfl
    | .val true _, h => simp [decArg] at h
    | .val false [], h => simp [decArg] at h
    | .val false (.nilsl :: _ :: _), h => simp [decArg] at h
    | .val false (.undef :: _), h => simp [decArg] at h
    | .val false (.int _ _ :: _), h => simp [decArg] at h
    | .val false (.bool _ :: _), h => simp [decArg] at h
    | .val false (.str _ :: _), h => simp [decArg] at h
    | .val false (.view _ _ :: _), h => simp [decArg] at h
    | .val false (.nilp :: _), h => simp [decArg] at h
    | .val false (.row _ :: _), h => simp [decArg] at h
    | .val false (.ptr _ _ :: _), h => simp [decArg] at h
    | .val false (.eptr _ _ _ :: _), h => simp [decArg] at h
    | .val false (.clo _ _ :: _), h => simp [decArg] at h
    | .box _, h => simp [decArg] at h
    | .clo _ _, h => simp [decArg] at h
  subst hx
  exact ⟨hr.2, hr.1⟩

theorem args_one {a : AT} {xs : List XA} {x : a.I} {vs : List Value} {Bs : List Nat} (h : decArgs [a] xs = some x) (hr : argsRep I w xs vs Bs) : ∃ xa v, vs = [v] ∧ decArg a xa = some x ∧ argRep I w xa v Bs := by
  match xs, vs, h, hr with
  | [xa], [v], h, ⟨B1, B2, e, h1, h2⟩ =>
    have : B2 = [] := h2
    subst this
    rw [List.append_nil] at e
    subst e
    exact ⟨xa, v, rfl, h, h1⟩
  | [], _, h, _ => simp [decArgs] at h
  | _ :: _ :: _, _, h, _ => simp [decArgs] at h
  | [_], [], _, h => exact h.elim
  | [_], _ :: _ :: _, _, ⟨_, _, _, _, h⟩ => exact h.elim
theorem args_cons {a b : AT} {l : List AT} {xs : List XA} {x : a.I} {y : argsI (b :: l)} {vs : List Value} {Bs : List Nat} (h : decArgs (a :: b :: l) xs = some (x, y)) (hr : argsRep I w xs vs Bs) :
    ∃ xa ys v vs' B1 B2, vs = v :: vs' ∧ Bs = B1 ++ B2 ∧ decArg a xa = some x ∧ argRep I w xa v B1 ∧ decArgs (b :: l) ys = some y ∧ argsRep I w ys vs' B2 := by
  match xs, vs, h, hr with
  | xa :: ys, v :: vs', h, ⟨B1, B2, e, h1, h2⟩ =>
    simp only [decArgs] at h
    split at h
    · rename_i p q hp hq
      simp only [Option.some.injEq, Prod.mk.injEq] at h
      obtain ⟨rfl, rfl⟩ := h
      exact ⟨xa, ys, v, vs', B1, B2, rfl, e, hp, h1, hq, h2⟩
    · cases h
  | [], _, h, _ => simp [decArgs] at h
  | _ :: _, [], _, h => exact h.elim
end

/-- a row of whole numbers that is owned -/
theorem frep_ints {I' : Imm} {w' : World} (k : IntKind) : ∀ (xs : List Int), FRep I' w' (.int k) xs (xs.map (Value.int k))
  | [] => rfl
  | x :: xs => ⟨[.int k x], xs.map (Value.int k), rfl, rfl, frep_ints k xs⟩
/-- what is owned: the cells of a new row -/
theorem post_own {k : IntKind} {e : TypeId} {w w' : World} {I : Imm} (hin : ∀ b o, I b o → b < w.heap.size) {v : Value} {xs : List Int} (ho : w'.ownsRow w.heap.size e 1 v xs.length (xs.map (Value.int k))) (hb : Below w.heap.size w w') :
    ∃ I' Cs, Post I w [] ⟨[(false, [RC.own e (.int k) xs])], []⟩ v w' I' Cs := by
  have hone : v.oneCell' = true := by
    rcases ho.2 with ⟨rfl, _⟩ | ⟨g, cap, cur, rfl, _⟩ <;> rfl
  refine ⟨fun b o => I b o ∨ (v.ownBlock = some b ∧ o < xs.length), v.ownBlock.toList, ?_⟩
  exact {
    imm := fun b o h => .inl h
    immNew := fun b o h => by
      rcases h with h | ⟨h, _⟩
      · exact .inl h
      · exact .inr (ho.lt b h).1
    immIn := fun b o h => by
      rcases h with h | ⟨h, _⟩
      · exact Nat.lt_of_lt_of_le (hin b o h) hb.size
      · exact (ho.lt b h).2
    size := hb.size
    old := fun i hi _ => hb.block i hi
    os := hb.os
    tape := hb.tape
    output := hb.output
    boxes := trivial
    boxRefs := by simp
    rets := by
      show rowRep _ w' w.heap.size e (.int k) xs v ∧ _
      refine ⟨⟨xs.map (Value.int k), frep_ints k xs, ho, hone, Nat.succ_pos 0, fun g hg j => ?_⟩, rfl⟩
      show _ ↔ j < xs.length * 1
      rw [Nat.mul_one]
      constructor
      · rintro (h | ⟨_, h⟩)
        · have h1 := hin _ _ h
          have h2 := (ho.lt g hg).1
          omega
        · exact h
      · intro h; exact .inr ⟨hg, h⟩
    nodup := by cases v.ownBlock <;> simp }
/-- a view of whole numbers, its cells -/
theorem view_ints {I : Imm} {w : World} {k : IntKind} {xs : List Int} {v : Value} (h : CRep I w (.sl (.int k)) xs [v]) :
    ∃ a cap, v = .slice a xs.length cap ∧ xs.length ≤ cap ∧ (a = none → xs = []) ∧ ∀ ad, a = some ad → ∀ j u, (xs.map (Value.int k))[j]? = some u → w.cell? (ad.add j) = some u := by
  obtain ⟨a, cap, e, hc, hi⟩ := h
  simp only [List.cons.injEq, and_true] at e
  refine ⟨a, cap, e, hc, fun ha => ?_, fun ad ha j u hj => ?_⟩
  · cases xs with
    | nil => rfl
    | cons x xs =>
      obtain ⟨ad, _, h1, _⟩ := hi 0 (by simp)
      rw [ha] at h1; cases h1
  · rw [List.getElem?_map] at hj
    cases hx : xs[j]? with
    | none => rw [hx] at hj; cases hj
    | some x =>
      rw [hx] at hj
      simp only [Option.map_some, Option.some.injEq] at hj
      obtain ⟨hj', hx'⟩ := List.getElem?_eq_some_iff.1 hx
      obtain ⟨ad', cs', h1, h2, h3⟩ := hi j hj'
      rw [ha] at h1
      injection h1 with h1
      subst h1
      have h2 : cs' = [.int k xs[j]] := h2
      subst h2
      have := (h3 0 (.int k xs[j]) rfl).2
      have e1 : j * (Ty.int k).size + 0 = j := by show j * 1 + 0 = j; omega
      rw [e1] at this
      rw [this, ← hj, hx']
end Go.Pev
