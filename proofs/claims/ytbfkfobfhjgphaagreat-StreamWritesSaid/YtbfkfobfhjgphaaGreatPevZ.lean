/- The abstract evaluator: == of structs of numbers and bools, checked against the program's own types. -/
import Derived.Test.YtbfkfobfhjgphaaGreatPevY
import Derived.Laws.StructEq
set_option linter.unusedVariables false
set_option linter.unusedSimpArgs false
namespace Go.Pev
open Go

def eqFieldsB (P : Program) (sh : TypeId → Option (List Ty)) : List Field → Nat → Option (List Ty)
  | [], _ => some []
  | f :: fs, off => bif f.name == "_" || !(f.offset == off) then none else match sh f.type with
    | some ts => bif P.cellsOf f.type == ts.length then match eqFieldsB P sh fs (off + ts.length) with
      | some us => some (ts ++ us)
      | none => none
      else none
    | none => none
def eqShape (P : Program) : Nat → TypeId → Option (List Ty)
  | 0, _ => none
  | d + 1, t => match P.underlying t with
    | some (.int k) => some [.int k]
    | some .bool => some [.bool]
    | some (.struct fs) => bif P.stoodInHeld t then none else eqFieldsB P (eqShape P d) fs.toList 0
    | _ => none

/-- One cell of a plain type beside another. -/
def same1 : Ty → SV → SV → Option Bool
  | .int k, .int k1 a, .int k2 b => bif decide (k1 = k) && decide (k2 = k) then some (a == b) else none
  | .bool, .bool a, .bool b => some (a == b)
  | _, _, _ => none
theorem same_cons {t : Ty} {ts : List Ty} {xs ys : List SV} {c : Bool} (h : sameCells (t :: ts) xs ys = some c) :
    ∃ x r y s c1 c2, xs = x :: r ∧ ys = y :: s ∧ same1 t x y = some c1 ∧ sameCells ts r s = some c2 ∧ c = (c1 && c2) := by
  unfold sameCells at h
  split at h
  · rename_i e; cases e
  · rename_i k ts' k1 a r k2 b s e
    injection e with e1 e2
    subst e1 e2
    split at h
    · rename_i c' h1 h2 h3
      injection h with h
      exact ⟨_, _, _, _, a == b, c', rfl, rfl, by simp [same1, h1, h2], h3, h.symm⟩
    · cases h
  · rename_i ts' a r b s e
    injection e with e1 e2
    subst e1 e2
    split at h
    · rename_i c' h3
      injection h with h
      exact ⟨_, _, _, _, a == b, c', rfl, rfl, rfl, h3, h.symm⟩
    · cases h
  · cases h
theorem same_nil {xs ys : List SV} {c : Bool} (h : sameCells [] xs ys = some c) : xs = [] ∧ ys = [] ∧ c = true := by
  unfold sameCells at h
  split at h
  · injection h with h; exact ⟨rfl, rfl, h.symm⟩
  · rename_i e; cases e
  · rename_i e; cases e
  · cases h
theorem same_append : ∀ (ts us : List Ty) (xs ys : List SV) (c : Bool), sameCells (ts ++ us) xs ys = some c →
    ∃ x1 x2 y1 y2 c1 c2, xs = x1 ++ x2 ∧ ys = y1 ++ y2 ∧ x1.length = ts.length ∧ y1.length = ts.length ∧ sameCells ts x1 y1 = some c1 ∧ sameCells us x2 y2 = some c2 ∧ c = (c1 && c2)
  | [], us, xs, ys, c, h => ⟨[], xs, [], ys, true, c, rfl, rfl, rfl, rfl, rfl, h, by simp⟩
  | t :: ts, us, xs, ys, c, h => by
    obtain ⟨x, r, y, s, c1, c2, rfl, rfl, h1, h2, h3⟩ := same_cons h
    obtain ⟨x1, x2, y1, y2, d1, d2, rfl, rfl, e3, e4, e5, e6, e7⟩ := same_append ts us r s c2 h2
    refine ⟨x :: x1, x2, y :: y1, y2, c1 && d1, d2, rfl, rfl, by simp [e3], by simp [e4], ?_, e6, ?_⟩
    · unfold same1 at h1
      split at h1
      · rename_i k k1 a k2 b
        simp only [cond_eq_ite] at h1
        split at h1
        · rename_i hc
          simp only [Bool.and_eq_true] at hc
          injection h1 with h1
          simp only [sameCells, hc.1, hc.2, e5, h1]
        · cases h1
      · injection h1 with h1
        simp only [sameCells, e5, h1]
      · cases h1
    · rw [h3, e7, Bool.and_assoc]

theorem eq_shape {P : Program} {w : World} : ∀ (d : Nat) (t : TypeId) (ts : List Ty), eqShape P d t = some ts → ∀ (xs ys : List SV) (c : Bool), sameCells ts xs ys = some c →
    ((isAgg t).run P w = .ok true w ∧ (Op.equalIn d t (.agg (xs.map zval).toArray) (.agg (ys.map zval).toArray)).run P w = .ok c w) ∨
    ((isAgg t).run P w = .ok false w ∧ ∃ x y, xs = [x] ∧ ys = [y] ∧ (Op.equalIn d t (zval x) (zval y)).run P w = .ok c w) := by
  intro d
  induction d with
  | zero => intro t ts h; simp [eqShape] at h
  | succ d ih =>
    intro t ts h xs ys c hc
    unfold eqShape at h
    split at h
    · rename_i k hu
      injection h with h
      subst h
      obtain ⟨x, r, y, s, c1, c2, rfl, rfl, h1, h2, rfl⟩ := same_cons hc
      obtain ⟨rfl, rfl, rfl⟩ := same_nil h2
      refine .inr ⟨by simp [isAgg, run_underlying hu], x, y, rfl, rfl, ?_⟩
      unfold same1 at h1
      split at h1
      · rename_i k' k1 a k2 b e
        injection e with e
        subst e
        simp only [cond_eq_ite] at h1
        split at h1
        · rename_i hk
          simp only [Bool.and_eq_true, decide_eq_true_eq] at hk
          obtain ⟨rfl, rfl⟩ := hk
          injection h1 with h1
          simp only [zval, Op.equalIn, Sem.run_bind, run_underlying hu, Result.andThen_ok, if_true, Sem.run_pure, ← h1, Bool.and_true]
        · cases h1
      · rename_i e; cases e
      · cases h1
    · rename_i hu
      injection h with h
      subst h
      obtain ⟨x, r, y, s, c1, c2, rfl, rfl, h1, h2, rfl⟩ := same_cons hc
      obtain ⟨rfl, rfl, rfl⟩ := same_nil h2
      refine .inr ⟨by simp [isAgg, run_underlying hu], x, y, rfl, rfl, ?_⟩
      unfold same1 at h1
      split at h1
      · rename_i e; cases e
      · rename_i a b e
        injection h1 with h1
        simp only [zval, Op.equalIn, Sem.run_bind, run_underlying hu, Result.andThen_ok, Sem.run_pure, ← h1, Bool.and_true]
      · cases h1
    · rename_i fs hu
      simp only [cond_eq_ite] at h
      split at h
      · cases h
      · rename_i hp
        refine .inl ⟨by simp [isAgg, run_underlying hu], ?_⟩
        have hfo : P.fieldsOf t = fs := by simp [Program.fieldsOf, hu]
        rw [run_equalIn_struct (P := P) w d t _ _ (by rw [hfo]; exact hu) (by simpa using hp), hfo]
        have key : ∀ (fl : List Field) (off : Nat) (us : List Ty), eqFieldsB P (eqShape P d) fl off = some us → ∀ (px py rx ry : List SV) (c : Bool), px.length = off → py.length = off → sameCells us rx ry = some c →
            (Op.eqFields d ((px ++ rx).map zval).toArray ((py ++ ry).map zval).toArray fl).run P w = .ok c w := by
          intro fl
          induction fl with
          | nil =>
            intro off us h px py rx ry c _ _ hs
            simp only [eqFieldsB, Option.some.injEq] at h
            subst h
            obtain ⟨_, _, rfl⟩ := same_nil hs
            simp [Op.eqFields]
          | cons f fl ihf =>
            intro off us h px py rx ry c hpx hpy hs
            simp only [eqFieldsB, cond_eq_ite] at h
            split at h
            · cases h
            · rename_i hn
              simp only [Bool.or_eq_true, Bool.not_eq_true', beq_eq_false_iff_ne, ne_eq, not_or, beq_iff_eq, Decidable.not_not] at hn
              split at h
              · rename_i ts1 h1
                split at h
                · rename_i hsz
                  have hsz : P.cellsOf f.type = ts1.length := by simpa using hsz
                  split at h
                  · rename_i us1 h2
                    injection h with h
                    subst h
                    obtain ⟨x1, x2, y1, y2, c1, c2, rfl, rfl, e3, e4, e5, e6, rfl⟩ := same_append ts1 us1 rx ry c hs
                    have hrest := ihf (off + ts1.length) us1 h2 (px ++ x1) (py ++ y1) x2 y2 c2 (by simp [hpx, e3]) (by simp [hpy, e4]) e6
                    rw [List.append_assoc, List.append_assoc] at hrest
                    have hn1 : f.name ≠ "_" := hn.1
                    have hoff : f.offset = off := hn.2
                    have hsize : (isAgg f.type).run P w = .ok true w → (sizeOf f.type).run P w = .ok ts1.length w := fun _ => by
                      have : ∃ i, P.info? f.type = some i := by
                        cases hi : P.info? f.type with
                        | none =>
                          exfalso
                          have hun : P.underlying f.type = none := by simp [Program.underlying, hi]
                          cases d with
                          | zero => simp [eqShape] at h1
                          | succ d => unfold eqShape at h1; rw [hun] at h1; cases h1
                        | some i => exact ⟨i, rfl⟩
                      obtain ⟨i, hi⟩ := this
                      have : i.size = ts1.length := by simpa [Program.cellsOf, hi] using hsz
                      simp [sizeOf, typeInfo, hi, this]
                    have hx : ∀ (p q r : List SV), p.length = off → q.length = ts1.length → (((p ++ (q ++ r)).map zval).toArray.extract off (off + ts1.length)) = (q.map zval).toArray := by
                      intro p q r hp hq
                      apply Array.ext'
                      simp only [Array.toList_extract, List.extract_eq_take_drop, List.map_append]
                      rw [← hp, List.drop_append_of_le_length (by simp), List.drop_of_length_le (by simp)]
                      simp [hq]
                    rcases ih f.type ts1 h1 x1 y1 c1 e5 with ⟨g1, g2⟩ | ⟨g1, x, y, rfl, rfl, g2⟩
                    · have p1 : (part f.type ((px ++ (x1 ++ x2)).map zval).toArray f.offset).run P w = .ok (.agg (x1.map zval).toArray) w := by
                        unfold part
                        simp only [Sem.run_bind, g1, hsize g1, Result.andThen_ok, if_true, Sem.run_pure, hoff]
                        rw [hx px x1 x2 hpx e3]
                      have p2 : (part f.type ((py ++ (y1 ++ y2)).map zval).toArray f.offset).run P w = .ok (.agg (y1.map zval).toArray) w := by
                        unfold part
                        simp only [Sem.run_bind, g1, hsize g1, Result.andThen_ok, if_true, Sem.run_pure, hoff]
                        rw [hx py y1 y2 hpy e4]
                      rw [Op.eqFields]
                      simp only [if_pos hn1, Sem.run_bind, p1, p2, g2, Result.andThen_ok]
                      cases c1
                      · simp
                      · simpa using hrest
                    · have q : ∀ (p : List SV) (x : SV) (r : List SV), p.length = off → (part f.type ((p ++ ([x] ++ r)).map zval).toArray f.offset).run P w = .ok (zval x) w := by
                        intro p x r hp
                        unfold part
                        simp only [Sem.run_bind, g1, Result.andThen_ok, Bool.false_eq_true, if_false, hoff]
                        have : ((p ++ ([x] ++ r)).map zval).toArray[off]? = some (zval x) := by
                          rw [List.getElem?_toArray, List.getElem?_map, List.getElem?_append_right (by omega), hp]
                          simp
                        rw [this]
                        rfl
                      rw [Op.eqFields]
                      simp only [if_pos hn1, Sem.run_bind, q px x x2 hpx, q py y y2 hpy, g2, Result.andThen_ok]
                      cases c1
                      · simp
                      · simpa using hrest
                  · cases h
                · cases h
              · cases h
        have := key fs.toList 0 ts h [] [] xs ys c rfl rfl hc
        simpa using this
    · cases h

def eqB (P : Program) (t : TypeId) (ts : List Ty) : Bool :=
  match ts with
  | [] => match P.underlying t with
    | some .bool => true
    | _ => false
  | t0 :: ts => !(P.eqGuardType P.depth t) && (match P.underlying t with | some (.struct _) => true | _ => false) && match eqShape P 8 t with
    | some us => decide (us = t0 :: ts)
    | none => false
theorem eqShape_mono {P : Program} : ∀ (d : Nat) (t : TypeId) (ts : List Ty), eqShape P d t = some ts → eqShape P (d + 1) t = some ts := by
  intro d
  induction d with
  | zero => intro t ts h; simp [eqShape] at h
  | succ d ih =>
    intro t ts h
    have key : ∀ (fl : List Field) (off : Nat) (us : List Ty), eqFieldsB P (eqShape P d) fl off = some us → eqFieldsB P (eqShape P (d + 1)) fl off = some us := by
      intro fl
      induction fl with
      | nil => intro off us h; simpa [eqFieldsB] using h
      | cons f fl ihf =>
        intro off us h
        simp only [eqFieldsB, cond_eq_ite] at h ⊢
        split at h
        · cases h
        · rename_i hn
          rw [if_neg hn]
          split at h
          · rename_i ts1 h1
            split at h
            · rename_i hsz
              split at h
              · rename_i us1 h2
                simp only [ih _ _ h1, if_pos hsz, ihf _ _ h2]
                exact h
              · cases h
            · cases h
          · cases h
    rw [eqShape] at h ⊢
    split at h
    · exact h
    · exact h
    · simp only [cond_eq_ite] at h ⊢
      split at h
      · cases h
      · rename_i hp
        rw [if_neg hp]
        exact key _ _ _ h
    · cases h
theorem eqShape_le {P : Program} {d : Nat} {t : TypeId} {ts : List Ty} (h : eqShape P d t = some ts) : ∀ n, eqShape P (d + n) t = some ts
  | 0 => h
  | n + 1 => eqShape_mono _ _ _ (eqShape_le h n)

def eqsOf : List (Nat × List Ty) → TypeId → Option (List Ty)
  | [], _ => none
  | (k, ts) :: l, t => bif Nat.beq t k then some ts else eqsOf l t
theorem eqB_spec {P : Program} {t : TypeId} {ts : List Ty} (h : eqB P t ts = true) : (ts = [] → P.underlying t = some .bool) ∧ (ts ≠ [] → P.eqGuardType P.depth t = false ∧
    ∀ xs ys c w, sameCells ts xs ys = some c → (Op.equal t (.agg (xs.map zval).toArray) (.agg (ys.map zval).toArray)).run P w = .ok c w) := by
  refine ⟨fun e => ?_, fun hne => ?_⟩
  · subst e
    unfold eqB at h
    simp only at h
    split at h
    · assumption
    · cases h
  · match ts, hne, h with
    | t0 :: ts, _, h =>
      simp only [eqB, Bool.and_eq_true, Bool.not_eq_true'] at h
      obtain ⟨⟨h1, h2⟩, h3⟩ := h
      refine ⟨h1, fun xs ys c w hc => ?_⟩
      split at h3
      · rename_i us hs
        simp only [decide_eq_true_eq] at h3
        subst h3
        have h4 := eqShape_le hs 9992
        rcases eq_shape (w := w) 10000 t _ h4 xs ys c hc with ⟨_, h5⟩ | ⟨h5, _⟩
        · exact h5
        · exfalso
          split at h2
          · rename_i fs hu
            simp [isAgg, run_underlying hu] at h5
          · cases h2
      · cases h3
theorem eqsOf_ok {P : Program} : ∀ (l : List (Nat × List Ty)), (l.all fun p => eqB P p.1 p.2) = true → EqOK P (eqsOf l)
  | [], _, t, ts, h => by simp [eqsOf] at h
  | (k, ts') :: l, hl, t, ts, h => by
    simp only [List.all_cons, Bool.and_eq_true] at hl
    simp only [eqsOf, cond_eq_ite] at h
    split at h
    · rename_i hk
      have := Nat.eq_of_beq_eq_true hk
      injection h with h
      subst this h
      exact eqB_spec hl.1
    · exact eqsOf_ok l hl.2 t ts h
end Go.Pev
