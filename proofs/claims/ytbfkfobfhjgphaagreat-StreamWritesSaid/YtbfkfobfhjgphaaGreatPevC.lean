/- The abstract evaluator: what its values mean in the machine's memory, and what keeps them. -/
import Derived.Test.YtbfkfobfhjgphaaGreatPevB
set_option linter.unusedVariables false
set_option linter.unusedSimpArgs false
namespace Go.Pev
open Go

/-- Cells that are not written any more. -/
abbrev Imm := Nat → Nat → Prop

theorem add_add (a : Addr) (n m : Nat) : (a.add n).add m = a.add (n + m) := by
  unfold Addr.add
  by_cases hn : n = 0
  · subst hn; simp
  · by_cases hm : m = 0
    · subst hm; simp
    · simp [hn, hm, Nat.add_assoc]

/-- The cells of a value of a type. -/
def CRep (I : Imm) (w : World) : (t : Ty) → t.I → List Value → Prop
  | .int k, n, cs => cs = [.int k n]
  | .bool, b, cs => cs = [.bool b]
  | .str, s, cs => cs = [.string s]
  | .pair a b, x, cs => ∃ c1 c2, cs = c1 ++ c2 ∧ CRep I w a x.1 c1 ∧ CRep I w b x.2 c2
  | .sl e, xs, cs => ∃ a cap, cs = [.slice a xs.length cap] ∧ xs.length ≤ cap ∧
      ∀ i (h : i < xs.length), ∃ ad cs', a = some ad ∧ CRep I w e xs[i] cs' ∧ ∀ j u, cs'[j]? = some u →
        I (ad.add (i * e.size + j)).block (ad.add (i * e.size + j)).off ∧ w.cell? (ad.add (i * e.size + j)) = some u

def Keeps (I : Imm) (w w' : World) : Prop := ∀ p u, I p.block p.off → w.cell? p = some u → w'.cell? p = some u

theorem CRep.mono {I I' : Imm} {w w' : World} (hI : ∀ b o, I b o → I' b o) (hk : Keeps I w w') : ∀ (t : Ty) (x : t.I) (cs : List Value), CRep I w t x cs → CRep I' w' t x cs
  | .int k, _, _, h => h
  | .bool, _, _, h => h
  | .str, _, _, h => h
  | .pair a b, x, cs, ⟨c1, c2, h0, h1, h2⟩ => ⟨c1, c2, h0, CRep.mono hI hk a _ _ h1, CRep.mono hI hk b _ _ h2⟩
  | .sl e, xs, cs, ⟨a, cap, h0, h1, h2⟩ => ⟨a, cap, h0, h1, fun i h => by
      obtain ⟨ad, cs', ha, hc, hj⟩ := h2 i h
      exact ⟨ad, cs', ha, CRep.mono hI hk e _ _ hc, fun j u hu => ⟨hI _ _ (hj j u hu).1, hk _ _ (hj j u hu).1 (hj j u hu).2⟩⟩⟩

theorem CRep.length {I : Imm} {w : World} : ∀ (t : Ty) (x : t.I) (cs : List Value), CRep I w t x cs → cs.length = t.size
  | .int k, _, _, h => by subst h; rfl
  | .bool, _, _, h => by subst h; rfl
  | .str, _, _, h => by subst h; rfl
  | .pair a b, x, cs, ⟨c1, c2, h0, h1, h2⟩ => by
      subst h0
      simp [Ty.size, CRep.length a _ _ h1, CRep.length b _ _ h2]
  | .sl e, xs, cs, ⟨a, cap, h0, h1, h2⟩ => by subst h0; rfl

theorem CRep.one {I : Imm} {w : World} : ∀ (t : Ty) (x : t.I) (cs : List Value), CRep I w t x cs → ∀ u ∈ cs, u.oneCell' = true
  | .int k, _, _, h => by subst h; simp [Value.oneCell']
  | .bool, _, _, h => by subst h; simp [Value.oneCell']
  | .str, _, _, h => by subst h; simp [Value.oneCell']
  | .pair a b, x, cs, ⟨c1, c2, h0, h1, h2⟩ => by
      subst h0
      intro u hu
      rcases List.mem_append.1 hu with h | h
      · exact CRep.one a _ _ h1 u h
      · exact CRep.one b _ _ h2 u h
  | .sl e, xs, cs, ⟨a, cap, h0, h1, h2⟩ => by subst h0; simp [Value.oneCell']

/-- The cells of a list, one element behind the other. -/
def FRep (I : Imm) (w : World) (e : Ty) : List e.I → List Value → Prop
  | [], cs => cs = []
  | x :: xs, cs => ∃ c r, cs = c ++ r ∧ CRep I w e x c ∧ FRep I w e xs r

theorem FRep.mono {I I' : Imm} {w w' : World} (hI : ∀ b o, I b o → I' b o) (hk : Keeps I w w') {e : Ty} : ∀ (xs : List e.I) (cs : List Value), FRep I w e xs cs → FRep I' w' e xs cs
  | [], _, h => h
  | x :: xs, _, ⟨c, r, h0, h1, h2⟩ => ⟨c, r, h0, CRep.mono hI hk _ _ _ h1, FRep.mono hI hk xs r h2⟩
theorem FRep.length {I : Imm} {w : World} {e : Ty} : ∀ (xs : List e.I) (cs : List Value), FRep I w e xs cs → cs.length = xs.length * e.size
  | [], _, h => by subst h; simp
  | x :: xs, _, ⟨c, r, h0, h1, h2⟩ => by
    subst h0
    simp [CRep.length _ _ _ h1, FRep.length xs r h2, Nat.add_mul, Nat.add_comm]
theorem FRep.one {I : Imm} {w : World} {e : Ty} : ∀ (xs : List e.I) (cs : List Value), FRep I w e xs cs → ∀ u ∈ cs, u.oneCell' = true
  | [], _, h => by subst h; simp
  | x :: xs, _, ⟨c, r, h0, h1, h2⟩ => by
    subst h0
    intro u hu
    rcases List.mem_append.1 hu with h | h
    · exact CRep.one _ _ _ h1 u h
    · exact FRep.one xs r h2 u h
theorem FRep.append {I : Imm} {w : World} {e : Ty} : ∀ (xs ys : List e.I) (cs ds : List Value), FRep I w e xs cs → FRep I w e ys ds → FRep I w e (xs ++ ys) (cs ++ ds)
  | [], _, _, _, h, h' => by subst h; exact h'
  | x :: xs, ys, _, ds, ⟨c, r, h0, h1, h2⟩, h' => ⟨c, r ++ ds, by rw [h0, List.append_assoc], h1, FRep.append xs ys r ds h2 h'⟩
theorem FRep.get {I : Imm} {w : World} {e : Ty} : ∀ (xs : List e.I) (cs : List Value), FRep I w e xs cs → ∀ i (h : i < xs.length), ∃ c, CRep I w e xs[i] c ∧ ∀ j u, c[j]? = some u → cs[i * e.size + j]? = some u
  | [], _, _, i, h => absurd h (Nat.not_lt_zero _)
  | x :: xs, _, ⟨c, r, h0, h1, h2⟩, 0, _ => by
    subst h0
    refine ⟨c, h1, fun j u hu => ?_⟩
    rw [List.getElem?_append_left (by rw [Nat.zero_mul, Nat.zero_add]; exact (List.getElem?_eq_some_iff.1 hu).1)]
    simpa using hu
  | x :: xs, _, ⟨c, r, h0, h1, h2⟩, i + 1, h => by
    subst h0
    obtain ⟨c', hc, hj⟩ := FRep.get xs r h2 i (by simpa using h)
    refine ⟨c', hc, fun j u hu => ?_⟩
    have hl := CRep.length _ _ _ h1
    rw [List.getElem?_append_right (by rw [hl, Nat.add_mul]; omega), hl, show (i + 1) * e.size + j - e.size = i * e.size + j by rw [Nat.add_mul]; omega]
    exact hj j u hu

/-- Two lists, one by one. -/
def All2 {α β : Type} (R : α → β → Prop) : List α → List β → Prop
  | [], [] => True
  | a :: l, b :: m => R a b ∧ All2 R l m
  | _, _ => False
theorem All2.imp {α β : Type} {R S : α → β → Prop} : ∀ (l : List α) (m : List β), (∀ a b, a ∈ l → R a b → S a b) → All2 R l m → All2 S l m
  | [], [], _, _ => trivial
  | a :: l, b :: m, h, ⟨h1, h2⟩ => ⟨h a b List.mem_cons_self h1, All2.imp l m (fun x y hx => h x y (List.mem_cons_of_mem _ hx)) h2⟩
  | [], _ :: _, _, h => h.elim
  | _ :: _, [], _, h => h.elim
theorem All2.length {α β : Type} {R : α → β → Prop} : ∀ (l : List α) (m : List β), All2 R l m → l.length = m.length
  | [], [], _ => rfl
  | _ :: l, _ :: m, ⟨_, h⟩ => by simp [All2.length l m h]
  | [], _ :: _, h => h.elim
  | _ :: _, [], h => h.elim
theorem All2.append {α β : Type} {R : α → β → Prop} : ∀ (l l' : List α) (m m' : List β), All2 R l m → All2 R l' m' → All2 R (l ++ l') (m ++ m')
  | [], _, [], _, _, h => h
  | a :: l, l', b :: m, m', ⟨h1, h2⟩, h => ⟨h1, All2.append l l' m m' h2 h⟩
  | [], _, _ :: _, _, h, _ => h.elim
  | _ :: _, _, [], _, h, _ => h.elim
theorem All2.drop {α β : Type} {R : α → β → Prop} : ∀ (n : Nat) (l : List α) (m : List β), All2 R l m → All2 R (l.drop n) (m.drop n)
  | 0, _, _, h => h
  | n + 1, [], [], h => h
  | n + 1, _ :: l, _ :: m, h => All2.drop n l m h.2
  | _ + 1, [], _ :: _, h => h.elim
  | _ + 1, _ :: _, [], h => h.elim
theorem All2.take {α β : Type} {R : α → β → Prop} : ∀ (n : Nat) (l : List α) (m : List β), All2 R l m → All2 R (l.take n) (m.take n)
  | 0, _, _, _ => trivial
  | n + 1, [], [], h => h
  | n + 1, _ :: l, _ :: m, h => ⟨h.1, All2.take n l m h.2⟩
  | _ + 1, [], _ :: _, h => h.elim
  | _ + 1, _ :: _, [], h => h.elim
theorem All2.get {α β : Type} {R : α → β → Prop} : ∀ (l : List α) (m : List β), All2 R l m → ∀ (i : Nat) (a : α), l[i]? = some a → ∃ b, m[i]? = some b ∧ R a b
  | [], [], _, i, a, h => by simp at h
  | x :: l, y :: m, ⟨h1, h2⟩, 0, a, h => by simp at h; subst h; exact ⟨y, by simp, h1⟩
  | x :: l, y :: m, ⟨h1, h2⟩, i + 1, a, h => by simpa using All2.get l m h2 i a (by simpa using h)
  | [], _ :: _, h, _, _, _ => h.elim
  | _ :: _, [], h, _, _, _ => h.elim
theorem All2.set {α β : Type} {R : α → β → Prop} : ∀ (l : List α) (m : List β) (i : Nat) (a : α) (b : β), All2 R l m → R a b → All2 R (l.set i a) (m.set i b)
  | [], [], _, _, _, _, _ => trivial
  | _ :: l, _ :: m, 0, _, _, h, h' => ⟨h', h.2⟩
  | _ :: l, _ :: m, i + 1, a, b, h, h' => ⟨h.1, All2.set l m i a b h.2 h'⟩
  | [], _ :: _, _, _, _, h, _ => h.elim
  | _ :: _, [], _, _, _, h, _ => h.elim

/-! ### Cells of the frame and of boxes -/
/-- The block that stands behind a number. -/
def bl (ρ : Nat → Value) (id : Nat) : Nat := ((ρ id).ownBlock).getD 0
def boxV (B : Nat) : Value := .slice (some ⟨B, 0, none⟩) 0 0
def ptrV (ρ : Nat → Value) (id : Nat) : Value := .pointer (some ⟨bl ρ id, 0, none⟩)

def SRep (I : Imm) (w : World) (ρ : Nat → Value) : SV → Value → Prop
  | .undef, v => v.oneCell' = true
  | .int k n, v => v = .int k n
  | .bool b, v => v = .bool b
  | .str s, v => v = .string s
  | .view e xs, v => CRep I w (.sl e) xs [v]
  | .nilsl, v => v = .slice none 0 0
  | .nilp, v => v = .pointer none
  | .row id, v => v = ρ id ∧ v.oneCell' = true
  | .ptr id off, v => v = .pointer (some ⟨bl ρ id, off, none⟩)
  | .eptr e x off, v => ∃ (ad : Addr) (cs : List Value), v = .pointer (some (ad.add off)) ∧ CRep I w e x cs ∧ ∀ j u, cs[j]? = some u → I (ad.add j).block (ad.add j).off ∧ w.cell? (ad.add j) = some u
  | .clo f ids, v => v = .func (.func f) #[] (ids.map (ptrV ρ)).toArray

def aggRep (I : Imm) (w : World) (ρ : Nat → Value) (cs : List SV) (v : Value) : Prop := ∃ vs, v = .agg vs ∧ All2 (SRep I w ρ) cs vs.toList
def compRep (I : Imm) (w : World) (ρ : Nat → Value) (p : Bool × List SV) (v : Value) : Prop :=
  match p with
  | (true, cs) => aggRep I w ρ cs v
  | (false, [s]) => SRep I w ρ s v
  | (false, _) => False

def AVRep (I : Imm) (w : World) (ρ : Nat → Value) : AV → Value → Prop
  | .sc .undef, _ => True
  | .sc s, v => SRep I w ρ s v
  | .agg cs, v => aggRep I w ρ cs v
  | .tup as, v => ∃ vs, v = .tuple vs ∧ All2 (compRep I w ρ) as vs.toList

theorem SRep.one {I : Imm} {w : World} {ρ : Nat → Value} : ∀ {s : SV} {v : Value}, SRep I w ρ s v → v.oneCell' = true
  | .undef, _, h => h
  | .int k n, _, h => by subst h; rfl
  | .bool _, _, h => by subst h; rfl
  | .str _, _, h => by subst h; rfl
  | .view e xs, v, h => CRep.one _ _ _ h v (by simp)
  | .nilsl, _, h => by subst h; rfl
  | .nilp, _, h => by subst h; rfl
  | .row _, _, h => h.2
  | .ptr _ _, _, h => by subst h; rfl
  | .eptr _ _ _, _, h => by obtain ⟨ad, cs, h, _⟩ := h; subst h; rfl
  | .clo _ _, _, h => by subst h; rfl

theorem SRep.mono {I I' : Imm} {w w' : World} (hI : ∀ b o, I b o → I' b o) (hk : Keeps I w w') {ρ : Nat → Value} : ∀ {s : SV} {v : Value}, SRep I w ρ s v → SRep I' w' ρ s v
  | .undef, _, h => h
  | .int k n, _, h => h
  | .bool _, _, h => h
  | .str _, _, h => h
  | .view e xs, v, h => CRep.mono hI hk _ _ _ h
  | .nilsl, _, h => h
  | .nilp, _, h => h
  | .row _, _, h => h
  | .ptr _ _, _, h => h
  | .eptr _ _ _, _, ⟨ad, cs, h, h1, h2⟩ => ⟨ad, cs, h, CRep.mono hI hk _ _ _ h1, fun j u hu => ⟨hI _ _ (h2 j u hu).1, hk _ _ (h2 j u hu).1 (h2 j u hu).2⟩⟩
  | .clo _ _, _, h => h

/-- Which numbers a cell names. -/
def refs : SV → List Nat
  | .row id => [id]
  | .ptr id _ => [id]
  | .clo _ ids => ids
  | _ => []
def refsAV : AV → List Nat
  | .sc s => refs s
  | .agg cs => cs.flatMap refs
  | .tup as => as.flatMap fun p => p.2.flatMap refs

theorem SRep.ren {I : Imm} {w : World} {ρ ρ' : Nat → Value} : ∀ {s : SV} {v : Value}, (∀ id ∈ refs s, ρ' id = ρ id) → SRep I w ρ s v → SRep I w ρ' s v
  | .undef, _, _, h => h
  | .int k n, _, _, h => h
  | .bool _, _, _, h => h
  | .str _, _, _, h => h
  | .view e xs, v, _, h => h
  | .nilsl, _, _, h => h
  | .nilp, _, _, h => h
  | .row id, _, hr, h => ⟨by rw [hr id (by simp [refs])]; exact h.1, h.2⟩
  | .ptr id _, _, hr, h => by have := hr id (by simp [refs]); simp only [SRep, bl] at *; rw [this]; exact h
  | .eptr _ _ _, _, _, h => h
  | .clo _ ids, _, hr, h => by
    simp only [SRep, refs] at *
    rw [h]
    congr 2
    exact List.map_congr_left fun id hid => by simp [ptrV, bl, hr id hid]

theorem aggRep.map {I I' : Imm} {w w' : World} {ρ ρ' : Nat → Value} {cs : List SV} {v : Value} (h : aggRep I w ρ cs v) (hm : ∀ s v, s ∈ cs → SRep I w ρ s v → SRep I' w' ρ' s v) : aggRep I' w' ρ' cs v := by
  obtain ⟨vs, h0, h1⟩ := h
  exact ⟨vs, h0, All2.imp _ _ hm h1⟩
theorem compRep.map {I I' : Imm} {w w' : World} {ρ ρ' : Nat → Value} {p : Bool × List SV} {v : Value} (h : compRep I w ρ p v) (hm : ∀ s v, s ∈ p.2 → SRep I w ρ s v → SRep I' w' ρ' s v) : compRep I' w' ρ' p v := by
  match p, h, hm with
  | (true, cs), h, hm => exact aggRep.map h hm
  | (false, [s]), h, hm => exact hm s v (by simp) h
  | (false, []), h, _ => exact h.elim
  | (false, _ :: _ :: _), h, _ => exact h.elim
theorem AVRep.map {I I' : Imm} {w w' : World} {ρ ρ' : Nat → Value} : ∀ {a : AV} {v : Value}, AVRep I w ρ a v → (∀ s v, (∀ id ∈ refs s, id ∈ refsAV a) → SRep I w ρ s v → SRep I' w' ρ' s v) → AVRep I' w' ρ' a v
  | .sc s, v, h, hm => by
    by_cases hs : s = .undef
    · subst hs; trivial
    · have h1 : SRep I w ρ s v := by cases s <;> first | exact h | exact absurd rfl hs
      have h2 := hm s v (fun id hid => hid) h1
      cases s <;> first | exact h2 | exact absurd rfl hs
  | .agg cs, v, h, hm => aggRep.map h fun s v hs => hm s v fun id hid => List.mem_flatMap.2 ⟨s, hs, hid⟩
  | .tup as, v, h, hm => by
    obtain ⟨vs, h0, h1⟩ := h
    refine ⟨vs, h0, All2.imp _ _ (fun p v hp h => compRep.map h fun s v hs => hm s v fun id hid => ?_) h1⟩
    exact List.mem_flatMap.2 ⟨p, hp, List.mem_flatMap.2 ⟨s, hs, hid⟩⟩
end Go.Pev
