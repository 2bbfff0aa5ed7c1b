/- The abstract evaluator: the state of the machine that a state of the evaluator tells of, and how it goes on. -/
import Derived.Test.YtbfkfobfhjgphaaGreatPevC
set_option linter.unusedVariables false
set_option linter.unusedSimpArgs false
namespace Go.Pev
open Go

structure Ctx where
  P : Program
  w0 : World
  I0 : Imm
  F : Nat → Prop
  n : Nat
  Z : Nat → Option Nat
  hZ : ∀ id B, Z id = some B → n ≤ id ∧ id < 100000

def Ctx.base (C : Ctx) : Nat := C.w0.heap.size
theorem Ctx.z_lt (C : Ctx) {d : Nat} (h : d < C.n) : C.Z d = none := by
  cases e : C.Z d with
  | none => rfl
  | some B => have := (C.hZ d B e).1; omega
theorem Ctx.z_ge (C : Ctx) {d : Nat} (h : 100000 ≤ d) : C.Z d = none := by
  cases e : C.Z d with
  | none => rfl
  | some B => have := (C.hZ d B e).2; omega

def rowRep (I : Imm) (w : World) (base : Nat) (tid : TypeId) (e : Ty) (xs : List e.I) (v : Value) : Prop :=
  ∃ cs, FRep I w e xs cs ∧ w.ownsRow base tid e.size v xs.length cs ∧ v.oneCell' = true ∧ 0 < e.size ∧ ∀ g, v.ownBlock = some g → ∀ j, I g j ↔ j < xs.length * e.size
def rawRep (I : Imm) (w : World) (base : Nat) (tid : TypeId) (e : Ty) (n : Nat) (v : Value) : Prop :=
  ∃ g cap cur, v = .slice (some ⟨g, 0, none⟩) n cap ∧ base ≤ g ∧ w.heap[g]? = some (.cells cur tid (0, 0)) ∧ n ≤ cap ∧ cap ≤ maxLen ∧ cur.size = cap * e.size ∧
    FRep I w e (List.replicate n e.dflt) (cur.toList.take (n * e.size)) ∧ 0 < e.size ∧ ∀ j, ¬ I g j
def boxRep (I : Imm) (w : World) (ρ : Nat → Value) (cs : List SV) (B : Nat) : Prop :=
  ∃ cur T, w.heap[B]? = some (.cells cur T (0, 0)) ∧ All2 (SRep I w ρ) cs cur.toList ∧ ∀ o, ¬ I B o
def BlkRep (base : Nat) (I : Imm) (w : World) (ρ : Nat → Value) (id : Nat) : Blk → Prop
  | .none => True
  | .dead => True
  | .box cs => ∃ B, ρ id = boxV B ∧ boxRep I w ρ cs B
  | .row tid e xs => rowRep I w base tid e xs (ρ id)
  | .raw tid e n => rawRep I w base tid e n (ρ id)
def bk (ρ : Nat → Value) (id : Nat) : Blk → Option Nat
  | .box _ => (ρ id).ownBlock
  | .row _ _ _ => (ρ id).ownBlock
  | .raw _ _ _ => (ρ id).ownBlock
  | _ => none

structure Sim (C : Ctx) (I : Imm) (ρ : Nat → Value) (st : AS) (a : Act) (w : World) : Prop where
  tmps : ∀ t, AVRep I w ρ (st.T t) (a.tmps.getD t undef)
  blks : ∀ id, BlkRep C.base I w ρ id (st.H id)
  apart : ∀ i j g, bk ρ i (st.H i) = some g → bk ρ j (st.H j) = some g → i = j
  home : ∀ i g, bk ρ i (st.H i) = some g → C.base ≤ g ∨ C.F g
  refT : ∀ t, ∀ id ∈ refsAV (st.T t), st.H id ≠ .none
  refH : ∀ id cs, st.H id = .box cs → ∀ s ∈ cs, ∀ i ∈ refs s, st.H i ≠ .none
  imm : ∀ b o, C.I0 b o → I b o
  immNew : ∀ b o, I b o → C.I0 b o ∨ C.base ≤ b
  immIn : ∀ b o, I b o → b < w.heap.size
  size : C.base ≤ w.heap.size
  old : ∀ i, i < C.base → ¬ C.F i → w.heap[i]? = C.w0.heap[i]?
  os : w.os = C.w0.os
  tape : w.tape = C.w0.tape
  output : w.output = C.w0.output
  defers : a.defers = []
  frame : a.tmps.size = C.n
  args : ∀ id B, C.Z id = some B → ρ id = boxV B

theorem cell?_of_heap {w w' : World} {b : Nat} (h : w'.heap[b]? = w.heap[b]?) (p : Addr) (hp : p.block = b) : w'.cell? p = w.cell? p := by
  simp [World.cell?, hp, h]

theorem rowRep.evolve {I I' : Imm} {w w' : World} {base : Nat} {tid : TypeId} {e : Ty} {xs : List e.I} {v : Value} (h : rowRep I w base tid e xs v)
    (hI : ∀ b o, I b o → I' b o) (hk : Keeps I w w') (hb : ∀ g, v.ownBlock = some g → w'.heap[g]? = w.heap[g]? ∧ ∀ o, I' g o ↔ I g o) : rowRep I' w' base tid e xs v := by
  obtain ⟨cs, h1, h2, h3, hz, h4⟩ := h
  refine ⟨cs, FRep.mono hI hk _ _ h1, ⟨h2.1, ?_⟩, h3, hz, fun g hg j => ((hb g hg).2 j).trans (h4 g hg j)⟩
  rcases h2.2 with h | ⟨g, cap, cur, rfl, hbg, hg, rest⟩
  · exact .inl h
  · exact .inr ⟨g, cap, cur, rfl, hbg, by rw [(hb g rfl).1]; exact hg, rest⟩

theorem rawRep.evolve {I I' : Imm} {w w' : World} {base : Nat} {tid : TypeId} {e : Ty} {n : Nat} {v : Value} (h : rawRep I w base tid e n v)
    (hI : ∀ b o, I b o → I' b o) (hk : Keeps I w w') (hb : ∀ g, v.ownBlock = some g → w'.heap[g]? = w.heap[g]? ∧ ∀ o, I' g o ↔ I g o) : rawRep I' w' base tid e n v := by
  obtain ⟨g, cap, cur, rfl, h1, h2, h3, h4, h5, h6, h7, h8⟩ := h
  exact ⟨g, cap, cur, rfl, h1, by rw [(hb g rfl).1]; exact h2, h3, h4, h5, FRep.mono hI hk _ _ h6, h7, fun j hj => h8 j (((hb g rfl).2 j).1 hj)⟩

theorem boxRep.evolve {I I' : Imm} {w w' : World} {ρ : Nat → Value} {cs : List SV} {B : Nat} (h : boxRep I w ρ cs B)
    (hI : ∀ b o, I b o → I' b o) (hk : Keeps I w w') (hb : w'.heap[B]? = w.heap[B]? ∧ ∀ o, I' B o ↔ I B o) : boxRep I' w' ρ cs B := by
  obtain ⟨cur, T, h1, h2, h3⟩ := h
  exact ⟨cur, T, by rw [hb.1]; exact h1, All2.imp _ _ (fun s v _ => SRep.mono hI hk) h2, fun o ho => h3 o ((hb.2 o).1 ho)⟩

theorem BlkRep.evolve {base : Nat} {I I' : Imm} {w w' : World} {ρ : Nat → Value} {id : Nat} : ∀ {b : Blk}, BlkRep base I w ρ id b →
    (∀ b o, I b o → I' b o) → Keeps I w w' → (∀ g, bk ρ id b = some g → w'.heap[g]? = w.heap[g]? ∧ ∀ o, I' g o ↔ I g o) → BlkRep base I' w' ρ id b
  | .none, _, _, _, _ => trivial
  | .dead, _, _, _, _ => trivial
  | .box cs, ⟨B, hB, h⟩, hI, hk, hb => ⟨B, hB, h.evolve hI hk (hb B (by simp [bk, hB, boxV, Value.ownBlock]))⟩
  | .row tid e xs, h, hI, hk, hb => rowRep.evolve h hI hk hb
  | .raw tid e n, h, hI, hk, hb => rawRep.evolve h hI hk hb

theorem Sim.evolve {C : Ctx} {I I' : Imm} {ρ : Nat → Value} {st : AS} {a : Act} {w w' : World} (h : Sim C I ρ st a w)
    (hI : ∀ b o, I b o → I' b o) (hk : Keeps I w w') (hb : ∀ id g, bk ρ id (st.H id) = some g → w'.heap[g]? = w.heap[g]? ∧ ∀ o, I' g o ↔ I g o)
    (hnew : ∀ b o, I' b o → C.I0 b o ∨ C.base ≤ b) (hin : ∀ b o, I' b o → b < w'.heap.size) (hsz : w.heap.size ≤ w'.heap.size)
    (hold : ∀ i, i < C.base → ¬ C.F i → w'.heap[i]? = w.heap[i]?) (hos : w'.os = w.os) (htape : w'.tape = w.tape) (hout : w'.output = w.output) : Sim C I' ρ st a w' where
  tmps t := (h.tmps t).map fun s v _ => SRep.mono hI hk
  blks id := (h.blks id).evolve hI hk (hb id)
  apart := h.apart
  home := h.home
  refT := h.refT
  refH := h.refH
  imm b o hb := hI b o (h.imm b o hb)
  immNew := hnew
  immIn := hin
  size := Nat.le_trans h.size hsz
  old i hi hF := (hold i hi hF).trans (h.old i hi hF)
  os := hos.trans h.os
  tape := htape.trans h.tape
  output := hout.trans h.output
  defers := h.defers
  frame := h.frame
  args := h.args

theorem Sim.drew {C : Ctx} {I : Imm} {ρ : Nat → Value} {st : AS} {a : Act} {w : World} (h : Sim C I ρ st a w) : Sim C I ρ st a w.drew :=
  h.evolve (fun _ _ h => h) (fun _ _ _ h => h) (fun _ _ _ => ⟨rfl, fun _ => Iff.rfl⟩) h.immNew h.immIn (Nat.le_refl _) (fun _ _ _ => rfl) rfl rfl rfl

theorem upd_same {α : Type} (f : Nat → α) (k : Nat) (v : α) : upd f k v k = v := by simp [upd]
theorem upd_ne {α : Type} (f : Nat → α) {k n : Nat} (v : α) (h : n ≠ k) : upd f k v n = f n := by
  have : Nat.beq n k = false := by
    cases hb : Nat.beq n k with
    | false => rfl
    | true => exact absurd (Nat.eq_of_beq_eq_true hb) h
  simp only [upd, this, cond_false]
theorem upd_eq {α : Type} (f : Nat → α) (k n : Nat) (v : α) : upd f k v n = if n = k then v else f n := by
  by_cases h : n = k
  · subst h; simp [upd_same]
  · simp [upd_ne f v h, h]

theorem getD_put (a : Act) (d t : Nat) (x : Value) (hd : d < a.tmps.size) : (a.put (some d) x).tmps.getD t undef = if t = d then x else a.tmps.getD t undef := by
  simp only [Act.put, Array.getD_eq_getD_getElem?, Array.getElem?_setIfInBounds]
  by_cases h : d = t
  · subst h; simp [hd]
  · have : t ≠ d := fun e => h e.symm
    simp [h, this]

theorem Sim.put {C : Ctx} {I : Imm} {ρ : Nat → Value} {st : AS} {a : Act} {w : World} (h : Sim C I ρ st a w) {dst : Option Nat} (hd : ∀ d, dst = some d → d < C.n) {v : AV} {x : Value}
    (hv : AVRep I w ρ v x) (hr : ∀ id ∈ refsAV v, st.H id ≠ .none) : Sim C I ρ (st.apply dst v []) (a.put dst x) w := by
  cases dst with
  | none => exact h
  | some d =>
    have hd' : d < a.tmps.size := by rw [h.frame]; exact hd d rfl
    exact { h with
      tmps := fun t => by
        rw [getD_put a d t x hd']
        show AVRep I w ρ (upd st.T d v t) _
        rw [upd_eq]
        split
        · exact hv
        · exact h.tmps t
      refT := fun t id hid => by
        change id ∈ refsAV (upd st.T d v t) at hid
        show upds st.H [] id ≠ .none
        rw [upd_eq] at hid
        split at hid
        · exact hr id hid
        · exact h.refT t id hid
      frame := by simp [Act.put, h.frame]
      defers := h.defers
      blks := h.blks
      apart := h.apart
      home := h.home
      refH := h.refH }

theorem BlkRep.ren {base : Nat} {I : Imm} {w : World} {ρ ρ' : Nat → Value} {id : Nat} : ∀ {b : Blk}, BlkRep base I w ρ id b → ρ' id = ρ id → (∀ cs, b = .box cs → ∀ s ∈ cs, ∀ i ∈ refs s, ρ' i = ρ i) → BlkRep base I w ρ' id b
  | .none, _, _, _ => trivial
  | .dead, _, _, _ => trivial
  | .box cs, ⟨B, hB, cur, T, h1, h2, h3⟩, he, hr => ⟨B, he.trans hB, cur, T, h1, All2.imp _ _ (fun s v hs => SRep.ren (hr cs rfl s hs)) h2, h3⟩
  | .row tid e xs, h, he, _ => by show rowRep _ _ _ _ _ _ _; rw [he]; exact h
  | .raw tid e n, h, he, _ => by show rawRep _ _ _ _ _ _ _; rw [he]; exact h

theorem bk_ren {ρ ρ' : Nat → Value} {id : Nat} (h : ρ' id = ρ id) (b : Blk) : bk ρ' id b = bk ρ id b := by cases b <;> simp [bk, h]

/-- A new box or row under a number that names nothing yet. -/
theorem Sim.new {C : Ctx} {I : Imm} {ρ : Nat → Value} {st : AS} {a : Act} {w : World} (h : Sim C I ρ st a w) {id : Nat} (hid : st.H id = .none) (hz : C.Z id = none) {V : Value} {b : Blk}
    (hb : BlkRep C.base I w (upd ρ id V) id b) (hap : ∀ j g, bk ρ j (st.H j) = some g → V.ownBlock ≠ some g) (hho : ∀ g, V.ownBlock = some g → C.base ≤ g ∨ C.F g)
    (hrf : ∀ cs, b = .box cs → ∀ s ∈ cs, ∀ i ∈ refs s, st.H i ≠ .none) (hbn : b ≠ .none) : Sim C I (upd ρ id V) ⟨st.T, upd st.H id b⟩ a w := by
  have hne : ∀ i, st.H i ≠ .none → upd ρ id V i = ρ i := fun i hi => upd_ne ρ V (fun e : i = id => hi (by rw [e]; exact hid))
  have hlive : ∀ i, st.H i ≠ .none → upd st.H id b i ≠ .none := fun i hi => by
    rw [upd_ne st.H b (fun e : i = id => hi (by rw [e]; exact hid))]; exact hi
  have hbk : ∀ i, i ≠ id → bk (upd ρ id V) i (upd st.H id b i) = bk ρ i (st.H i) := fun i hi => by
    rw [upd_ne st.H b hi]; exact bk_ren (upd_ne ρ V hi) _
  have hbi : ∀ g, bk (upd ρ id V) id (upd st.H id b id) = some g → V.ownBlock = some g := fun g hg => by
    rw [upd_same] at hg
    cases b <;> simp [bk, upd_same] at hg <;> exact hg
  exact { h with
    tmps := fun t => (h.tmps t).map fun s v hs => SRep.ren fun i hi => hne i (h.refT t i (hs i hi))
    blks := fun i => by
      show BlkRep _ _ _ _ _ (upd st.H id b i)
      by_cases hi : i = id
      · subst hi; rw [upd_same]; exact hb
      · rw [upd_ne st.H b hi]
        exact (h.blks i).ren (upd_ne ρ V hi) fun cs hc s hs j hj => hne j (h.refH i cs hc s hs j hj)
    apart := fun i j g hi hj => by
      by_cases h1 : i = id
      · by_cases h2 : j = id
        · rw [h1, h2]
        · subst h1
          exact absurd (hbi g hi) (hap j g ((hbk j h2).symm.trans hj))
      · by_cases h2 : j = id
        · subst h2
          exact absurd (hbi g hj) (hap i g ((hbk i h1).symm.trans hi))
        · exact h.apart i j g ((hbk i h1).symm.trans hi) ((hbk j h2).symm.trans hj)
    args := fun i B hi => by rw [upd_ne ρ V (fun e : i = id => by rw [e, hz] at hi; cases hi)]; exact h.args i B hi
    home := fun i g hi => by
      by_cases h1 : i = id
      · subst h1; exact hho g (hbi g hi)
      · exact h.home i g ((hbk i h1).symm.trans hi)
    refT := fun t i hi => hlive i (h.refT t i hi)
    refH := fun i cs hc s hs j hj => by
      change upd st.H id b i = .box cs at hc
      by_cases h1 : i = id
      · subst h1; rw [upd_same] at hc; exact hlive j (hrf cs hc s hs j hj)
      · rw [upd_ne st.H b h1] at hc; exact hlive j (h.refH i cs hc s hs j hj) }

/-- The box or row under a number turns into another one, in the world that goes with it. -/
theorem Sim.turn {C : Ctx} {I : Imm} {ρ : Nat → Value} {st : AS} {a : Act} {w : World} (h : Sim C I ρ st a w) {id : Nat} {b : Blk}
    (hb : BlkRep C.base I w ρ id b) (hbk : bk ρ id b = none ∨ bk ρ id b = bk ρ id (st.H id))
    (hrf : ∀ cs, b = .box cs → ∀ s ∈ cs, ∀ i ∈ refs s, st.H i ≠ .none) (hbn : b ≠ .none) : Sim C I ρ ⟨st.T, upd st.H id b⟩ a w := by
  have hlive : ∀ i, st.H i ≠ .none → upd st.H id b i ≠ .none := fun i hi => by
    by_cases h1 : i = id
    · subst h1; rw [upd_same]; exact hbn
    · rw [upd_ne st.H b h1]; exact hi
  have hbk' : ∀ i g, bk ρ i (upd st.H id b i) = some g → bk ρ i (st.H i) = some g := fun i g hg => by
    by_cases h1 : i = id
    · subst h1
      rw [upd_same] at hg
      rcases hbk with h2 | h2
      · rw [h2] at hg; cases hg
      · rw [← h2]; exact hg
    · rw [upd_ne st.H b h1] at hg; exact hg
  exact { h with
    blks := fun i => by
      show BlkRep _ _ _ _ _ (upd st.H id b i)
      by_cases hi : i = id
      · subst hi; rw [upd_same]; exact hb
      · rw [upd_ne st.H b hi]; exact h.blks i
    apart := fun i j g hi hj => h.apart i j g (hbk' i g hi) (hbk' j g hj)
    home := fun i g hi => h.home i g (hbk' i g hi)
    refT := fun t i hi => hlive i (h.refT t i hi)
    refH := fun i cs hc s hs j hj => by
      change upd st.H id b i = .box cs at hc
      by_cases h1 : i = id
      · subst h1; rw [upd_same] at hc; exact hlive j (hrf cs hc s hs j hj)
      · rw [upd_ne st.H b h1] at hc; exact hlive j (h.refH i cs hc s hs j hj) }

/-- A number that leads nowhere now leads to a box or row again. -/
theorem Sim.revive {C : Ctx} {I : Imm} {ρ : Nat → Value} {st : AS} {a : Act} {w : World} (h : Sim C I ρ st a w) {id : Nat} {b : Blk} (hid : bk ρ id (st.H id) = none)
    (hb : BlkRep C.base I w ρ id b) (hap : ∀ j g, j ≠ id → bk ρ j (st.H j) = some g → bk ρ id b ≠ some g) (hho : ∀ g, bk ρ id b = some g → C.base ≤ g ∨ C.F g)
    (hrf : ∀ cs, b = .box cs → ∀ s ∈ cs, ∀ i ∈ refs s, st.H i ≠ .none) (hbn : b ≠ .none) : Sim C I ρ ⟨st.T, upd st.H id b⟩ a w := by
  have hlive : ∀ i, st.H i ≠ .none → upd st.H id b i ≠ .none := fun i hi => by
    by_cases h1 : i = id
    · subst h1; rw [upd_same]; exact hbn
    · rw [upd_ne st.H b h1]; exact hi
  have hbk : ∀ i g, i ≠ id → bk ρ i (upd st.H id b i) = some g → bk ρ i (st.H i) = some g := fun i g hi hg => by
    rw [upd_ne st.H b hi] at hg; exact hg
  exact { h with
    blks := fun i => by
      show BlkRep _ _ _ _ _ (upd st.H id b i)
      by_cases hi : i = id
      · subst hi; rw [upd_same]; exact hb
      · rw [upd_ne st.H b hi]; exact h.blks i
    apart := fun i j g hi hj => by
      by_cases h1 : i = id
      · by_cases h2 : j = id
        · rw [h1, h2]
        · subst h1
          change bk ρ i (upd st.H i b i) = some g at hi
          rw [upd_same] at hi
          exact absurd hi (hap j g h2 (hbk j g h2 hj))
      · by_cases h2 : j = id
        · subst h2
          change bk ρ j (upd st.H j b j) = some g at hj
          rw [upd_same] at hj
          exact absurd hj (hap i g h1 (hbk i g h1 hi))
        · exact h.apart i j g (hbk i g h1 hi) (hbk j g h2 hj)
    home := fun i g hi => by
      by_cases h1 : i = id
      · subst h1
        change bk ρ i (upd st.H i b i) = some g at hi
        rw [upd_same] at hi
        exact hho g hi
      · exact h.home i g (hbk i g h1 hi)
    refT := fun t i hi => hlive i (h.refT t i hi)
    refH := fun i cs hc s hs j hj => by
      change upd st.H id b i = .box cs at hc
      by_cases h1 : i = id
      · subst h1; rw [upd_same] at hc; exact hlive j (hrf cs hc s hs j hj)
      · rw [upd_ne st.H b h1] at hc; exact hlive j (h.refH i cs hc s hs j hj) }
end Go.Pev
