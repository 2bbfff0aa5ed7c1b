/- The abstract evaluator: a function's start: its arguments in the frame, their boxes under their numbers. -/
import Derived.Test.YtbfkfobfhjgphaaGreatPevT
set_option linter.unusedVariables false
set_option linter.unusedSimpArgs false
namespace Go.Pev
open Go

theorem sim_nil (P : Program) {I : Imm} {w : World} (hin : ∀ b o, I b o → b < w.heap.size) : Sim ⟨P, w, I, fun _ => False, 0, fun _ => none, by simp⟩ I ρ0 ⟨fun _ => .sc .undef, noH⟩ { tmps := #[], defers := [] } w where
  tmps _ := trivial
  blks _ := trivial
  apart i j g h := by simp [noH, bk] at h
  home i g h := by simp [noH, bk] at h
  refT t id h := by simp [refsAV, refs] at h
  refH id cs h := by simp [noH] at h
  imm _ _ h := h
  immNew _ _ h := .inl h
  immIn := hin
  size := Nat.le_refl _
  old _ _ _ := rfl
  os := rfl
  tape := rfl
  output := rfl
  defers := rfl
  frame := rfl
  args _ _ h := by simp at h

theorem parse0_rep {I : Imm} {w : World} (hin : ∀ b o, I b o → b < w.heap.size) {t : Ty} {cs : List SV} {x : t.I} {vs : List Value} (h : parseAll noH t cs = some x) (hr : All2 (SRep I w ρ0) cs vs) : CRep I w t x vs := by
  unfold parseAll at h
  split at h
  · rename_i y hp
    injection h with h
    subst h
    obtain ⟨us, ws, e, h1, h2⟩ := parse_rep (sim_nil default hin) t cs vs y [] hp hr
    match ws, h2 with
    | [], _ => rw [List.append_nil] at e; subst e; exact h1
  · cases h
theorem box0_rep {I : Imm} {w : World} (hin : ∀ b o, I b o → b < w.heap.size) {t : Ty} {cs : List SV} {x : t.I} {B : Nat} (h : parseAll noH t cs = some x) (hr : boxRep I w ρ0 cs B) (ρ : Nat → Value) : boxRep I w ρ (cellsOf t x) B := by
  obtain ⟨cur, T, h1, h2, h3⟩ := hr
  exact ⟨cur, T, h1, cellsOf_rep _ _ _ (parse0_rep hin h h2), h3⟩

def argEnt (I : Imm) (w : World) (p : Nat × Blk) (B : Nat) : Prop := ∃ (t : Ty) (x : t.I), p.2 = .box (cellsOf t x) ∧ ∀ ρ, boxRep I w ρ (cellsOf t x) B

def idsOf (i : Nat) : AT → List Nat
  | .box _ => [argId i 0]
  | .clo _ ts => (List.range ts.length).map (argId i)
  | _ => []
theorem boxIds_cons (i : Nat) (a : AT) (l : List AT) : boxIdsFrom i (a :: l) = idsOf i a ++ boxIdsFrom (i + 1) l := by cases a <;> rfl

theorem encClo_ids (i : Nat) : ∀ (j : Nat) (css : List (List SV)), (encClo i j css).1 = (encClo i j css).2.map (·.1) ∧ (encClo i j css).1 = (List.range' j css.length).map (argId i)
  | _, [] => ⟨rfl, rfl⟩
  | j, cs :: css => by
    obtain ⟨h1, h2⟩ := encClo_ids i (j + 1) css
    simp only [encClo, List.map_cons, List.length_cons, List.range'_succ]
    exact ⟨by rw [h1], by rw [h2]⟩

theorem encClo_ent {I : Imm} {w : World} (hin : ∀ b o, I b o → b < w.heap.size) (i : Nat) : ∀ (j : Nat) (ts : List Ty) (css : List (List SV)) (x : prodI (ts.map Ty.I)) (Bs : List Nat), decTys ts css = some x → All2 (boxRep I w ρ0) css Bs →
    All2 (argEnt I w) (encClo i j (encTys ts x)).2 Bs ∧ (encTys ts x).length = ts.length
  | j, [], [], x, [], h, _ => ⟨trivial, rfl⟩
  | j, [t], [cs], x, [B], h, ⟨h1, _⟩ => ⟨⟨⟨t, x, rfl, fun ρ => box0_rep hin (t := t) h h1 ρ⟩, trivial⟩, rfl⟩
  | j, t :: u :: ts, cs :: css, x, B :: Bs, h, ⟨h1, h2⟩ => by
    simp only [decTys] at h
    split at h
    · rename_i y z hy hz
      injection h with h
      subst h
      obtain ⟨h3, h4⟩ := encClo_ent hin i (j + 1) (u :: ts) css z Bs hz h2
      exact ⟨⟨⟨t, y, rfl, fun ρ => box0_rep hin hy h1 ρ⟩, h3⟩, by simp [encTys, h4]⟩
    · cases h
  | _, [], _ :: _, _, _, h, _ => by simp [decTys] at h
  | _, [_], [], _, _, h, _ => by simp [decTys] at h
  | _, [_], _ :: _ :: _, _, _, h, _ => by simp [decTys] at h
  | _, _ :: _ :: _, [], _, _, h, _ => by simp [decTys] at h
  | _, [], [], _, _ :: _, _, h => h.elim
  | _, [_], [_], _, [], _, h => h.elim
  | _, [_], [_], _, _ :: _ :: _, _, h => h.2.elim
  | _, _ :: _ :: _, _ :: _, _, [], _, h => h.elim

def Named (ρ : Nat → Value) (p : Nat × Blk) (B : Nat) : Prop := ρ p.1 = boxV B
theorem named_ptrs {ρ : Nat → Value} : ∀ (us : List (Nat × Blk)) (Bs : List Nat), All2 (Named ρ) us Bs → (us.map (·.1)).map (ptrV ρ) = Bs.map bptr
  | [], [], _ => rfl
  | p :: us, B :: Bs, ⟨h1, h2⟩ => by
    simp only [List.map_cons, named_ptrs us Bs h2, List.cons.injEq, and_true]
    have h1 : ρ p.1 = boxV B := h1
    simp [ptrV, bl, h1, boxV, Value.ownBlock, bptr]
  | [], _ :: _, h => h.elim
  | _ :: _, [], h => h.elim

theorem arg_start {I : Imm} {w : World} (hin : ∀ b o, I b o → b < w.heap.size) (i : Nat) (a : AT) (xa : XA) (x : a.I) (v : Value) (Bs : List Nat) (h : decArg a xa = some x) (hr : argRep I w xa v Bs) :
    All2 (argEnt I w) (encArg i a x).2 Bs ∧ (∀ id ∈ refsAV (encArg i a x).1, id ∈ (encArg i a x).2.map (·.1)) ∧ (encArg i a x).2.map (·.1) = idsOf i a ∧
    ∀ ρ, All2 (Named ρ) (encArg i a x).2 Bs → AVRep I w ρ (encArg i a x).1 v := by
  match a, xa, x, h, hr with
  | .val true t, .val true cs, x, h, ⟨⟨vs, e, h1⟩, e2⟩ =>
    subst e2
    have h : parseAll noH t cs = some x := h
    have h2 := parse0_rep hin h h1
    refine ⟨trivial, fun id hid => ?_, rfl, fun ρ _ => ⟨vs, e, cellsOf_rep _ _ _ h2⟩⟩
    obtain ⟨s, hs, hi⟩ := List.mem_flatMap.1 hid
    rw [refs_cellsOf t x s hs] at hi
    cases hi
  | .val false t, .val false [s], x, h, ⟨h1, e2⟩ =>
    subst e2
    have h : parseAll noH t [s] = some x := h
    have h2 := parse0_rep (vs := [v]) hin h ⟨h1, trivial⟩
    have key : ∃ s', cellsOf t x = [s'] ∧ ∀ ρ, SRep I w ρ s' v := by
      have h3 := fun ρ => cellsOf_rep (ρ := ρ) _ _ _ h2
      generalize cellsOf t x = cs at h3
      match cs, h3 with
      | [s'], h3 => exact ⟨s', rfl, fun ρ => (h3 ρ).1⟩
      | [], h3 => exact (h3 ρ0).elim
      | _ :: _ :: _, h3 => exact (h3 ρ0).2.elim
    obtain ⟨s', e, h3⟩ := key
    have e1 : encArg i (.val false t) x = (.sc s', []) := by simp [encArg, e]
    rw [e1]
    refine ⟨trivial, fun id hid => ?_, rfl, fun ρ _ => SRep.av (h3 ρ)⟩
    have : id ∈ refs s' := hid
    rw [refs_cellsOf t x s' (by rw [e]; simp)] at this
    cases this
  | .box t, .box cs, x, h, ⟨B, e, e2, h1⟩ =>
    subst e
    have h : parseAll noH t cs = some x := h
    refine ⟨⟨⟨t, x, rfl, fun ρ => box0_rep hin h h1 ρ⟩, trivial⟩, fun id hid => by simpa [encArg, refsAV, refs] using hid, rfl, fun ρ hn => ?_⟩
    have hn : ρ (argId i 0) = boxV B := hn.1
    show v = _
    simp [e2, bptr, bl, hn, boxV, Value.ownBlock]
  | .clo f ts, .clo f' css, x, h, ⟨e, h1⟩ =>
    simp only [decArg, cond_eq_ite] at h
    split at h
    · rename_i hf
      have hf := Nat.eq_of_beq_eq_true hf
      obtain ⟨h2, h3⟩ := encClo_ent hin i 0 ts css x Bs h h1
      obtain ⟨h4, h5⟩ := encClo_ids i 0 (encTys ts x)
      have e1 : encArg i (.clo f ts) x = (.sc (.clo f (encClo i 0 (encTys ts x)).1), (encClo i 0 (encTys ts x)).2) := rfl
      rw [e1]
      refine ⟨h2, fun id hid => ?_, ?_, fun ρ hn => ?_⟩
      · have : id ∈ (encClo i 0 (encTys ts x)).1 := hid
        rw [h4] at this
        exact this
      · show _ = (List.range ts.length).map (argId i)
        rw [← h4, h5, h3, List.range_eq_range']
      · show v = _
        rw [e, h4, named_ptrs _ _ hn, ← hf]
    · cases h
  | .val true _, .val false _, _, h, _ => simp [decArg] at h
  | .val false _, .val true _, _, h, _ => simp [decArg] at h
  | .val false _, .val false [], _, _, h => exact h.elim
  | .val false _, .val false (_ :: _ :: _), _, _, h => exact h.elim
  | .val _ _, .box _, _, h, _ => simp [decArg] at h
  | .val _ _, .clo _ _, _, h, _ => simp [decArg] at h
  | .box _, .val _ _, _, h, _ => simp [decArg] at h
  | .box _, .clo _ _, _, h, _ => simp [decArg] at h
  | .clo _ _, .val _ _, _, h, _ => simp [decArg] at h
  | .clo _ _, .box _, _, h, _ => simp [decArg] at h
  | .unit, xa, x, h, hr =>
    have hx : xa = .val false [.nilsl] := by
      match xa, h with
      | .val false [.nilsl], _ => rfl
      | .val true _, h => simp [decArg] at h
      | .val false [], h => simp [decArg] at h
      | .val false (.nilsl :: _ :: _), h => simp [decArg] at h
      | .val false (.undef :: _), h => simp [decArg] at h
      | .val false (.int _ _ :: _), h => simp [decArg] at h
      | .val false (.bool _ :: _), h => simp [decArg] at h
      | .val false (.str _ :: _), h => simp [decArg] at h
      | .val false (.view _ _ :: _), h => simp [decArg] at h
      | .val false (.nilp :: _), h => simp [decArg] at h
      | .val false (.row _ :: _), h => simp [decArg] at h
      | .val false (.ptr _ _ :: _), h => simp [decArg] at h
      | .val false (.eptr _ _ _ :: _), h => simp [decArg] at h
      | .val false (.clo _ _ :: _), h => simp [decArg] at h
      | .box _, h => simp [decArg] at h
      | .clo _ _, h => simp [decArg] at h
    subst hx
    obtain ⟨_, e2⟩ := hr
    subst e2
    exact ⟨trivial, fun id hid => by simp [encArg, refsAV, refs] at hid, rfl, fun ρ _ => trivial⟩

theorem All2.split {α β : Type} {R : α → β → Prop} : ∀ (l : List α) (m : List β) (l' : List α) (m' : List β), l.length = m.length → All2 R (l ++ l') (m ++ m') → All2 R l m ∧ All2 R l' m'
  | [], [], _, _, _, h => ⟨trivial, h⟩
  | a :: l, b :: m, l', m', hl, ⟨h1, h2⟩ => by
    obtain ⟨h3, h4⟩ := All2.split l m l' m' (by simpa using hl) h2
    exact ⟨⟨h1, h3⟩, h4⟩
  | [], _ :: _, _, _, h, _ => by simp at h
  | _ :: _, [], _, _, h, _ => by simp at h

theorem args_start {I : Imm} {w : World} (hin : ∀ b o, I b o → b < w.heap.size) : ∀ (i : Nat) (l : List AT) (xs : List XA) (x : argsI l) (vs : List Value) (Bs : List Nat), decArgs l xs = some x → argsRep I w xs vs Bs →
    All2 (argEnt I w) (encArgs i l x).2 Bs ∧ (∀ av ∈ (encArgs i l x).1, ∀ id ∈ refsAV av, id ∈ (encArgs i l x).2.map (·.1)) ∧ (encArgs i l x).2.map (·.1) = boxIdsFrom i l ∧ vs.length = l.length ∧
    ∀ ρ, All2 (Named ρ) (encArgs i l x).2 Bs → All2 (AVRep I w ρ) (encArgs i l x).1 vs
  | i, [], [], x, [], Bs, h, hr => by
    have : Bs = [] := hr
    subst this
    exact ⟨trivial, by simp [encArgs], rfl, rfl, fun _ _ => trivial⟩
  | i, [a], [xa], x, v :: vs, Bs, h, ⟨B1, B2, e, h1, h2⟩ => by
    match vs, h2 with
    | [], h2 =>
      have h2 : B2 = [] := h2
      subst h2
      rw [List.append_nil] at e
      subst e
      obtain ⟨g1, g2, g3, g4⟩ := arg_start hin i a xa x v Bs h h1
      refine ⟨g1, fun av hav => ?_, ?_, rfl, fun ρ hn => ⟨g4 ρ hn, trivial⟩⟩
      · have : av = (encArg i a x).1 := by simpa [encArgs] using hav
        subst this
        exact g2
      · rw [boxIds_cons]
        show (encArg i a x).2.map _ = _
        rw [g3]
        simp [boxIdsFrom]
  | i, a :: b :: l, xa :: xs, x, v :: vs, Bs, h, ⟨B1, B2, e, h1, h2⟩ => by
    simp only [decArgs] at h
    split at h
    · rename_i y z hy hz
      injection h with h
      subst h
      subst e
      obtain ⟨g1, g2, g3, g4⟩ := arg_start hin i a xa y v B1 hy h1
      obtain ⟨k1, k2, k3, k4, k5⟩ := args_start hin (i + 1) (b :: l) xs z vs B2 hz h2
      have e1 : encArgs i (a :: b :: l) (y, z) = ((encArg i a y).1 :: (encArgs (i + 1) (b :: l) z).1, (encArg i a y).2 ++ (encArgs (i + 1) (b :: l) z).2) := rfl
      rw [e1]
      refine ⟨All2.append _ _ _ _ g1 k1, fun av hav id hid => ?_, ?_, by simp at k4 ⊢; omega, fun ρ hn => ?_⟩
      · simp only [List.map_append, List.mem_append]
        rcases List.mem_cons.1 hav with rfl | hav
        · exact .inl (g2 id hid)
        · exact .inr (k2 av hav id hid)
      · rw [boxIds_cons, List.map_append, g3, k3]
      · obtain ⟨m1, m2⟩ := All2.split _ _ _ _ (All2.length _ _ g1) hn
        exact ⟨g4 ρ m1, k5 ρ m2⟩
    · cases h
  | _, [], _ :: _, _, _, _, h, _ => by simp [decArgs] at h
  | _, [_], [], _, _, _, h, _ => by simp [decArgs] at h
  | _, [_], _ :: _ :: _, _, _, _, h, _ => by simp [decArgs] at h
  | _, _ :: _ :: _, [], _, _, _, h, _ => by simp [decArgs] at h
  | _, [], [], _, _ :: _, _, _, h => h.elim
  | _, [_], [_], _, [], _, _, h => h.elim
  | _, _ :: _ :: _, _ :: _, _, [], _, _, h => h.elim

theorem upds_find {α : Type} : ∀ (us : List (Nat × α)) (f : Nat → α) (id : Nat), (upds f us id = f id ∧ id ∉ us.map (·.1)) ∨ ∃ (k : Nat) (p : Nat × α), us[k]? = some p ∧ p.1 = id ∧ upds f us id = p.2
  | [], f, id => .inl ⟨rfl, by simp⟩
  | (k0, v) :: l, f, id => by
    show (upds (upd f k0 v) l id = _ ∧ _) ∨ ∃ (k : Nat) (p : Nat × α), _ ∧ _ ∧ upds (upd f k0 v) l id = _
    rcases upds_find l (upd f k0 v) id with ⟨h1, h2⟩ | ⟨k, p, h1, h2, h3⟩
    · by_cases h : id = k0
      · subst h
        exact .inr ⟨0, (id, v), rfl, rfl, by rw [h1, upd_same]⟩
      · exact .inl ⟨by rw [h1, upd_ne _ _ h], by simp only [List.map_cons, List.mem_cons, not_or]; exact ⟨h, h2⟩⟩
    · exact .inr ⟨k + 1, p, by simpa using h1, h2, h3⟩

/-- The arguments' boxes by their numbers. -/
def setB : List Nat → List Nat → Nat → Value
  | i :: is, B :: Bs => upd (setB is Bs) i (boxV B)
  | _, _ => ρ0
def zOf : List Nat → List Nat → Nat → Option Nat
  | i :: is, B :: Bs, id => if id = i then some B else zOf is Bs id
  | _, _, _ => none
theorem setB_z : ∀ (is Bs : List Nat) (id B : Nat), zOf is Bs id = some B → setB is Bs id = boxV B ∧ id ∈ is
  | i :: is, B0 :: Bs, id, B, h => by
    simp only [zOf] at h
    simp only [setB]
    split at h
    · rename_i e
      injection h with h
      subst e h
      exact ⟨upd_same _ _ _, by simp⟩
    · rename_i e
      rw [upd_ne _ _ e]
      obtain ⟨h1, h2⟩ := setB_z is Bs id B h
      exact ⟨h1, List.mem_cons_of_mem _ h2⟩
  | [], _, _, _, h => by simp [zOf] at h
  | _ :: _, [], _, _, h => by simp [zOf] at h
theorem z_all : ∀ (is Bs : List Nat), is.Nodup → is.length = Bs.length → All2 (fun id B => zOf is Bs id = some B) is Bs
  | [], [], _, _ => trivial
  | i :: is, B :: Bs, hn, hl => by
    have hn' := List.nodup_cons.1 hn
    refine ⟨by simp [zOf], All2.imp _ _ (fun a b ha h => ?_) (z_all is Bs hn'.2 (by simpa using hl))⟩
    simp only [zOf]
    rw [if_neg (fun e => hn'.1 (by rw [← e]; exact ha))]
    exact h
  | [], _ :: _, _, h => by simp at h
  | _ :: _, [], _, h => by simp at h
theorem All2.of_map {α β γ : Type} {R : γ → β → Prop} (f : α → γ) : ∀ (l : List α) (m : List β), All2 R (l.map f) m → All2 (fun a b => R (f a) b) l m
  | [], [], _ => trivial
  | a :: l, b :: m, ⟨h1, h2⟩ => ⟨h1, All2.of_map f l m h2⟩
  | [], _ :: _, h => h.elim
  | _ :: _, [], h => h.elim

theorem listT_spec : ∀ (i : Nat) (vs : List AV) (n : Nat), (∃ k, n = i + k ∧ vs[k]? = some (listT i vs n)) ∨ listT i vs n = .sc .undef
  | _, [], _ => .inr rfl
  | i, v :: vs, n => by
    simp only [listT, cond_eq_ite]
    split
    · rename_i h
      exact .inl ⟨0, by have := Nat.eq_of_beq_eq_true h; omega, rfl⟩
    · rcases listT_spec (i + 1) vs n with ⟨k, h1, h2⟩ | h
      · exact .inl ⟨k + 1, by omega, by simpa using h2⟩
      · exact .inr h

def sigOK (n : Nat) (s : Sig) : Bool := nodup (boxIdsFrom 0 s.args) && (boxIdsFrom 0 s.args).all (fun id => Nat.ble n id && Nat.ble 90000 id && Nat.blt id 100000) && Nat.ble s.args.length n && Nat.beq s.boxes.length (boxIdsFrom 0 s.args).length
theorem sigOK_spec {n : Nat} {s : Sig} (h : sigOK n s = true) : (boxIdsFrom 0 s.args).Nodup ∧ (∀ id ∈ boxIdsFrom 0 s.args, n ≤ id ∧ 90000 ≤ id ∧ id < 100000) ∧ s.args.length ≤ n ∧ s.boxes.length = (boxIdsFrom 0 s.args).length := by
  simp only [sigOK, Bool.and_eq_true, List.all_eq_true, Nat.ble_eq, Nat.blt_eq] at h
  obtain ⟨⟨⟨h1, h2⟩, h3⟩, h4⟩ := h
  exact ⟨nodup_spec _ h1, fun id hid => ⟨(h2 id hid).1.1, (h2 id hid).1.2, (h2 id hid).2⟩, h3, Nat.eq_of_beq_eq_true h4⟩

def startC (P : Program) (w : World) (I : Imm) (n : Nat) (s : Sig) (Bs : List Nat) (h : sigOK n s = true) : Ctx where
  P := P
  w0 := w
  I0 := I
  F := fun g => g ∈ Bs
  n := n
  Z := zOf (boxIdsFrom 0 s.args) Bs
  hZ := fun id B hz => by
    have := (sigOK_spec h).2.1 id (setB_z _ _ _ _ hz).2
    omega

theorem sim_start (P : Program) {I : Imm} {w : World} (hin : ∀ b o, I b o → b < w.heap.size) (n : Nat) (s : Sig) (hsig : sigOK n s = true) (xs : List XA) (x : argsI s.args) (vs : List Value) (Bs : List Nat)
    (h : decArgs s.args xs = some x) (hr : argsRep I w xs vs Bs) (hn : Bs.Nodup) :
    Sim (startC P w I n s Bs hsig) I (setB (boxIdsFrom 0 s.args) Bs) (startAS s.args x) { tmps := vs.toArray ++ Array.replicate (n - vs.toArray.size) undef, defers := [] } w := by
  obtain ⟨s1, s2, s3, s4⟩ := sigOK_spec hsig
  obtain ⟨h1, h2, h3, h4, h5⟩ := args_start hin 0 s.args xs x vs Bs h hr
  have hlen : (boxIdsFrom 0 s.args).length = Bs.length := by rw [← h3, List.length_map]; exact All2.length _ _ h1
  have hz := z_all _ _ s1 hlen
  have hnamed : All2 (Named (setB (boxIdsFrom 0 s.args) Bs)) (encArgs 0 s.args x).2 Bs := by
    rw [← h3] at hz ⊢
    exact All2.imp _ _ (fun p B _ hp => (setB_z _ _ _ _ hp).1) (All2.of_map _ _ _ hz)
  have h6 := h5 _ hnamed
  have eT : (startAS s.args x).T = listT 0 (encArgs 0 s.args x).1 := rfl
  have eH : (startAS s.args x).H = upds noH (encArgs 0 s.args x).2 := rfl
  have hblk : ∀ id, upds noH (encArgs 0 s.args x).2 id = .none ∨ ∃ (k : Nat) (p : Nat × Blk) (B : Nat), (encArgs 0 s.args x).2[k]? = some p ∧ Bs[k]? = some B ∧ p.1 = id ∧ upds noH (encArgs 0 s.args x).2 id = p.2 ∧ argEnt I w p B ∧ setB (boxIdsFrom 0 s.args) Bs id = boxV B := by
    intro id
    rcases upds_find (encArgs 0 s.args x).2 noH id with ⟨h7, _⟩ | ⟨k, p, h7, h8, h9⟩
    · exact .inl h7
    · obtain ⟨B, g1, g2⟩ := All2.get _ _ h1 k p h7
      obtain ⟨B', g3, g4⟩ := All2.get _ _ hnamed k p h7
      rw [g1] at g3
      injection g3 with g3
      subst g3
      have g4 : _ = boxV B := g4
      rw [h8] at g4
      exact .inr ⟨k, p, B, h7, g1, h8, h9, g2, g4⟩
  have hlive : ∀ id ∈ (encArgs 0 s.args x).2.map (·.1), upds noH (encArgs 0 s.args x).2 id ≠ .none := by
    intro id hid
    rcases upds_find (encArgs 0 s.args x).2 noH id with ⟨_, h8⟩ | ⟨k, p, h7, h8, h9⟩
    · exact absurd hid h8
    · obtain ⟨B, _, t, y, e, _⟩ := All2.get _ _ h1 k p h7
      rw [h9, e]
      simp
  have hbk : ∀ id g, bk (setB (boxIdsFrom 0 s.args) Bs) id (upds noH (encArgs 0 s.args x).2 id) = some g → ∃ (k : Nat) (p : Nat × Blk), (encArgs 0 s.args x).2[k]? = some p ∧ Bs[k]? = some g ∧ p.1 = id := by
    intro id g hg
    rcases hblk id with h0 | ⟨k, p, B, g1, g2, g3, g4, ⟨t, y, e, _⟩, g6⟩
    · rw [h0] at hg; cases hg
    · rw [g4, e] at hg
      simp only [bk, g6, boxV, Value.ownBlock, Option.some.injEq] at hg
      subst hg
      exact ⟨k, p, g1, g2, g3⟩
  exact {
    tmps := fun t => by
      rw [eT]
      rcases listT_spec 0 (encArgs 0 s.args x).1 t with ⟨k, e, h7⟩ | h7
      · obtain ⟨v, g1, g2⟩ := All2.get _ _ h6 k _ h7
        have hk : t = k := by omega
        subst hk
        have : (vs.toArray ++ Array.replicate (n - vs.toArray.size) undef).getD t undef = v := by
          rw [Array.getD_eq_getD_getElem?, Array.getElem?_append_left (by have := (List.getElem?_eq_some_iff.1 g1).1; simpa using this)]
          simp [g1]
        show AVRep _ _ _ _ ((vs.toArray ++ Array.replicate (n - vs.toArray.size) undef).getD t undef)
        rw [this]
        exact g2
      · rw [h7]; trivial
    blks := fun id => by
      rw [eH]
      rcases hblk id with h0 | ⟨k, p, B, g1, g2, g3, g4, ⟨t, y, e, g5⟩, g6⟩
      · rw [h0]; trivial
      · rw [g4, e]
        exact ⟨B, g6, g5 _⟩
    apart := fun i j g hi hj => by
      rw [eH] at hi hj
      obtain ⟨k, p, g1, g2, g3⟩ := hbk i g hi
      obtain ⟨k', p', g1', g2', g3'⟩ := hbk j g hj
      have hkk : k = k' := by
        obtain ⟨l1, e1⟩ := List.getElem?_eq_some_iff.1 g2
        obtain ⟨l2, e2⟩ := List.getElem?_eq_some_iff.1 g2'
        exact (List.getElem_inj hn).1 (e1.trans e2.symm)
      subst hkk
      rw [g1] at g1'
      injection g1' with g1'
      rw [← g3, ← g3', g1']
    home := fun i g hi => by
      rw [eH] at hi
      obtain ⟨k, p, _, g2, _⟩ := hbk i g hi
      exact .inr (List.mem_of_getElem? g2)
    refT := fun t id hid => by
      rw [eT] at hid
      rw [eH]
      rcases listT_spec 0 (encArgs 0 s.args x).1 t with ⟨k, e, h7⟩ | h7
      · exact hlive id (h2 _ (List.mem_of_getElem? h7) id hid)
      · rw [h7] at hid; simp [refsAV, refs] at hid
    refH := fun id cs hc s' hs i hi => by
      rw [eH] at hc
      rcases hblk id with h0 | ⟨k, p, B, g1, g2, g3, g4, ⟨t, y, e, g5⟩, g6⟩
      · rw [h0] at hc; cases hc
      · rw [g4, e] at hc
        injection hc with hc
        subst hc
        rw [refs_cellsOf t y s' hs] at hi
        cases hi
    imm := fun _ _ h => h
    immNew := fun _ _ h => .inl h
    immIn := hin
    size := Nat.le_refl _
    old := fun _ _ _ => rfl
    os := rfl
    tape := rfl
    output := rfl
    defers := rfl
    frame := by
      show (vs.toArray ++ Array.replicate (n - vs.toArray.size) undef).size = n
      simp
      omega
    args := fun id B hzz => (setB_z _ _ _ _ hzz).1 }
end Go.Pev
