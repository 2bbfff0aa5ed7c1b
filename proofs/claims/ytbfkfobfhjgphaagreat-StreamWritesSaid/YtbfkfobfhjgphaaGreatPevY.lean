/- The abstract evaluator: what the printed texts lean on: types checked by a Boolean, structs compared, loops by lists. -/
import Derived.Test.YtbfkfobfhjgphaaGreatPevX
set_option linter.unusedVariables false
set_option linter.unusedSimpArgs false
namespace Go.Pev
open Go

theorem all_nil {P : Program} : ∀ p ∈ ([] : List (Nat × FSpec)), FnOK P p.1 p.2 := by simp
theorem all_cons {P : Program} {g : Nat} {s : FSpec} {l : List (Nat × FSpec)} (h : FnOK P g s) (hl : ∀ p ∈ l, FnOK P p.1 p.2) : ∀ p ∈ (g, s) :: l, FnOK P p.1 p.2 := by
  intro p hp
  rcases List.mem_cons.1 hp with rfl | hp
  · exact h
  · exact hl p hp

def exitIs (e : AExit) (n : Nat) : Bool := match e with
  | .exit m => Nat.beq m n
  | _ => false
def retIs (e : AExit) : Bool := match e with
  | .ret => true
  | _ => false

section
variable {TAB : TypeId → Option TI} {EQ : TypeId → Option (List Ty)} {E : Env} {R : Type} {LP : Nat → LS → (AExit → AS → Option R) → Option R} {MH : Nat → Mask} {MX : Nat → AExit → Mask} {fuel : Nat}
def LoopOK (TAB : TypeId → Option TI) (EQ : TypeId → Option (List Ty)) (E : Env) (LP : Nat → LS → (AExit → AS → Option R) → Option R) (MH : Nat → Mask) (MX : Nat → AExit → Mask) (fuel : Nat) (b : Code) : Prop :=
  ∀ l K r, LP (loopKey b) l K = some r → loopC fuel (roundK TAB EQ E LP MH MX b K) l = some r
theorem loops_of : ∀ {c : Code}, (∀ b ∈ loopBodies c, LoopOK TAB EQ E LP MH MX fuel b) → LoopsOK TAB EQ E LP MH MX fuel c := by
  intro c
  induction c with
  | seq a b iha ihb => exact fun h => ⟨iha fun x hx => h x (List.mem_append.2 (.inl hx)), ihb fun x hx => h x (List.mem_append.2 (.inr hx))⟩
  | cond x a b iha ihb => exact fun h => ⟨iha fun x hx => h x (List.mem_append.2 (.inl hx)), ihb fun x hx => h x (List.mem_append.2 (.inr hx))⟩
  | block id x ih => exact fun h => ih h
  | loop x ih => exact fun h => ⟨ih fun b hb => h b (List.mem_cons_of_mem _ hb), h x List.mem_cons_self⟩
  | _ => exact fun _ => trivial
theorem loops_nil : ∀ b ∈ ([] : List Code), LoopOK TAB EQ E LP MH MX fuel b := by simp
theorem loops_cons {b : Code} {l : List Code} (h : LoopOK TAB EQ E LP MH MX fuel b) (hl : ∀ x ∈ l, LoopOK TAB EQ E LP MH MX fuel x) : ∀ x ∈ b :: l, LoopOK TAB EQ E LP MH MX fuel x := by
  intro x hx
  rcases List.mem_cons.1 hx with rfl | hx
  · exact h
  · exact hl x hx
theorem loop_ok2 {b : Code} (D : LD) {X : Type} (iso : D.I → X) (inv : X → D.I) (hinv : ∀ d, inv (iso d) = d) (g : (AExit → AS → Option R) → X → (X → Option R) → Option R)
    (hrun : ∀ l K, LP (loopKey b) l K = match D.dec l with | some d => loopC fuel (g K) (iso d) | none => none)
    (hstep : ∀ K x next, roundK TAB EQ E LP MH MX b K (D.enc (inv x)) next = g K x fun y => next (D.enc (inv y))) : LoopOK TAB EQ E LP MH MX fuel b := by
  intro l K r h
  rw [hrun] at h
  split at h
  · rename_i d hd
    rw [D.dec_enc l d hd]
    have := loopC_enc (fun x => D.enc (inv x)) _ (g K) (hstep K) fuel (iso d)
    simp only [hinv] at this
    rw [this]
    exact h
  · cases h
end

/-! ### Types by a check -/
def zrepB : SV → Value → Bool
  | .undef, v => v.oneCell'
  | .int k n, .int k' m => decide (k' = k) && decide (m = n)
  | .bool b, .bool c => decide (c = b)
  | .str s, .string s' => decide (s'.data = s.data)
  | .nilsl, .slice none 0 0 => true
  | .nilp, .pointer none => true
  | _, _ => false
theorem zrepB_spec : ∀ s v, zrepB s v = true → zrep s v := by
  intro s v h
  unfold zrepB at h
  split at h
  · exact h
  all_goals try simp only [Bool.and_eq_true, decide_eq_true_eq, Bool.false_eq_true] at h
  · obtain ⟨rfl, rfl⟩ := h; rfl
  · subst h; rfl
  · rename_i s s'
    show Value.string s' = .string s
    cases s; cases s'
    simp only at h
    rw [h]
  · rfl
  · rfl
def all2B : List SV → List Value → Bool
  | [], [] => true
  | s :: l, v :: m => zrepB s v && all2B l m
  | _, _ => false
theorem all2B_spec : ∀ l m, all2B l m = true → All2 zrep l m
  | [], [], _ => trivial
  | s :: l, v :: m, h => by
    simp only [all2B, Bool.and_eq_true] at h
    exact ⟨zrepB_spec s v h.1, all2B_spec l m h.2⟩
  | [], _ :: _, h => by simp [all2B] at h
  | _ :: _, [], h => by simp [all2B] at h
def zc1 : Ty → Value → Bool
  | .int k, .int k' m => decide (k' = k) && decide (m = 0)
  | .bool, .bool b => !b
  | .str, .string s => s.data.toList.isEmpty
  | .sl _, .slice none 0 0 => true
  | _, _ => false
theorem zc1_spec (t : Ty) (v : Value) (h : zc1 t v = true) : zcells t = [v] := by
  unfold zc1 at h
  split at h
  · simp only [Bool.and_eq_true, decide_eq_true_eq] at h
    obtain ⟨rfl, rfl⟩ := h
    rfl
  · rename_i b
    cases b
    · rfl
    · cases h
  · rename_i s
    have : s = ByteArray.empty := by
      cases s with
      | mk d =>
        have : d = #[] := by
          apply Array.ext'
          simpa [List.isEmpty_iff] using h
        subst this
        rfl
    subst this
    rfl
  · rfl
  · cases h
def zcellsB : Ty → List Value → Option (List Value)
  | .pair a b, l => match zcellsB a l with
    | some l => zcellsB b l
    | none => none
  | .int k, l => scal (.int k) l
  | .bool, l => scal .bool l
  | .str, l => scal .str l
  | .sl e, l => scal (.sl e) l
where scal (t : Ty) : List Value → Option (List Value)
  | [] => none
  | v :: r => bif zc1 t v then some r else none
theorem scal_spec (t : Ty) (l r : List Value) (h : zcellsB.scal t l = some r) : l = zcells t ++ r := by
  cases l with
  | nil => cases h
  | cons v l =>
    simp only [zcellsB.scal, cond_eq_ite] at h
    split at h
    · rename_i hz
      injection h with h
      subst h
      rw [zc1_spec t v hz]
      rfl
    · cases h
theorem zcellsB_spec : ∀ (t : Ty) (l r : List Value), zcellsB t l = some r → l = zcells t ++ r
  | .pair a b, l, r, h => by
    simp only [zcellsB] at h
    split at h
    · rename_i l' h1
      rw [zcellsB_spec a l l' h1, zcellsB_spec b l' r h]
      simp [zcells]
    · cases h
  | .int k, l, r, h => scal_spec _ l r h
  | .bool, l, r, h => scal_spec _ l r h
  | .str, l, r, h => scal_spec _ l r h
  | .sl e, l, r, h => scal_spec _ l r h

def flatB (P : Program) (f : Field) : Bool := match P.underlying f.type with
  | some (.struct _) => !(decide (P.cellsOf f.type = 1))
  | some (.array _ _) => !(decide (P.cellsOf f.type = 1))
  | some _ => true
  | none => false
theorem flatB_spec {P : Program} {f : Field} (h : flatB P f = true) : ∃ u, P.underlying f.type = some u ∧ (P.cellsOf f.type = 1 → (∀ g, u ≠ .struct g) ∧ ∀ n e, u ≠ .array n e) := by
  unfold flatB at h
  split at h
  · rename_i g hg
    refine ⟨_, hg, fun h1 => ?_⟩
    simp [h1] at h
  · rename_i n e hg
    refine ⟨_, hg, fun h1 => ?_⟩
    simp [h1] at h
  · rename_i u h1 h2 hu
    exact ⟨u, hu, fun _ => ⟨fun g e => h1 g e, fun n e ee => h2 n e ee⟩⟩
  · cases h
def tdB (P : Program) (tok : Bool) (d : TD) (u : TypeDesc) : Bool := match d, u with
  | .int k, .int k' => decide (k' = k)
  | .bool, .bool => true
  | .str, .string => true
  | .struct fs, .struct fields => decide (fields.toList.map (fun f => (f.offset, P.cellsOf f.type)) = fs) && (!tok || fields.toList.all (flatB P))
  | .slice e, .slice e' => decide (e' = e)
  | .other, .struct _ => false
  | .other, .array _ _ => false
  | .other, _ => true
  | _, _ => false
def tiB (P : Program) (t : TypeId) (ti : TI) : Bool :=
  (match P.info? t with
    | some i => decide (i.size = ti.size) && decide (i.bytes = ti.bytes) && (match i.zero with
      | some z => all2B ti.zero z.cells.toList && (!ti.tok || (decide (ti.ty.size = ti.size) && (match zcellsB ti.ty z.cells.toList with | some [] => true | _ => false)))
      | none => false)
    | none => false) &&
  match P.underlying t with
    | some d => tdB P ti.flat ti.d d
    | none => false
theorem tiB_spec {P : Program} {t : TypeId} {ti : TI} (h : tiB P t ti = true) : TiOK P t ti := by
  unfold tiB at h
  rw [Bool.and_eq_true] at h
  obtain ⟨h1, h2⟩ := h
  refine ⟨?_, ?_⟩
  · split at h1
    · rename_i i hi
      simp only [Bool.and_eq_true, decide_eq_true_eq] at h1
      obtain ⟨⟨h3, h4⟩, h5⟩ := h1
      split at h5
      · rename_i z hz
        simp only [Bool.and_eq_true, Bool.or_eq_true, Bool.not_eq_true', decide_eq_true_eq] at h5
        refine ⟨i, z, hi, h3, h4, hz, all2B_spec _ _ h5.1, fun htok => ?_⟩
        rcases h5.2 with h6 | ⟨h6, h7⟩
        · rw [htok] at h6; cases h6
        · refine ⟨h6, ?_⟩
          split at h7
          · rename_i hr
            simpa using zcellsB_spec _ _ _ hr
          · cases h7
      · cases h5
    · cases h1
  · split at h2
    · rename_i d hd
      refine ⟨d, hd, ?_⟩
      unfold tdB at h2
      split at h2
      all_goals first
        | (simp_all; done)
        | (rw [Bool.and_eq_true, decide_eq_true_eq] at h2
           simp only [*]
           refine ⟨_, rfl, h2.1, fun htok f hf => flatB_spec ?_⟩
           have h3 := h2.2
           simp only [htok, Bool.not_true, Bool.false_or] at h3
           exact List.all_eq_true.1 h3 f hf)
    · cases h2

def tabOf : List (Nat × TI) → TypeId → Option TI
  | [], _ => none
  | (k, ti) :: l, t => bif Nat.beq t k then some ti else tabOf l t
theorem tabOf_ok {P : Program} : ∀ (l : List (Nat × TI)), (l.all fun p => tiB P p.1 p.2) = true → TabOK P (tabOf l)
  | [], _, t, ti, h => by simp [tabOf] at h
  | (k, ti') :: l, hl, t, ti, h => by
    simp only [List.all_cons, Bool.and_eq_true] at hl
    simp only [tabOf, cond_eq_ite] at h
    split at h
    · rename_i hk
      have := Nat.eq_of_beq_eq_true hk
      injection h with h
      subst this h
      exact tiB_spec hl.1
    · exact tabOf_ok l hl.2 t ti h
end Go.Pev
