/- The abstract evaluator: whole bodies. -/
import Derived.Test.YtbfkfobfhjgphaaGreatPevS
set_option linter.unusedVariables false
set_option linter.unusedSimpArgs false
namespace Go.Pev
open Go

section
variable {C : Ctx} {TAB : TypeId → Option TI} {EQ : TypeId → Option (List Ty)} {E : Env} {ops : Array Oper}

/-- Behind which operations one stands. -/
inductive AncR (ops : Array Oper) : Nat → Nat → Prop
  | direct {i : Nat} {o : Oper} {e : Edge} : ops[i]? = some o → e ∈ o.after.toList → Region.binds .any e = true → AncR ops i e.on
  | trans {i j : Nat} {o : Oper} {e : Edge} : ops[i]? = some o → e ∈ o.after.toList → Region.binds .any e = true → AncR ops e.on j → AncR ops i j

theorem ancMask_spec (acc : List Nat) : ∀ (l : List Edge) (j : Nat), (ancMask acc l).testBit j = true → ∃ e ∈ l, Region.binds .any e = true ∧ (j = e.on ∨ (acc.getD e.on 0).testBit j = true)
  | [], j, h => by simp [ancMask] at h
  | e :: l, j, h => by
    simp only [ancMask, cond_eq_ite] at h
    split at h
    · rename_i hb
      rw [Nat.testBit_or, Bool.or_eq_true, Nat.testBit_or, Bool.or_eq_true] at h
      rcases h with (h | h) | h
      · rw [Nat.testBit_two_pow] at h
        exact ⟨e, by simp, hb, .inl (by have h' := h; simp at h'; omega)⟩
      · exact ⟨e, by simp, hb, .inr h⟩
      · obtain ⟨e', h1, h2⟩ := ancMask_spec acc l j h
        exact ⟨e', List.mem_cons_of_mem _ h1, h2⟩
    · obtain ⟨e', h1, h2⟩ := ancMask_spec acc l j h
      exact ⟨e', List.mem_cons_of_mem _ h1, h2⟩

def AncInv (ops : Array Oper) (acc : List Nat) : Prop := ∀ i j, (acc.getD i 0).testBit j = true → AncR ops i j

theorem ancsFrom_inv : ∀ (l : List Oper) (acc : List Nat), (∀ k, l[k]? = ops[acc.length + k]?) → AncInv ops acc → AncInv ops (ancsFrom acc l)
  | [], acc, _, h => h
  | o :: l, acc, hl, h => by
    simp only [ancsFrom]
    have ho : ops[acc.length]? = some o := by simpa using (hl 0).symm
    refine ancsFrom_inv l _ (fun k => by have := hl (k + 1); simpa [Nat.add_assoc, Nat.add_comm 1 k] using this) (fun i j hb => ?_)
    rw [List.getD_eq_getElem?_getD, List.getElem?_append] at hb
    split at hb
    · exact h i j (by rw [List.getD_eq_getElem?_getD]; exact hb)
    · by_cases hi : i = acc.length
      · subst hi
        simp only [Nat.sub_self, List.getElem?_cons_zero, Option.getD_some] at hb
        obtain ⟨e, h1, h2, h3⟩ := ancMask_spec acc _ j hb
        rcases h3 with rfl | h3
        · exact .direct ho h1 h2
        · exact .trans ho h1 h2 (h e.on j h3)
      · rw [List.getElem?_eq_none (by simp; omega)] at hb
        simp at hb

theorem isAnc_spec {i j : Nat} (h : isAnc (ancs ops.toList) i j = true) : AncR ops i j :=
  ancsFrom_inv ops.toList [] (by simp) (fun i j hb => by simp at hb) i j h

theorem tmpsRow_spec (A : List Nat) (i : Nat) (o : Oper) : ∀ (l : List Oper) (j : Nat), tmpsRow A ops i o j l = true → ∀ k p, l[k]? = some p → isAnc A (j + k) i = true ∨ tmpsPair ops o p = true
  | q :: l, j, h, 0, p, hp => by
    simp only [tmpsRow, Bool.and_eq_true, Bool.or_eq_true] at h
    simp at hp
    subst hp
    exact h.1
  | q :: l, j, h, k + 1, p, hp => by
    simp only [tmpsRow, Bool.and_eq_true, Bool.or_eq_true] at h
    have := tmpsRow_spec A i o l (j + 1) h.2 k p (by simpa using hp)
    rwa [show j + 1 + k = j + (k + 1) by omega] at this
  | [], _, _, k, p, hp => by simp at hp
theorem tmpsFrom_spec (A : List Nat) : ∀ (l : List Oper) (i : Nat), tmpsFrom A ops i l = true → ∀ k m o p, k < m → l[k]? = some o → l[m]? = some p → isAnc A (i + m) (i + k) = true ∨ tmpsPair ops o p = true
  | q :: l, i, h, 0, m + 1, o, p, _, ho, hp => by
    simp only [tmpsFrom, Bool.and_eq_true] at h
    simp at ho
    subst ho
    have := tmpsRow_spec A i q l (i + 1) h.1 m p (by simpa using hp)
    rwa [show i + 1 + m = i + (m + 1) by omega] at this
  | q :: l, i, h, k + 1, m + 1, o, p, hkm, ho, hp => by
    simp only [tmpsFrom, Bool.and_eq_true] at h
    have := tmpsFrom_spec A l (i + 1) h.2 k m o p (by omega) (by simpa using ho) (by simpa using hp)
    rwa [show i + 1 + m = i + (m + 1) by omega, show i + 1 + k = i + (k + 1) by omega] at this
  | [], _, _, k, m, o, p, _, ho, _ => by simp at ho
  | _ :: _, _, _, _, 0, _, _, hkm, _, _ => by omega
theorem edgesFrom_spec : ∀ (l : List Oper) (i : Nat), edgesFrom i l = true → ∀ k o, l[k]? = some o → ∀ e ∈ o.after.toList, Region.binds .any e = true → e.on < i + k
  | q :: l, i, h, 0, o, ho, e, he, hb => by
    simp only [edgesFrom, Bool.and_eq_true] at h
    simp at ho
    subst ho
    have := List.all_eq_true.1 h.1 e he
    simp only [hb, Bool.not_true, Bool.false_or, Nat.blt_eq] at this
    omega
  | q :: l, i, h, k + 1, o, ho, e, he, hb => by
    simp only [edgesFrom, Bool.and_eq_true] at h
    have := edgesFrom_spec l (i + 1) h.2 k o (by simpa using ho) e he hb
    omega
  | [], _, _, k, o, ho, _, _, _ => by simp at ho

theorem footRow_spec (A : List Nat) (f : Foot) : ∀ (l : List Foot), footRow A f l = true ↔ ∀ g ∈ l, footPair A f g = true
  | [] => by simp [footRow]
  | g :: l => by simp [footRow, footRow_spec A f l]
theorem footOK_remove (A : List Nat) (g : Foot) : ∀ (l m : List Foot), footOK A (l ++ g :: m) = true → footOK A (l ++ m) = true ∧ ∀ f ∈ l, footPair A f g = true
  | [], m, h => by simp only [List.nil_append, footOK, Bool.and_eq_true] at h; exact ⟨h.2, by simp⟩
  | f :: l, m, h => by
    simp only [List.cons_append, footOK, Bool.and_eq_true] at h ⊢
    obtain ⟨h1, h2⟩ := footOK_remove A g l m h.2
    have h3 := (footRow_spec A f _).1 h.1
    refine ⟨⟨(footRow_spec A f _).2 (fun x hx => h3 x (by simp only [List.mem_append, List.mem_cons] at hx ⊢; exact hx.elim .inl (fun h => .inr (.inr h)))), h1⟩, fun x hx => ?_⟩
    rcases List.mem_cons.1 hx with rfl | hx
    · exact h3 g (by simp)
    · exact h2 x hx

/-- Whatever order the tape picks. -/
theorem any_run (hT : TabOK C.P TAB) (hQ : EqOK C.P EQ) (hE : EnvOK C.P E) (hd : ∀ o ∈ ops.toList, ∀ d, o.dst = some d → d < C.n) (hok : regOK ops = true) {Q : Exit → Act → World → Prop} {st' : AS} (hq : ∀ I ρ a w, Sim C I ρ st' a w → Q .normal a w) :
    ∀ (fuel : Nat) (listed : Array Bool) (L : List Nat) (st : AS) (tr : List Foot) (I : Imm) (ρ : Nat → Value) (a : Act) (w : World), listed.size = ops.size → (∀ i, i ∈ L ↔ i < ops.size ∧ listed.getD i true = false) → L.Pairwise (· < ·) →
    (∀ k o, ops[k]? = some o → listed.getD k true = true → ∀ e ∈ o.after.toList, Region.binds .any e = true → listed.getD e.on false = true) → L.length ≤ fuel → RunF TAB EQ E ops L st st' tr → footOK (ancs ops.toList) tr = true → Sim C I ρ st a w →
    wpAny C.P .any ops Q fuel listed a w := by
  have hok' := hok
  unfold regOK at hok'
  rw [Bool.and_eq_true] at hok'
  obtain ⟨ht, he⟩ := hok'
  have hready : ∀ (listed : Array Bool) i, i ∈ Region.ready .any ops listed ↔ i < ops.size ∧ listed.getD i true = false ∧ ∃ o, ops[i]? = some o ∧ ∀ e ∈ o.after.toList, Region.binds .any e = true → listed.getD e.on false = true := by
    intro listed i
    unfold Region.ready
    simp only [List.mem_filter, List.mem_range, Bool.and_eq_true, Bool.not_eq_true']
    constructor
    · rintro ⟨h1, h2, h3⟩
      refine ⟨h1, h2, ops[i], Array.getElem?_eq_getElem h1, fun e he hb => ?_⟩
      rw [Array.getElem?_eq_getElem h1] at h3
      simp only [Option.map_some, Option.getD_some] at h3
      rw [Array.all_eq_true'] at h3
      have := h3 e (by simpa using he)
      simpa [hb] using this
    · rintro ⟨h1, h2, o, h3, h4⟩
      refine ⟨h1, h2, ?_⟩
      rw [h3]
      simp only [Option.map_some, Option.getD_some]
      rw [Array.all_eq_true']
      intro e he
      cases hb : Region.binds .any e with
      | false => rfl
      | true => simpa using h4 e (by simpa using he) hb
  intro fuel
  induction fuel with
  | zero =>
    intro listed L st tr I ρ a w hsz hL hp hcl hlen hr hf hs
    have hnil : L = [] := List.eq_nil_of_length_eq_zero (by omega)
    subst hnil
    refine ⟨?_, by rw [hr.1] at hq; exact hq I ρ a w hs⟩
    rw [List.eq_nil_iff_forall_not_mem]
    intro i hi
    obtain ⟨h1, h2, _⟩ := (hready listed i).1 hi
    have := (hL i).2 ⟨h1, h2⟩
    cases this
  | succ fuel ih =>
    intro listed L st tr I ρ a w hsz hL hp hcl hlen hr hf hs
    refine ⟨fun hnone => ?_, fun i hi => ?_⟩
    · cases L with
      | nil => rw [hr.1] at hq; exact hq I ρ a w hs
      | cons i0 L' =>
        exfalso
        obtain ⟨h1, h2⟩ := (hL i0).1 (by simp)
        have : i0 ∈ Region.ready .any ops listed := (hready listed i0).2 ⟨h1, h2, ops[i0], Array.getElem?_eq_getElem h1, fun e hee hb => by
          have hlt := edgesFrom_spec ops.toList 0 he i0 ops[i0] (by simp [h1]) e hee hb
          have hlt' : e.on < listed.size := by omega
          have hnm : e.on ∉ i0 :: L' := fun hm => by
            rcases List.mem_cons.1 hm with h | h
            · omega
            · have := (List.pairwise_cons.1 hp).1 _ h; omega
          have hx : ¬ listed.getD e.on true = false := fun hx => hnm ((hL e.on).2 ⟨by omega, hx⟩)
          rw [Array.getD_eq_getD_getElem?, Array.getElem?_eq_getElem hlt'] at hx ⊢
          simpa using hx⟩
        rw [hnone] at this
        cases this
    · obtain ⟨h1, h2, o, ho, hafter⟩ := (hready listed i).1 hi
      have hiL := (hL i).2 ⟨h1, h2⟩
      obtain ⟨l1, l2, rfl⟩ := List.append_of_mem hiL
      have hidx := RunF.idx _ hr
      obtain ⟨t1, tr2, et, e1, e2⟩ := List.map_eq_append_iff.1 hidx
      obtain ⟨fi, t2, e3, e4, e5⟩ := List.map_eq_cons_iff.1 e2
      subst et e3
      have hlen1 : l1.length = t1.length := by rw [← e1]; simp
      obtain ⟨hf1, hf2⟩ := footOK_remove _ fi t1 t2 hf
      have hanc : ∀ i' j, AncR ops i' j → (listed.getD i' false = true ∨ i' = i) → listed.getD j false = true := by
        intro i' j hA
        have hfw : ∀ k, listed.getD k false = true → listed.getD k true = true := fun k hk => by
          rw [Array.getD_eq_getD_getElem?] at hk ⊢
          cases h : listed[k]? with
          | none => rfl
          | some b => rw [h] at hk; simpa using hk
        induction hA with
        | direct h3 h4 h5 =>
          rintro (h6 | rfl)
          · exact hcl _ _ h3 (hfw _ h6) _ h4 h5
          · rw [ho] at h3; injection h3 with h3; subst h3; exact hafter _ h4 h5
        | trans h3 h4 h5 _ ih2 =>
          rintro (h6 | rfl)
          · exact ih2 (.inl (hcl _ _ h3 (hfw _ h6) _ h4 h5))
          · rw [ho] at h3; injection h3 with h3; subst h3; exact ih2 (.inl (hafter _ h4 h5))
      have hindep : ∀ f ∈ t1, Indep ops f fi := by
        intro f hf'
        have hfi : f.i ∈ l1 := by rw [← e1]; exact List.mem_map.2 ⟨f, hf', rfl⟩
        have hlt : f.i < i := (List.pairwise_append.1 hp).2.2 f.i hfi i (by simp)
        have hun : ¬ listed.getD f.i false = true := fun hx => by
          have h7 := ((hL f.i).1 (List.mem_append.2 (.inl hfi)))
          have h8 := h7.2
          have hlt7 : f.i < listed.size := by have := h7.1; omega
          rw [Array.getD_eq_getD_getElem?, Array.getElem?_eq_getElem hlt7] at hx h8
          simp at hx h8
          rw [hx] at h8
          cases h8
        have hnoanc : ¬ isAnc (ancs ops.toList) i f.i = true := fun hx => hun (hanc i f.i (isAnc_spec hx) (.inr rfl))
        refine ⟨fun o1 p1 ho1 hp1 => ?_, ?_⟩
        · rw [e4] at hp1
          rcases tmpsFrom_spec _ ops.toList 0 ht f.i i o1 p1 hlt (by simpa using ho1) (by simpa using hp1) with h | h
          · simp only [Nat.zero_add] at h; exact absurd h hnoanc
          · exact h
        · have := hf2 f hf'
          unfold footPair at this
          rw [e4] at this
          simp only [Bool.or_eq_true, Bool.and_eq_true] at this
          rcases this with h | h
          · exact absurd h hnoanc
          · exact h
      have hfront := hr.front l1 t1 hlen1 hindep
      obtain ⟨o', v, us, S, tr', g1, g2, g3, g4, g5⟩ := hfront
      rw [ho] at g1
      injection g1 with g1
      subst g1
      injection g4 with _ g4
      subst g4
      have hstep := g2 st (fun _ _ => rfl) (fun _ _ => rfl)
      unfold wpOp
      rw [ho]
      refine step_wp hT hQ hE (hd o (by simpa using Array.mem_of_getElem? ho)) hstep hs fun I' ρ' a' w' hs' => ?_
      have hget : ∀ k b, (listed.setIfInBounds i true).getD k b = if k = i then true else listed.getD k b := by
        intro k b
        simp only [Array.getD_eq_getD_getElem?, Array.getElem?_setIfInBounds]
        by_cases hk : i = k
        · subst hk; have hlt8 : i < listed.size := (by have := hsz; omega); simp [hlt8]
        · have : k ≠ i := fun e => hk e.symm
          simp [hk, this]
      have hnd : ∀ x, x ∈ l1 ++ l2 → x ≠ i := fun x hx e => by
        subst e
        have hp' := List.pairwise_append.1 hp
        rcases List.mem_append.1 hx with h | h
        · have := hp'.2.2 x h x (by simp); omega
        · have := (List.pairwise_cons.1 hp'.2.1).1 x h; omega
      refine ih _ (l1 ++ l2) _ (t1 ++ t2) I' ρ' a' w' (by simpa using hsz) (fun k => ?_) ?_ (fun k ok hk1 hk2 e hee hb => ?_) (by simp at hlen ⊢; omega) g5 hf1 hs'
      · rw [hget]
        constructor
        · intro hk
          have hne := hnd k hk
          rw [if_neg hne]
          exact (hL k).1 (by simp only [List.mem_append, List.mem_cons] at hk ⊢; exact hk.elim .inl (fun h => .inr (.inr h)))
        · rintro ⟨h3, h4⟩
          by_cases hk : k = i
          · rw [if_pos hk] at h4; cases h4
          · rw [if_neg hk] at h4
            have := (hL k).2 ⟨h3, h4⟩
            simp only [List.mem_append, List.mem_cons] at this ⊢
            rcases this with h | h | h
            · exact .inl h
            · exact absurd h hk
            · exact .inr h
      · have hp' := List.pairwise_append.1 hp
        exact List.pairwise_append.2 ⟨hp'.1, (List.pairwise_cons.1 hp'.2.1).2, fun x hx y hy => hp'.2.2 x hx y (List.mem_cons_of_mem _ hy)⟩
      · rw [hget] at hk2 ⊢
        by_cases hk : k = i
        · subst hk
          rw [ho] at hk1
          injection hk1 with hk1
          subst hk1
          have := hafter e hee hb
          split
          · rfl
          · exact this
        · rw [if_neg hk] at hk2
          have := hcl k ok hk1 hk2 e hee hb
          split
          · rfl
          · exact this

theorem region_sound (hm : C.P.follows .mixedOrders = true) (hT : TabOK C.P TAB) (hQ : EqOK C.P EQ) (hE : EnvOK C.P E) (hd : ∀ o ∈ ops.toList, ∀ d, o.dst = some d → d < C.n) (hok : regOK ops = true) {R : Type} {r : R} {id : Nat} {st : AS} {K : AS → Option R}
    (h : regDK TAB EQ E ops 0 ops.toList [] st K = some r) {I : Imm} {ρ : Nat → Value} {a : Act} {w : World} (hs : Sim C I ρ st a w) {Q : Exit → Act → World → Prop} (hq : ∀ st' I ρ a w, K st' = some r → Sim C I ρ st' a w → Q .normal a w) : (Code.region id ops true).wp C.P Q a w := by
  obtain ⟨st', tr, h1, h2, h3⟩ := regDK_run hT hE.nat ops.toList 0 (by simp) [] st K h
  simp only [List.reverse_nil, List.nil_append] at h2
  refine wp_region_any hm (any_run hT hQ hE hd hok (fun I ρ a w hs' => hq st' I ρ a w h3 hs') ops.size _ (List.range' 0 ops.toList.length) st tr I ρ a _ (by simp) (fun i => ?_) ?_ (fun k o hk hl => ?_) (by simp) h1 h2 hs.drew)
  · simp only [Array.length_toList, List.mem_range'_1, Nat.zero_le, Nat.zero_add, true_and]
    constructor
    · intro hi
      exact ⟨hi, by rw [Array.getD_eq_getD_getElem?, Array.getElem?_eq_getElem (by simpa using hi)]; simp⟩
    · exact fun h => h.1
  · exact List.pairwise_lt_range'
  · have hlt := (Array.getElem?_eq_some_iff.1 hk).1
    rw [Array.getD_eq_getD_getElem?, Array.getElem?_eq_getElem (by simpa using hlt)] at hl
    simp at hl

/-! ### Bodies -/
def AExit.conc : AExit → Exit
  | .normal => .normal
  | .exit id => .exit id
  | .ret => .ret

def codeOK (n : Nat) : Code → Bool
  | .region _ ops _ => ops.toList.all fun o => match o.dst with | some d => Nat.blt d n | none => true
  | .seq a b => codeOK n a && codeOK n b
  | .cond _ a b => codeOK n a && codeOK n b
  | .block _ c => codeOK n c
  | .loop c => codeOK n c
  | _ => true

theorem wp_loop_rounds' {P : Program} {c : Code} {Q : Exit → Act → World → Prop} (W : Nat → Act → World → Prop) (round : ∀ n a w, W n a w → c.wp P (Exit.then (fun a' w' => ∃ m, m < n ∧ W m a' w') Q) a w) {n : Nat} {a : Act} {w : World} (h0 : W n a w) : (Code.loop c).wp P Q a w := by
  intro b k cs
  have key : ∀ n a w, W n a w → ∃ e a' w', Q e a' w' ∧ Arrives P (lone (b.at a (.code c :: .inLoop c :: k)) cs w) b k cs e a' w' := by
    intro n
    induction n using Nat.strongRecOn with
    | _ n ih =>
      intro a w hI
      obtain ⟨e, a₁, w₁, hq, harr⟩ := round n a w hI b (.inLoop c :: k) cs
      cases e with
      | normal =>
        obtain ⟨m, hlt, hI₁⟩ := hq
        obtain ⟨e₂, a₂, w₂, hq₂, harr₂⟩ := ih m hlt a₁ w₁ hI₁
        exact ⟨e₂, a₂, w₂, hq₂, .of_steps (Steps.trans harr (.one step_inLoop)) harr₂⟩
      | exit id => exact ⟨_, a₁, w₁, hq, .pass (x := .inLoop c) rfl (fun _ _ => .inl (by simp)) harr⟩
      | goto l => exact ⟨_, a₁, w₁, hq, .pass (x := .inLoop c) rfl (fun _ _ => .inl (by simp)) harr⟩
      | ret => exact ⟨_, a₁, w₁, hq, .pass (x := .inLoop c) rfl (fun _ _ => .inl (by simp)) harr⟩
      | panic ch => exact ⟨_, a₁, w₁, hq, .pass (x := .inLoop c) rfl (fun _ _ => .inl (by simp)) harr⟩
      | outgrown => exact ⟨_, a₁, w₁, hq, .pass (x := .inLoop c) rfl (fun _ _ => .inl (by simp)) harr⟩
  obtain ⟨e, a', w', hq, harr⟩ := key n a w h0
  exact ⟨e, a', w', hq, .of_steps (.one step_loop) harr⟩

theorem pevK_sound (hm : C.P.follows .mixedOrders = true) (hT : TabOK C.P TAB) (hQ : EqOK C.P EQ) (hE : EnvOK C.P E) {R : Type} {LP : Nat → LS → (AExit → AS → Option R) → Option R} {MH : Nat → Mask} {MX : Nat → AExit → Mask} {fuel : Nat} :
    ∀ (c : Code), codeOK C.n c = true → LoopsOK TAB EQ E LP MH MX fuel c → ∀ (st : AS) (K : AExit → AS → Option R) (r : R) (Q : Exit → Act → World → Prop), pevK TAB EQ E LP MH c st K = some r →
    ∀ I ρ a w, Sim C I ρ st a w → (∀ e st' I' ρ' a' w', K e st' = some r → Sim C I' ρ' st' a' w' → Q e.conc a' w') → c.wp C.P Q a w := by
  have hops : ∀ (ops : Array Oper), (ops.toList.all fun o => match o.dst with | some d => Nat.blt d C.n | none => true) = true → ∀ o ∈ ops.toList, ∀ d, o.dst = some d → d < C.n := by
    intro ops h o ho d hd
    have := List.all_eq_true.1 h o ho
    rw [hd] at this
    simpa [Nat.blt_eq] using this
  intro c
  induction c with
  | skip =>
    intro _ _ st K r Q h I ρ a w hs hk
    exact wp_skip (hk .normal st I ρ a w h hs)
  | region id ops draw =>
    intro hc _ st K r Q h I ρ a w hs hk
    cases draw with
    | false =>
      simp only [pevK] at h
      refine wp_region ?_
      have := regK_sound (Q := Q) hT hQ hE (hops ops hc) ops.toList 0 (by simp) st _ h hs (fun st' I' ρ' a' w' hK hs' => hk .normal st' I' ρ' a' w' hK hs')
      rwa [Array.length_toList, ← List.range_eq_range'] at this
    | true =>
      simp only [pevK, cond_eq_ite] at h
      split at h
      · rename_i hok
        exact region_sound hm hT hQ hE (hops ops hc) hok h hs (fun st' I' ρ' a' w' hK hs' => hk .normal st' I' ρ' a' w' hK hs')
      · cases h
  | seq x y ihx ihy =>
    intro hc hl st K r Q h I ρ a w hs hk
    simp only [codeOK, Bool.and_eq_true] at hc
    simp only [pevK] at h
    refine wp_seq (ihx hc.1 hl.1 st _ r _ h I ρ a w hs ?_)
    intro e st' I' ρ' a' w' hK hs'
    cases e with
    | normal => exact ihy hc.2 hl.2 st' K r Q hK I' ρ' a' w' hs' hk
    | exit id => exact hk (.exit id) st' I' ρ' a' w' hK hs'
    | ret => exact hk .ret st' I' ρ' a' w' hK hs'
  | cond x y z ihy ihz =>
    intro hc hl st K r Q h I ρ a w hs hk
    simp only [codeOK, Bool.and_eq_true] at hc
    simp only [pevK] at h
    split at h
    · rename_i b hb
      have h1 := (hs.eval x).1
      rw [hb] at h1
      have h2 : a.eval x = .bool b := h1
      refine wp_cond_split h2 (fun hbt => ?_) (fun hbf => ?_)
      · subst hbt
        exact ihy hc.1 hl.1 st K r Q h I ρ a w hs hk
      · subst hbf
        exact ihz hc.2 hl.2 st K r Q h I ρ a w hs hk
    · cases h
  | block id x ih =>
    intro hc hl st K r Q h I ρ a w hs hk
    simp only [pevK] at h
    refine wp_block (ih hc hl st _ r _ h I ρ a w hs ?_)
    intro e st' I' ρ' a' w' hK hs'
    cases e with
    | normal => exact hk .normal st' I' ρ' a' w' hK hs'
    | exit j =>
      simp only [cond_eq_ite] at hK
      show (if j = id then Q .normal a' w' else Q (.exit j) a' w')
      split at hK
      · rename_i hj
        rw [if_pos (Nat.eq_of_beq_eq_true hj)]
        exact hk .normal st' I' ρ' a' w' hK hs'
      · rename_i hj
        rw [if_neg (fun e => hj (by rw [e]; exact Nat.beq_refl id))]
        exact hk (.exit j) st' I' ρ' a' w' hK hs'
    | ret => exact hk .ret st' I' ρ' a' w' hK hs'
  | loop x ih =>
    intro hc hl st K r Q h I ρ a w hs hk
    simp only [pevK] at h
    split at h
    · rename_i l htake
      have hrun := hl.2 l K r h
      obtain ⟨ρ1, hs1⟩ := Mask.take_sound hs htake
      refine wp_loop_rounds' (fun n a w => ∃ l I ρ, loopC n (roundK TAB EQ E LP MH MX x K) l = some r ∧ Sim C I ρ ((MH (loopKey x)).state l) a w) ?_ ⟨l, I, ρ1, hrun, hs1⟩
      rintro n a1 w1 ⟨l1, I1, ρ2, hr1, hs2⟩
      cases n with
      | zero => cases hr1
      | succ n =>
        change roundK TAB EQ E LP MH MX x K l1 (loopC n (roundK TAB EQ E LP MH MX x K)) = some r at hr1
        unfold roundK at hr1
        refine ih hc hl.1 _ _ r _ hr1 I1 ρ2 a1 w1 hs2 ?_
        intro e st' I' ρ' a' w' hK hs'
        cases e with
        | normal =>
          simp only at hK
          split at hK
          · rename_i l' hl'
            obtain ⟨ρ3, hs3⟩ := Mask.take_sound hs' hl'
            exact ⟨n, Nat.lt_succ_self n, l', I', ρ3, hK, hs3⟩
          · cases hK
        | exit id =>
          simp only at hK
          split at hK
          · rename_i l' hl'
            obtain ⟨ρ3, hs3⟩ := Mask.take_sound hs' hl'
            exact hk (.exit id) _ I' ρ3 a' w' hK hs3
          · cases hK
        | ret =>
          simp only at hK
          split at hK
          · rename_i l' hl'
            obtain ⟨ρ3, hs3⟩ := Mask.take_sound hs' hl'
            exact hk .ret _ I' ρ3 a' w' hK hs3
          · cases hK
    · cases h
  | exit id =>
    intro _ _ st K r Q h I ρ a w hs hk
    exact wp_exit (hk (.exit id) st I ρ a w h hs)
  | ret =>
    intro _ _ st K r Q h I ρ a w hs hk
    exact wp_ret (hk .ret st I ρ a w h hs)
  | rangeFunc f ps x y _ _ => intro _ _ st K r Q h; simp [pevK] at h
  | scope x _ => intro _ _ st K r Q h; simp [pevK] at h
  | label l => intro _ _ st K r Q h; simp [pevK] at h
  | goto l => intro _ _ st K r Q h; simp [pevK] at h
  | refuse why => intro _ _ st K r Q h; simp [pevK] at h
end
end Go.Pev
