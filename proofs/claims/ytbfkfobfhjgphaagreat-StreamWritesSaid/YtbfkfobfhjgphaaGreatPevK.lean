/- The abstract evaluator: its operations are the machine's: append, slices written out. -/
import Derived.Test.YtbfkfobfhjgphaaGreatPevJ
set_option linter.unusedVariables false
set_option linter.unusedSimpArgs false
namespace Go.Pev
open Go

section
variable {C : Ctx} {o : Oper} {st : AS}

/-- What is appended, wherever it comes from. -/
def SrcOK (C : Ctx) (st : AS) (xt : TypeId) (x : Operand) (te : TI) (ys : List te.ty.I) : Prop :=
  ∀ I ρ a w, Sim C I ρ st a w → ∃ news, FRep I w te.ty ys news ∧ ∀ z, z.cells.toList = zcells te.ty → Src C.P w xt (a.eval x) te.size te.bytes ys.length z news

theorem SrcOK.zeros {TAB : TypeId → Option TI} (hT : TabOK C.P TAB) {xt : TypeId} {x : Operand} {te : TI} {tx : TI} (hx : TAB xt = some tx) {k : IntKind} (hk : tx.d = .int k) {n : Int} (hn : evalO st x = .sc (.int .i64 n)) (h0 : 0 ≤ n) (h1 : n ≤ 9223372036854775807)
    (hb : n * te.bytes ≤ 281474976710656) (htok : te.ty.size = te.size) (hsz : 0 < te.size) : SrcOK C st xt x te (List.replicate n.toNat te.ty.dflt) := by
  intro I ρ a w hs
  have h2 := (hs.eval x).1
  rw [hn] at h2
  have h3 : a.eval x = .int .i64 n := h2
  have hzl : (zcells te.ty).length = te.size := by rw [← htok]; exact CRep.length _ _ _ (crep_zero I w te.ty)
  refine ⟨_, frep_zero I w te.ty n.toNat, fun z hz => ⟨?_, .inr ⟨k, (hT _ _ hx).int hk, ?_, ?_, ?_, ?_⟩⟩⟩
  · rw [(frep_zero I w te.ty n.toNat).length, htok]
  · rw [h3, List.length_replicate, Int.toNat_of_nonneg h0]
  · rw [List.length_replicate, Int.toNat_of_nonneg h0]; exact h1
  · rw [List.length_replicate, Int.toNat_of_nonneg h0]; exact hb
  · rw [List.length_replicate, zeroCells_flat z.cells _ hz (by omega)]

theorem flat_get {I : Imm} {w : World} {e : Ty} {xs : List e.I} {ad : Addr} (h : ∀ i (h : i < xs.length), ∃ cs', CRep I w e xs[i] cs' ∧ ∀ j u, cs'[j]? = some u → w.cell? (ad.add (i * e.size + j)) = some u) :
    ∃ news, FRep I w e xs news ∧ ∀ j u, news[j]? = some u → w.cell? (ad.add j) = some u := by
  have key : ∀ (n k : Nat), k + n = xs.length → ∃ news, FRep I w e (xs.drop k) news ∧ ∀ j u, news[j]? = some u → w.cell? (ad.add (k * e.size + j)) = some u := by
    intro n
    induction n with
    | zero =>
      intro k hk
      refine ⟨[], ?_, by simp⟩
      rw [List.drop_eq_nil_of_le (by omega)]
      rfl
    | succ n ih =>
      intro k hk
      obtain ⟨r, h1, h2⟩ := ih (k + 1) (by omega)
      obtain ⟨c, h3, h4⟩ := h k (by omega)
      refine ⟨c ++ r, ?_, ?_⟩
      · rw [List.drop_eq_getElem_cons (by omega)]
        exact ⟨c, r, rfl, h3, h1⟩
      · intro j u hu
        have hl := CRep.length _ _ _ h3
        by_cases hj : j < c.length
        · rw [List.getElem?_append_left hj] at hu
          exact h4 j u hu
        · rw [List.getElem?_append_right (by omega)] at hu
          have := h2 _ u hu
          rw [hl] at this
          rwa [show (k + 1) * e.size + (j - e.size) = k * e.size + j by rw [Nat.add_mul]; omega] at this
  obtain ⟨news, h1, h2⟩ := key xs.length 0 (by omega)
  exact ⟨news, by simpa using h1, fun j u hu => by simpa using h2 j u hu⟩

theorem SrcOK.view {TAB : TypeId → Option TI} (hT : TabOK C.P TAB) {xt : TypeId} {x : Operand} {te : TI} {tx : TI} (hx : TAB xt = some tx) {e : TypeId} (hk : tx.d = .slice e) {s : SV} (hs' : evalO st x = .sc s) {ys : List te.ty.I} (hv : viewOf st.H te.ty s = some ys)
    (htok : te.ty.size = te.size) : SrcOK C st xt x te ys := by
  intro I ρ a w hs
  have h2 := (hs.eval x).1
  rw [hs'] at h2
  have hne : s ≠ .undef := by intro e; subst e; simp [viewOf] at hv
  obtain ⟨ad, cap, h3, h4, h5⟩ := hs.viewOf hv (h2.sc hne)
  simp only [List.cons.injEq, and_true] at h3
  have hu := (hT _ _ hx).slice hk
  cases ad with
  | none =>
    have h0 : ys = [] := by
      cases ys with
      | nil => rfl
      | cons y ys => obtain ⟨ad, cs, h, _⟩ := h5 0 (by simp); cases h
    subst h0
    refine ⟨[], rfl, fun z hz => ⟨by simp, .inl ⟨_, hu, by simp, ?_, ?_, ?_⟩⟩⟩
    · rw [h3]; rfl
    · rw [h3]; rfl
    · rw [h3]; rfl
  | some ad =>
    obtain ⟨news, h6, h7⟩ := flat_get (I := I) (w := w) (e := te.ty) (xs := ys) (ad := ad) (fun i hi => by
      obtain ⟨ad', cs, h, h8, h9⟩ := h5 i hi
      injection h with h
      subst h
      exact ⟨cs, h8, fun j u hu => (h9 j u hu).2⟩)
    have hl := h6.length
    rw [htok] at hl
    refine ⟨news, h6, fun z hz => ⟨hl, .inl ⟨_, hu, by simp, ?_, ?_, ?_⟩⟩⟩
    · rw [h3]; rfl
    · rw [h3]; exact run_firstCells_some w te.size ys.length ad ys.length cap news hl h7
    · rw [h3]; exact run_firstCells_some w.drew te.size ys.length ad ys.length cap news hl (by simpa using h7)

theorem run_append_call {P : Program} {a : Act} {w w' : World} {v : Value} {c : Call} (ho : o.op = .call c) (hc : c.callee = .builtin .append) {s x : Operand} {t xt : TypeId} (h1 : c.args.toList = [s, x]) (h2 : c.argTypes.toList = [t, xt])
    (h : (Builtin.append_ #[t, xt] o.type #[a.eval s, a.eval x]).run P w = .ok v w') : (execOp a.eval o).run P w = .ok (.value v) w' := by
  have e1 : c.args = #[s, x] := by apply Array.ext'; simpa using h1
  have e2 : c.argTypes = #[t, xt] := by apply Array.ext'; simpa using h2
  rw [call_builtin ho hc]
  simp [e1, e2, builtin, h]

theorem Sim.nilRow {I : Imm} {ρ : Nat → Value} {a : Act} {w : World} (hs : Sim C I ρ st a w) {id : Nat} (hid : st.H id = .none) (hz : C.Z id = none) (tid : TypeId) (e : Ty) (hsz : 0 < e.size) : Sim C I (upd ρ id (.slice none 0 0)) ⟨st.T, upd st.H id (.row tid e [])⟩ a w := by
  refine hs.new hid hz ?_ ?_ ?_ (by simp) (by simp)
  · show rowRep _ _ _ _ _ _ _
    rw [upd_same]
    exact ⟨[], rfl, World.ownsRow_nil _ _ _ _, rfl, hsz, by simp [Value.ownBlock]⟩
  · simp [Value.ownBlock]
  · simp [Value.ownBlock]

/-- The grown row, in a new block. -/
theorem Sim.grown {I : Imm} {ρ : Nat → Value} {a : Act} {w : World} (hs : Sim C I ρ st a w) {id : Nat} (hid : st.H id = .none) (hzz : C.Z id = none) (tid : TypeId) (e : Ty) (xs ys : List e.I) (old : Nat) (z : Array Value) (olds news : List Value)
    (h1 : FRep I w e xs olds) (h2 : FRep I w e ys news) (hsz : 0 < e.size) (hz : z.size = e.size) (h63 : xs.length + ys.length ≤ 9223372036854775807) :
    ∃ I', Sim C I' (upd ρ id (.slice (some ⟨w.heap.size, 0, none⟩) (xs.length + ys.length) (grownCap w (xs.length + ys.length) old tid))) ⟨st.T, upd st.H id (.row tid e (xs ++ ys))⟩ a
      (w.drew.alloc (.cells (olds.toArray ++ news.toArray ++ Builtin.zeroCells z (grownCap w (xs.length + ys.length) old tid - (xs.length + ys.length))) tid)) := by
  have hge := grownCap_ge w (xs.length + ys.length) old tid
  have hcm := grownCap_le_maxLen w (xs.length + ys.length) old tid (by unfold maxLen; omega)
  have hl1 := h1.length
  have hl2 := h2.length
  have k1 : FRep I w.drew e xs olds := FRep.mono (I := I) (w := w) (w' := w.drew) (fun _ _ h => h) (fun _ _ _ h => h) _ _ h1
  have k2 : FRep I w.drew e ys news := FRep.mono (I := I) (w := w) (w' := w.drew) (fun _ _ h => h) (fun _ _ _ h => h) _ _ h2
  have h := hs.drew.newRow hid hzz (olds.toArray ++ news.toArray ++ Builtin.zeroCells z (grownCap w (xs.length + ys.length) old tid - (xs.length + ys.length))) tid e (xs ++ ys) (grownCap w (xs.length + ys.length) old tid) (olds ++ news)
    (FRep.append _ _ _ _ k1 k2) hsz (by simpa using hge) hcm (by
      simp only [Array.size_append, List.size_toArray, size_zeroCells, hz, hl1, hl2, ← Nat.add_mul]
      congr 1
      omega) (by
      simp only [Array.toList_append, List.append_assoc]
      rw [← List.append_assoc, List.take_append_of_le_length (by simp [hl1, hl2, Nat.add_mul])]
      rw [List.take_of_length_le (by simp [hl1, hl2, Nat.add_mul])])
  rw [List.length_append] at h
  exact ⟨_, h⟩

theorem ok_appendNil (hd : ∀ d, o.dst = some d → d < C.n) {TAB : TypeId → Option TI} (hT : TabOK C.P TAB) {c : Call} (ho : o.op = .call c) (hc : c.callee = .builtin .append) {s x : Operand} {t xt : TypeId} (h1 : c.args.toList = [s, x]) (h2 : c.argTypes.toList = [t, xt])
    {e : TypeId} {te : TI} (ht : elemOf TAB t = some (e, te)) {d : Nat} (hdst : o.dst = some d) (hH : st.H d = .none) (hsv : evalO st s = .sc .nilsl) {ys : List te.ty.I} (hsrc : SrcOK C st xt x te ys)
    (hb : (ys.length : Int) * te.bytes ≤ maxBytes) (h63 : (ys.length : Int) ≤ 9223372036854775807) (hsz : 0 < te.size) : OpOK C o st (.sc (.row d)) [(d, .row e te.ty ys)] := by
  intro I ρ a w hs next Q hnx
  have hv := (hs.eval s).1
  rw [hsv] at hv
  have hv' : a.eval s = .slice none 0 0 := hv
  obtain ⟨hu, hte, htok⟩ := elemOf_ok hT ht
  obtain ⟨i, z, g1, g2, g3, g4, g5, g6⟩ := hte.info
  obtain ⟨g7, g8⟩ := g6 htok
  obtain ⟨news, hf, hsr⟩ := hsrc I ρ a w hs
  have hsr := hsr z g8
  rw [← g2, ← g3] at hsr
  by_cases h0 : ys.length = 0
  · have hy : ys = [] := List.eq_nil_of_length_eq_zero h0
    subst hy
    have hr := app_none t xt o.type e i z hu g1 hsr
    rw [← hv'] at hr
    have h3 := hs.nilRow hH (C.z_lt (hd _ hdst)) e te.ty (by omega)
    have := h3.put hd (v := .sc (.row d)) (x := .slice none 0 0) ⟨by rw [upd_same], rfl⟩ (by simp [refsAV, refs, upd_same])
    exact wp_value (run_append_call ho hc h1 h2 hr) (hnx _ _ _ _ (by rw [hv']; simpa [AS.apply, upds, hdst] using this))
  · have hb' : ys.length * te.bytes ≤ 140737488355328 := by
      have : ((ys.length * te.bytes : Nat) : Int) ≤ 140737488355328 := by rw [Int.natCast_mul]; unfold maxBytes at hb; exact hb
      omega
    have hr := app_grow t xt o.type e i z hu g1 g4 none 0 0 [] (by simp [run_firstCells_none]) hsr (by omega) (by omega) (growslice_fits (by omega) (by rw [g3, Nat.zero_add]; exact hb'))
    rw [← hv'] at hr
    obtain ⟨I', h3⟩ := hs.grown hH (C.z_lt (hd _ hdst)) e te.ty [] ys 0 z.cells [] news rfl hf (by omega) (by rw [g7]; have := CRep.length _ _ _ (crep_zero I w te.ty); rw [← g8] at this; simp at this; omega) (by simp; omega)
    have := h3.put hd (v := .sc (.row d)) (x := .slice (some ⟨w.heap.size, 0, none⟩) (([] : List te.ty.I).length + ys.length) (grownCap w (([] : List te.ty.I).length + ys.length) 0 e)) ⟨by rw [upd_same], rfl⟩ (by simp [refsAV, refs, upd_same])
    exact wp_value (run_append_call ho hc h1 h2 hr) (hnx _ _ _ _ (by simpa [AS.apply, upds, hdst] using this))
end
end Go.Pev
