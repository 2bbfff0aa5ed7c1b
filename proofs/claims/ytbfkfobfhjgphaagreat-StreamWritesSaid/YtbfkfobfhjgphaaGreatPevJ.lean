/- The abstract evaluator: its operations are the machine's: make, append. -/
import Derived.Test.YtbfkfobfhjgphaaGreatPevI
set_option linter.unusedVariables false
set_option linter.unusedSimpArgs false
namespace Go.Pev
open Go

/-- What an append takes its new cells from. -/
structure Src (P : Program) (w : World) (xt : TypeId) (x : Value) (size bytes m : Nat) (z : Value) (news : List Value) : Prop where
  len : news.length = m * size
  src : (∃ d, P.underlying xt = some d ∧ (∀ k, d ≠ .int k) ∧ (Builtin.lenOf x).run P w = .ok m w ∧ (Builtin.firstCells size m x).run P w = .ok news.toArray w ∧ (Builtin.firstCells size m x).run P w.drew = .ok news.toArray w.drew) ∨
    (∃ k, P.underlying xt = some (.int k) ∧ x = .int .i64 (m : Int) ∧ (m : Int) ≤ 9223372036854775807 ∧ (m : Int) * bytes ≤ 281474976710656 ∧ news = (Builtin.zeroCells z.cells m).toList)

section
variable {P : Program} {w : World}

theorem app_room (t xt ty e : TypeId) (i : TypeInfo) (z : Value) (ht : P.underlying t = some (.slice e)) (hi : P.info? e = some i) (hz : i.zero = some z) (g sLen sCap : Nat) (cur : Array Value) (hg : w.heap[g]? = some (.cells cur e (0, 0)))
    {x : Value} {m : Nat} {news : List Value} (hs : Src P w xt x i.size i.bytes m z news) (h1 : ∀ u ∈ news, u.oneCell' = true) (hroom : sLen + m ≤ sCap) (hfit : sLen * i.size + news.length ≤ cur.size) :
    (Builtin.append_ #[t, xt] ty #[.slice (some ⟨g, 0, none⟩) sLen sCap, x]).run P w =
      .ok (.slice (some ⟨g, 0, none⟩) (sLen + m) sCap) (w.setRow g (cur.toList.take (sLen * i.size) ++ news ++ cur.toList.drop (sLen * i.size + news.length)).toArray) := by
  have hst := run_storeCells_at P g (sLen * i.size) e news 0 cur w hg (by simpa using hfit) h1
  simp only [Nat.add_zero] at hst
  rcases hs.src with ⟨d, hd, hk, hl, hf, _⟩ | ⟨k, hk, rfl, h63, h48, hn⟩
  · have hno : (match d with | .int _ => true | _ => false) = false := by cases d <;> first | rfl | exact absurd rfl (hk _)
    simp [Builtin.append_, run_underlying ht, run_underlying hd, hno, sizeOf, typeInfo, hi, hl, hroom, hf, Addr.add_lit, hst]
  · have w1 : IntKind.i64.wrap (m : Int) = m := by rw [IntKind.wrap_i64]; omega
    have n1 : ¬ ((m : Int) < 0) := by omega
    have n2 : ¬ (281474976710656 < (m : Int) * (i.bytes : Int)) := by omega
    by_cases h0 : m * i.size = 0
    · have hn0 : news = [] := List.eq_nil_of_length_eq_zero (by rw [hs.len]; exact h0)
      subst hn0
      simp [Builtin.append_, run_underlying ht, run_underlying hk, sizeOf, typeInfo, hi, asInt, asIntOf, w1, n1, n2, hroom, h0, Addr.add_lit] at hst ⊢
      simp [hst]
    · have : (Builtin.zeroCells z.cells m).toList = news := hn.symm
      simp [Builtin.append_, run_underlying ht, run_underlying hk, sizeOf, typeInfo, hi, asInt, asIntOf, w1, n1, n2, hroom, h0, Addr.add_lit, zeroValue, hz, this, hst]

theorem app_grow (t xt ty e : TypeId) (i : TypeInfo) (z : Value) (ht : P.underlying t = some (.slice e)) (hi : P.info? e = some i) (hz : i.zero = some z) (b : Option Addr) (sLen sCap : Nat) (olds : List Value)
    (holds : (Builtin.firstCells i.size sLen (.slice b sLen sCap)).run P w.drew = .ok olds.toArray w.drew)
    {x : Value} {m : Nat} {news : List Value} (hs : Src P w xt x i.size i.bytes m z news) (hg : sCap < sLen + m) (h63 : ((sLen + m : Nat) : Int) ≤ 9223372036854775807) (hfit : Builtin.nextslicecap (sLen + m) sCap * i.bytes ≤ 281474976710656) :
    (Builtin.append_ #[t, xt] ty #[.slice b sLen sCap, x]).run P w =
      .ok (.slice (some ⟨w.heap.size, 0, none⟩) (sLen + m) (grownCap w (sLen + m) sCap e))
        (w.drew.alloc (.cells (olds.toArray ++ news.toArray ++ Builtin.zeroCells z.cells (grownCap w (sLen + m) sCap e - (sLen + m))) e)) := by
  have hn : ¬ (sLen + m ≤ sCap) := by omega
  have h63' : ¬ (9223372036854775807 < ((sLen : Int) + (m : Int))) := by omega
  have h48' : ¬ (281474976710656 < Builtin.nextslicecap (sLen + m) sCap * i.bytes) := by omega
  rcases hs.src with ⟨d, hd, hk, hl, hf, hf'⟩ | ⟨k, hk, rfl, h631, h48, hnews⟩
  · have hno : (match d with | .int _ => true | _ => false) = false := by cases d <;> first | rfl | exact absurd rfl (hk _)
    simp [Builtin.append_, run_underlying ht, run_underlying hd, hno, sizeOf, typeInfo, zeroValue, hi, hz, hl, hn, h63', h48', Question.forced, hf', holds, newRow, grownCap]
    congr 2
    apply Array.ext'
    simp [List.append_assoc]
  · have w1 : IntKind.i64.wrap (m : Int) = m := by rw [IntKind.wrap_i64]; omega
    have n1 : ¬ ((m : Int) < 0) := by omega
    have n2 : ¬ (281474976710656 < (m : Int) * (i.bytes : Int)) := by omega
    by_cases h0 : m * i.size = 0
    · have hn0 : news = [] := List.eq_nil_of_length_eq_zero (by rw [hs.len]; exact h0)
      subst hn0
      simp [Builtin.append_, run_underlying ht, run_underlying hk, sizeOf, typeInfo, zeroValue, hi, hz, asInt, asIntOf, w1, n1, n2, hn, h63', h48', h0, Question.forced, holds, newRow, grownCap]
    · have hnews' : Builtin.zeroCells z.cells m = news.toArray := by rw [hnews]
      simp [Builtin.append_, run_underlying ht, run_underlying hk, sizeOf, typeInfo, zeroValue, hi, hz, asInt, asIntOf, w1, n1, n2, hn, h63', h48', h0, Question.forced, holds, newRow, grownCap, hnews']
      congr 2
      apply Array.ext'
      simp [List.append_assoc]

theorem app_none (t xt ty e : TypeId) (i : TypeInfo) (z : Value) (ht : P.underlying t = some (.slice e)) (hi : P.info? e = some i)
    {x : Value} {news : List Value} (hs : Src P w xt x i.size i.bytes 0 z news) : (Builtin.append_ #[t, xt] ty #[.slice none 0 0, x]).run P w = .ok (.slice none 0 0) w := by
  rcases hs.src with ⟨d, hd, hk, hl, hf, hf'⟩ | ⟨k, hk, rfl, h631, h48, hnews⟩
  · have hno : (match d with | .int _ => true | _ => false) = false := by cases d <;> first | rfl | exact absurd rfl (hk _)
    simp [Builtin.append_, run_underlying ht, run_underlying hd, hno, sizeOf, typeInfo, hi, hl, hf]
  · have w1 : IntKind.i64.wrap (0 : Int) = 0 := by rw [IntKind.wrap_i64]; omega
    simp [Builtin.append_, run_underlying ht, run_underlying hk, sizeOf, typeInfo, hi, asInt, asIntOf, w1]
end

/-! ### Zeros -/
theorem crep_zero (I : Imm) (w : World) : ∀ (t : Ty), CRep I w t t.dflt (zcells t)
  | .int _ => rfl
  | .bool => rfl
  | .str => rfl
  | .pair a b => ⟨zcells a, zcells b, rfl, crep_zero I w a, crep_zero I w b⟩
  | .sl e => ⟨none, 0, rfl, Nat.le_refl _, fun i hi => absurd hi (Nat.not_lt_zero _)⟩
theorem frep_zero (I : Imm) (w : World) (t : Ty) : ∀ (n : Nat), FRep I w t (List.replicate n t.dflt) (List.replicate n (zcells t)).flatten
  | 0 => rfl
  | n + 1 => ⟨zcells t, (List.replicate n (zcells t)).flatten, by simp [List.replicate_succ], crep_zero I w t, frep_zero I w t n⟩
theorem zeros_flat (z : Array Value) (l : List Value) (hz : z.toList = l) (h0 : 0 < l.length) : ∀ n, ((List.range (n * l.length)).map fun i => z[i % z.size]!) = (List.replicate n l).flatten
  | 0 => by simp
  | n + 1 => by
    have hsz : z.size = l.length := by rw [← hz]; simp
    rw [show (n + 1) * l.length = l.length + n * l.length by rw [Nat.add_mul]; omega, List.range_add, List.map_append, List.replicate_succ, List.flatten_cons, ← zeros_flat z l hz h0 n, List.map_map]
    congr 1
    · apply List.ext_getElem
      · simp
      · intro k h1 h2
        simp only [List.length_map, List.length_range] at h1
        have : z[k % z.size]! = z[k]'(by omega) := by
          rw [Nat.mod_eq_of_lt (by omega), getElem!_pos z k (by omega)]
        simp only [List.getElem_map, List.getElem_range, this]
        simp [← hz]
    · apply List.map_congr_left
      intro k _
      simp only [Function.comp_apply, hsz, Nat.add_mod_left]
theorem zeroCells_flat (z : Array Value) (l : List Value) (hz : z.toList = l) (h0 : 0 < l.length) (n : Nat) : (Builtin.zeroCells z n).toList = (List.replicate n l).flatten := by
  have hsz : z.size = l.length := by rw [← hz]; simp
  unfold Builtin.zeroCells
  rw [Array.toList_map, Array.toList_range, hsz, ← zeros_flat z l hz h0 n, hsz]
theorem madeCells_flat (z : Array Value) (l : List Value) (hz : z.toList = l) (h0 : 0 < l.length) (n : Nat) : (madeCells z (n * l.length)).toList = (List.replicate n l).flatten := by
  unfold madeCells
  rw [Array.toList_map, Array.toList_range, ← zeros_flat z l hz h0 n]
theorem flat_take (l : List Value) : ∀ (n m : Nat), n ≤ m → ((List.replicate m l).flatten).take (n * l.length) = (List.replicate n l).flatten
  | 0, m, _ => by simp
  | n + 1, 0, h => by omega
  | n + 1, m + 1, h => by
    rw [List.replicate_succ, List.flatten_cons, List.replicate_succ, List.flatten_cons, show (n + 1) * l.length = l.length + n * l.length by rw [Nat.add_mul]; omega, List.take_length_add_append, flat_take l n m (by omega)]

section
variable {C : Ctx} {o : Oper} {st : AS}

/-- A new row. -/
theorem Sim.newRow {I : Imm} {ρ : Nat → Value} {a : Act} {w : World} (hs : Sim C I ρ st a w) {id : Nat} (hid : st.H id = .none) (hz : C.Z id = none) (cur : Array Value) (tid : TypeId) (e : Ty) (xs : List e.I) (cap : Nat) (cs : List Value)
    (hcs : FRep I w e xs cs) (hsz : 0 < e.size) (hcap : xs.length ≤ cap) (hmax : cap ≤ maxLen) (hcur : cur.size = cap * e.size) (htake : cur.toList.take (xs.length * e.size) = cs) :
    Sim C (fun b k => I b k ∨ (b = w.heap.size ∧ k < xs.length * e.size)) (upd ρ id (.slice (some ⟨w.heap.size, 0, none⟩) xs.length cap)) ⟨st.T, upd st.H id (.row tid e xs)⟩ a (w.alloc (.cells cur tid)) := by
  have hk : Keeps I w (w.alloc (.cells cur tid)) := keeps_alloc hs.immIn _
  have h1 := hs.evolve (I' := fun b k => I b k ∨ (b = w.heap.size ∧ k < xs.length * e.size)) (w' := w.alloc (.cells cur tid)) (fun _ _ h => .inl h) hk
    (fun j g hg => ⟨heap_alloc w _ g (bk_lt hs hg), fun k => ⟨fun h => h.elim (fun h => h) (fun h => absurd h.1 (Nat.ne_of_lt (bk_lt hs hg))), .inl⟩⟩)
    (fun b k h => h.elim (hs.immNew b k) (fun h => .inr (by rw [h.1]; exact hs.size)))
    (fun b k h => h.elim (fun h => by have := hs.immIn b k h; simp; omega) (fun h => by simp; omega))
    (by simp) (fun i hi _ => heap_alloc w _ i (Nat.lt_of_lt_of_le hi hs.size)) rfl rfl rfl
  refine h1.new hid hz ?_ ?_ ?_ (by simp) (by simp)
  · show rowRep _ _ _ _ _ _ _
    rw [upd_same]
    refine ⟨cs, FRep.mono (fun _ _ h => .inl h) hk _ _ hcs, ⟨hcs.length, .inr ⟨w.heap.size, cap, cur, rfl, hs.size, heap_alloc_self w _, hcap, hmax, hcur, htake⟩⟩, rfl, hsz, ?_⟩
    intro g hg j
    simp only [Value.ownBlock, Option.some.injEq] at hg
    subst hg
    exact ⟨fun h => h.elim (fun h => absurd (hs.immIn _ _ h) (Nat.lt_irrefl _)) (fun h => h.2), fun h => .inr ⟨rfl, h⟩⟩
  · intro j g hg
    have := bk_lt hs hg
    simp only [Value.ownBlock, ne_eq, Option.some.injEq]
    omega
  · intro g hg
    simp only [Value.ownBlock, Option.some.injEq] at hg
    subst hg
    exact .inl hs.size

/-- A new row of zeros that nobody looks at yet. -/
theorem Sim.newRaw {I : Imm} {ρ : Nat → Value} {a : Act} {w : World} (hs : Sim C I ρ st a w) {id : Nat} (hid : st.H id = .none) (hz : C.Z id = none) (cur : Array Value) (tid : TypeId) (e : Ty) (n : Nat) (cap : Nat)
    (hcs : FRep I w e (List.replicate n e.dflt) (cur.toList.take (n * e.size))) (hsz : 0 < e.size) (hcap : n ≤ cap) (hmax : cap ≤ maxLen) (hcur : cur.size = cap * e.size) :
    Sim C I (upd ρ id (.slice (some ⟨w.heap.size, 0, none⟩) n cap)) ⟨st.T, upd st.H id (.raw tid e n)⟩ a (w.alloc (.cells cur tid)) := by
  refine (hs.alloc (.cells cur tid)).new hid hz ?_ ?_ ?_ (by simp) (by simp)
  · show rawRep _ _ _ _ _ _ _
    rw [upd_same]
    exact ⟨w.heap.size, cap, cur, rfl, hs.size, heap_alloc_self w _, hcap, hmax, hcur, FRep.mono (fun _ _ h => h) (keeps_alloc hs.immIn _) _ _ hcs, hsz, fun j hj => Nat.lt_irrefl _ (hs.immIn _ _ hj)⟩
  · intro j g hg
    have := bk_lt hs hg
    simp only [Value.ownBlock, ne_eq, Option.some.injEq]
    omega
  · intro g hg
    simp only [Value.ownBlock, Option.some.injEq] at hg
    subst hg
    exact .inl hs.size

theorem ok_make (hd : ∀ d, o.dst = some d → d < C.n) {TAB : TypeId → Option TI} (hT : TabOK C.P TAB) {t e : TypeId} {l c : Operand} (ho : o.op = .makeSlice t l c) {te : TI} (ht : elemOf TAB t = some (e, te)) {d : Nat} (hdst : o.dst = some d) (hH : st.H d = .none)
    {n m : Int} (hn : evalO st l = .sc (.int .i64 n)) (hm : evalO st c = .sc (.int .i64 m)) (h0 : 0 ≤ n) (h1 : n ≤ m) (h2 : m * te.bytes ≤ maxBytes) (h3 : 0 < te.size) (h4 : 0 < te.bytes) :
    OpOK C o st (.sc (.row d)) [(d, .row e te.ty (List.replicate n.toNat te.ty.dflt))] := by
  intro I ρ a w hs next Q hnx
  have hn' := (hs.eval l).1
  rw [hn] at hn'
  have hn2 : a.eval l = .int .i64 n := hn'
  have hm' := (hs.eval c).1
  rw [hm] at hm'
  have hm2 : a.eval c = .int .i64 m := hm'
  obtain ⟨hu, hte, htok⟩ := elemOf_ok hT ht
  obtain ⟨i, z, g1, g2, g3, g4, g5, g6⟩ := hte.info
  obtain ⟨g7, g8⟩ := g6 htok
  have hmm : m ≤ 140737488355328 := by
    have : m * 1 ≤ m * te.bytes := Int.mul_le_mul_of_nonneg_left (by omega) (by omega)
    unfold maxBytes at h2
    omega
  have hzl : (zcells te.ty).length = te.size := by rw [← g7]; exact CRep.length _ _ _ (crep_zero I w te.ty)
  have hr := run_make (P := C.P) w t e i z hu g1 g4 .i64 .i64 n m h0 h1 (by rw [g3, Int.mul_comm]; unfold maxBytes at h2; omega) (by omega)
  rw [g2] at hr
  have hmc := madeCells_flat z.cells (zcells te.ty) g8 (by omega) m.toNat
  rw [hzl] at hmc
  have h5 := hs.newRow hH (C.z_lt (hd _ hdst)) (madeCells z.cells (m.toNat * te.size)) e te.ty (List.replicate n.toNat te.ty.dflt) m.toNat (List.replicate n.toNat (zcells te.ty)).flatten (frep_zero I w te.ty n.toNat) (by omega) (by simp; omega)
    (by unfold maxLen; omega) (by rw [size_madeCells, g7]) (by
      rw [hmc, List.length_replicate, g7, ← hzl]
      exact flat_take _ _ _ (by omega))
  simp only [List.length_replicate] at h5
  refine wp_value (x := .slice (some ⟨w.heap.size, 0, none⟩) n.toNat m.toNat) (w' := w.alloc (.cells (madeCells z.cells (m.toNat * te.size)) e)) ?_ ?_
  · simp [execOp, ho, hn2, hm2, hr]
  · have := h5.put hd (v := .sc (.row d)) (x := .slice (some ⟨w.heap.size, 0, none⟩) n.toNat m.toNat) ⟨by rw [upd_same], rfl⟩ (by simp [refsAV, refs, upd_same])
    exact hnx _ _ _ _ (by simpa [AS.apply, upds, hdst] using this)

theorem ok_makeRaw (hd : ∀ d, o.dst = some d → d < C.n) {TAB : TypeId → Option TI} (hT : TabOK C.P TAB) {t e : TypeId} {l c : Operand} (ho : o.op = .makeSlice t l c) {te : TI} (ht : elemOf TAB t = some (e, te)) {d : Nat} (hdst : o.dst = some d) (hH : st.H d = .none)
    {n m : Int} (hn : evalO st l = .sc (.int .i64 n)) (hm : evalO st c = .sc (.int .i64 m)) (h0 : 0 ≤ n) (h1 : n ≤ m) (h2 : m * te.bytes ≤ maxBytes) (h3 : 0 < te.size) (h4 : 0 < te.bytes) :
    OpOK C o st (.sc (.row d)) [(d, .raw e te.ty n.toNat)] := by
  intro I ρ a w hs next Q hnx
  have hn' := (hs.eval l).1
  rw [hn] at hn'
  have hn2 : a.eval l = .int .i64 n := hn'
  have hm' := (hs.eval c).1
  rw [hm] at hm'
  have hm2 : a.eval c = .int .i64 m := hm'
  obtain ⟨hu, hte, htok⟩ := elemOf_ok hT ht
  obtain ⟨i, z, g1, g2, g3, g4, g5, g6⟩ := hte.info
  obtain ⟨g7, g8⟩ := g6 htok
  have hmm : m ≤ 140737488355328 := by
    have : m * 1 ≤ m * te.bytes := Int.mul_le_mul_of_nonneg_left (by omega) (by omega)
    unfold maxBytes at h2
    omega
  have hzl : (zcells te.ty).length = te.size := by rw [← g7]; exact CRep.length _ _ _ (crep_zero I w te.ty)
  have hr := run_make (P := C.P) w t e i z hu g1 g4 .i64 .i64 n m h0 h1 (by rw [g3, Int.mul_comm]; unfold maxBytes at h2; omega) (by omega)
  rw [g2] at hr
  have hmc := madeCells_flat z.cells (zcells te.ty) g8 (by omega) m.toNat
  rw [hzl] at hmc
  have h5 := hs.newRaw hH (C.z_lt (hd _ hdst)) (madeCells z.cells (m.toNat * te.size)) e te.ty n.toNat m.toNat (by
      rw [hmc, g7, ← hzl, flat_take _ _ _ (by omega)]
      exact frep_zero I w te.ty n.toNat) (by omega) (by omega) (by unfold maxLen; omega) (by rw [size_madeCells, g7])
  refine wp_value (x := .slice (some ⟨w.heap.size, 0, none⟩) n.toNat m.toNat) (w' := w.alloc (.cells (madeCells z.cells (m.toNat * te.size)) e)) ?_ ?_
  · simp [execOp, ho, hn2, hm2, hr]
  · have := h5.put hd (v := .sc (.row d)) (x := .slice (some ⟨w.heap.size, 0, none⟩) n.toNat m.toNat) ⟨by rw [upd_same], rfl⟩ (by simp [refsAV, refs, upd_same])
    exact hnx _ _ _ _ (by simpa [AS.apply, upds, hdst] using this)
end
end Go.Pev
