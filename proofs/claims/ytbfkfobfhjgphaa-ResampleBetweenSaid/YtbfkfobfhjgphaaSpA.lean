/- What the program's lower functions compute, in plain words: samples, ratios, phases, resamplers. -/
import Derived.Test.YtbfkfobfhjgphaaSndC
import Derived.Test.YtbfkfobfhjgphaaFnD1
set_option linter.unusedVariables false
set_option linter.unusedSimpArgs false
namespace Go.Proofs.Ytbfkfobfhjgphaa.Sp
open Go Go.Pev Go.Snd Go.Proofs.Ytbfkfobfhjgphaa.Fn

theorem s132 (k : Nat) (x : Int) : f132 k x = some (isSb x) := by
  unfold f132 isSb
  simp only [ge_iff_le]
  cases decide ((-8388608 : Int) ≤ x) <;> simp
theorem s134 (k : Nat) (x : Int) : f134 k x = some (isSb x) := by
  unfold f134 isSb
  simp only [ge_iff_le]
  cases decide ((-8388608 : Int) ≤ x) <;> simp

theorem all_take_succ (d : List Int) (i : Nat) (h : i < d.length) : (d.drop i).all isSb = (isSb d[i] && (d.drop (i + 1)).all isSb) := by
  rw [List.drop_eq_getElem_cons h, List.all_cons]
theorem getD_lt (d : List Int) (i : Nat) (h : i < d.length) : d.getD i 0 = d[i] := by simp [List.getD, h]

/-- the loop over a block's samples -/
theorem loop_valid {k : Nat} (hk : Big k) {R : Type} (K0 : Bool → Option R) (K1 : Unit → Option R) (d : List Int) (hd : d.length ≤ 1000000) (L : (List Int × Int × Int) → ((List Int × Int × Int) → Option R) → Option R)
    (hL : ∀ y next, L y next = bif decide (y.2.2 < y.2.1) then bif (decide (0 ≤ y.2.2) && decide (y.2.2 < ((y.1).length : Int))) then Option.bind (some (isSb ((y.1).getD (y.2.2).toNat (0 : Int)))) fun r1 => bif (!r1) then K0 false else next (y.1, y.2.1, (IntKind.wrap .i64 (y.2.2 + (1 : Int)))) else none else K1 ()) :
    loopC k L (d, (d.length : Int), 0) = bif d.all isSb then K1 () else K0 false := by
  refine (loopC_spec L (fun y => y.1 = d ∧ y.2.1 = d.length ∧ 0 ≤ y.2.2 ∧ y.2.2 ≤ d.length) (fun y => bif (d.drop y.2.2.toNat).all isSb then K1 () else K0 false) (fun y => (d.length - y.2.2).toNat) ?_ k _ ⟨rfl, rfl, by simp, by simp⟩ (hk.lt (by simp; omega))).trans (by simp)
  rintro ⟨e, n, i⟩ next ⟨h1, h2, h3, h4⟩ hn
  simp only at h1 h2 h3 h4 hn
  subst h1 h2
  rw [hL]
  simp only
  by_cases hi : i < e.length
  · obtain ⟨j, rfl⟩ : ∃ j : Nat, i = j := ⟨i.toNat, by omega⟩
    have hj : j < e.length := by omega
    have e1 : ((j : Int).toNat) = j := by omega
    simp only [hi, h3, decide_true, cond_true, Bool.and_self, Option.bind_some, e1, getD_lt e j hj]
    rw [all_take_succ e j hj]
    cases isSb e[j]
    · simp
    · simp only [Bool.not_true, cond_false, Bool.true_and]
      have hw : IntKind.wrap .i64 ((j : Int) + 1) = (j : Int) + 1 := w64 (by omega) (by omega)
      rw [hw, hn _ ⟨rfl, rfl, by simp only; omega, by simp only; omega⟩ (by simp only; omega)]
      have : ((j : Int) + 1).toNat = j + 1 := by omega
      simp only [this]
  · have : i = e.length := by omega
    subst this
    simp

theorem s81 {k : Nat} (hk : Big k) (ch : Int) (d : List Int) (hd : d.length ≤ 1000000000000) : f81 k (ch, d) = some (bkOK ch d) := by
  unfold f81
  simp only [cond_eq_ite, decide_eq_true_eq]
  by_cases h1 : ch < 1
  · rw [if_pos h1]; simp [bkOK]; omega
  rw [if_neg h1]
  by_cases h2 : 8 < ch
  · rw [if_pos (by omega)]; simp [bkOK]; omega
  rw [if_neg (by omega)]
  have h3 : (ch == 0) = false := by simp; omega
  rw [h3]
  simp only [Bool.false_eq_true, if_false, tmod_pos (show (0 : Int) ≤ (d.length : Int) by omega), tdiv_pos (show (0 : Int) ≤ (d.length : Int) by omega)]
  by_cases h4 : (d.length : Int) % ch = 0
  · rw [h4]
    simp only [bne_self_eq_false, Bool.false_eq_true, if_false]
    by_cases h5 : (d.length : Int) / ch ≤ 65536
    · have h6 : (0 : Int) ≤ (d.length : Int) / ch := Int.ediv_nonneg (by omega) (by omega)
      rw [w64 (by omega) (by omega), if_neg (by omega)]
      have hlen : (d.length : Int) ≤ 524288 := by
        have e1 := Int.emod_add_ediv_mul (d.length : Int) ch
        have e2 := Int.mul_le_mul_of_nonneg_right h5 (show 0 ≤ ch by omega)
        omega
      rw [loop_valid hk (fun z2 => some z2) (fun _ => some true) d (by omega) _ (fun y next => by unfold L81_4; simp only [s132])]
      have : bkOK ch d = d.all isSb := by
        unfold bkOK
        simp [h4, h5]
        intro _
        omega
      rw [this]
      cases d.all isSb <;> rfl
    · rw [if_pos]
      · simp [bkOK, h5]
      · have h6 : (0 : Int) ≤ (d.length : Int) / ch := Int.ediv_nonneg (by omega) (by omega)
        have h7 : (d.length : Int) / ch ≤ d.length := Int.ediv_le_self _ (by omega)
        rw [w64 (by omega) (by omega)]; omega
  · have : ((d.length : Int) % ch != 0) = true := by simp [h4]
    rw [this]
    simp [bkOK, h4]

theorem s83 {k : Nat} (hk : Big k) (ch : Int) (d : List Int) (hd : d.length ≤ 1000000000000) : f83 k (ch, d) = some (bkOK ch d) := by
  unfold f83
  simp only [cond_eq_ite, decide_eq_true_eq]
  by_cases h1 : ch < 1
  · rw [if_pos h1]; simp [bkOK]; omega
  rw [if_neg h1]
  by_cases h2 : 8 < ch
  · rw [if_pos (by omega)]; simp [bkOK]; omega
  rw [if_neg (by omega)]
  have h3 : (ch == 0) = false := by simp; omega
  rw [h3]
  simp only [Bool.false_eq_true, if_false, tmod_pos (show (0 : Int) ≤ (d.length : Int) by omega), tdiv_pos (show (0 : Int) ≤ (d.length : Int) by omega)]
  by_cases h4 : (d.length : Int) % ch = 0
  · rw [h4]
    simp only [bne_self_eq_false, Bool.false_eq_true, if_false]
    by_cases h5 : (d.length : Int) / ch ≤ 65536
    · have h6 : (0 : Int) ≤ (d.length : Int) / ch := Int.ediv_nonneg (by omega) (by omega)
      rw [w64 (by omega) (by omega), if_neg (by omega)]
      have hlen : (d.length : Int) ≤ 524288 := by
        have e1 := Int.emod_add_ediv_mul (d.length : Int) ch
        have e2 := Int.mul_le_mul_of_nonneg_right h5 (show 0 ≤ ch by omega)
        omega
      rw [loop_valid hk (fun z2 => some z2) (fun _ => some true) d (by omega) _ (fun y next => by unfold L83_4; simp only [s134])]
      have : bkOK ch d = d.all isSb := by
        unfold bkOK
        simp [h4, h5]
        intro _
        omega
      rw [this]
      cases d.all isSb <;> rfl
    · rw [if_pos]
      · simp [bkOK, h5]
      · have h6 : (0 : Int) ≤ (d.length : Int) / ch := Int.ediv_nonneg (by omega) (by omega)
        have h7 : (d.length : Int) / ch ≤ d.length := Int.ediv_le_self _ (by omega)
        rw [w64 (by omega) (by omega)]; omega
  · have : ((d.length : Int) % ch != 0) = true := by simp [h4]
    rw [this]
    simp [bkOK, h4]

/-! ### ratios -/
theorem gcd_loop {k : Nat} (hk : Big k) {R : Type} (K0 : Int → Option R) (L : (Int × Int) → ((Int × Int) → Option R) → Option R)
    (hL : ∀ y next, L y next = bif (y.2 != (0 : Int)) then bif (y.2 == 0) then none else next (y.2, (Int.tmod y.1 y.2)) else K0 y.1) (a b : Int) (ha : 0 ≤ a) (hb : 0 ≤ b) (hb' : b ≤ 68719476736) :
    loopC k L (a, b) = K0 (Int.gcd a b) := by
  refine loopC_spec L (fun y => 0 ≤ y.1 ∧ 0 ≤ y.2) (fun y => K0 (Int.gcd y.1 y.2)) (fun y => y.2.toNat) ?_ k (a, b) ⟨ha, hb⟩ (hk.lt (by simp only; omega))
  rintro ⟨a, b⟩ next ⟨h1, h2⟩ hn
  simp only at h1 h2 hn
  rw [hL]
  simp only
  by_cases hb : b = 0
  · subst hb
    simp only [bne_self_eq_false, cond_false, Int.gcd_zero_right]
    congr 1
    omega
  · have e1 : (b != 0) = true := by simp [hb]
    have e2 : (b == 0) = false := by simp [hb]
    rw [e1, e2]
    simp only [cond_true, cond_false]
    rw [tmod_pos h1, hn _ ⟨h2, Int.emod_nonneg _ hb⟩ (by have := Int.emod_lt_of_pos a (show 0 < b by omega); have := Int.emod_nonneg a hb; simp only; omega)]
    obtain ⟨m, rfl⟩ : ∃ m : Nat, a = m := ⟨a.toNat, by omega⟩
    obtain ⟨n, rfl⟩ : ∃ n : Nat, b = n := ⟨b.toNat, by omega⟩
    have e : ((m : Int) % (n : Int)) = ((m % n : Nat) : Int) := by omega
    simp only [e, Int.gcd_natCast_natCast]
    rw [Nat.gcd_comm m n, Nat.gcd_rec n m, Nat.gcd_comm]
theorem s159 {k : Nat} (hk : Big k) (a b : Int) (ha : 0 ≤ a) (hb : 0 ≤ b) (hb' : b ≤ 68719476736) : f159 k (a, b) = some (Int.gcd a b : Int) := by
  unfold f159
  exact gcd_loop hk _ _ (fun y next => by unfold L159_1; rfl) a b ha hb hb'
theorem s148 {k : Nat} (hk : Big k) (a b : Int) (ha : 0 ≤ a) (hb : 0 ≤ b) (hb' : b ≤ 68719476736) : f148 k (a, b) = some (Int.gcd a b : Int) := by
  unfold f148
  exact gcd_loop hk _ _ (fun y next => by unfold L148_1; rfl) a b ha hb hb'
theorem s135 {k : Nat} (hk : Big k) (num den : Int) : f135 k (num, den) = some (ratOK num den) := by
  unfold f135 ratOK
  simp only [ge_iff_le]
  by_cases h1 : 1 ≤ num <;> simp only [h1, decide_true, decide_false, cond_true, cond_false, Bool.false_and, Bool.true_and]
  by_cases h2 : 1 ≤ den <;> simp only [h2, decide_true, decide_false, cond_true, cond_false, Bool.false_and, Bool.true_and]
  by_cases h3 : num ≤ 68719476736 <;> simp only [h3, decide_true, decide_false, cond_true, cond_false, Bool.false_and, Bool.true_and]
  by_cases h4 : den ≤ 68719476736 <;> simp only [h4, decide_true, decide_false, cond_true, cond_false, Bool.false_and, Bool.true_and]
  rw [s159 hk num den (by omega) (by omega) h4, Option.bind_some]
  congr 1
  rw [Bool.eq_iff_iff, beq_iff_eq, decide_eq_true_eq]
  omega
theorem s113 {k : Nat} (hk : Big k) (num den : Int) : f113 k (num, den) = some (ratOK num den) := by
  unfold f113 ratOK
  simp only [ge_iff_le]
  by_cases h1 : 1 ≤ num <;> simp only [h1, decide_true, decide_false, cond_true, cond_false, Bool.false_and, Bool.true_and]
  by_cases h2 : 1 ≤ den <;> simp only [h2, decide_true, decide_false, cond_true, cond_false, Bool.false_and, Bool.true_and]
  by_cases h3 : num ≤ 68719476736 <;> simp only [h3, decide_true, decide_false, cond_true, cond_false, Bool.false_and, Bool.true_and]
  by_cases h4 : den ≤ 68719476736 <;> simp only [h4, decide_true, decide_false, cond_true, cond_false, Bool.false_and, Bool.true_and]
  rw [s148 hk num den (by omega) (by omega) h4, Option.bind_some]
  congr 1
  rw [Bool.eq_iff_iff, beq_iff_eq, decide_eq_true_eq]
  omega

/-! ### phases -/
theorem s136 (k : Nat) (x : Int) : f136 k x = some (decide (-4096 ≤ x) && decide (x ≤ 4096)) := by
  unfold f136
  simp only [ge_iff_le]
  cases decide ((-4096 : Int) ≤ x) <;> simp
theorem s137 (k : Nat) (num den adj pos frac : Int) (h0 : 1 ≤ den) (h1 : den ≤ 768000) : f137 k (num, den, adj, pos, frac) = some (den * 65536) := by
  unfold f137
  rw [w64 (by simp only; omega) (by simp only; omega)]
theorem s85 {k : Nat} (hk : Big k) (num den adj pos frac : Int) : f85 k (num, den, adj, pos, frac) = some (phOK num den adj pos frac) := by
  unfold f85 phOK
  simp only [s135 hk, s136, Option.bind_some, ge_iff_le]
  by_cases h0 : ratOK num den = true
  · have hd : 1 ≤ den := by
      unfold ratOK at h0
      simp only [Bool.and_eq_true, decide_eq_true_eq] at h0
      omega
    simp only [h0, cond_true, Bool.true_and]
    by_cases h1 : num ≤ 768000 <;> simp only [h1, decide_true, decide_false, cond_true, cond_false, Bool.false_and, Bool.true_and]
    by_cases h2 : den ≤ 768000 <;> simp only [h2, decide_true, decide_false, cond_true, cond_false, Bool.false_and, Bool.true_and]
    by_cases h3 : -4096 ≤ adj <;> simp only [h3, decide_true, decide_false, cond_true, cond_false, Bool.false_and, Bool.true_and]
    by_cases h4 : adj ≤ 4096 <;> simp only [h4, decide_true, decide_false, cond_true, cond_false, Bool.false_and, Bool.true_and]
    by_cases h5 : 0 ≤ pos <;> simp only [h5, decide_true, decide_false, cond_true, cond_false, Bool.false_and, Bool.true_and]
    by_cases h6 : pos ≤ 1125899906842624 <;> simp only [h6, decide_true, decide_false, cond_true, cond_false, Bool.false_and, Bool.true_and]
    by_cases h7 : 0 ≤ frac <;> simp only [h7, decide_true, decide_false, cond_true, cond_false, Bool.false_and, Bool.true_and]
    rw [s137 k _ _ _ _ _ hd h2, Option.bind_some]
  · have h0 : ratOK num den = false := by simpa using h0
    simp [h0]
theorem s28 {k : Nat} (hk : Big k) (ch num den adj pos frac : Int) (rest : List Int) (hd : rest.length ≤ 1000000000000) : f28 k (ch, num, den, adj, pos, frac, rest) = some (rsOK ch num den adj pos frac rest) := by
  unfold f28 rsOK f86
  simp only [s85 hk, s81 hk _ _ hd, Option.bind_some]
  cases phOK num den adj pos frac <;> simp
theorem rs_len {ch num den adj pos frac : Int} {rest : List Int} (h : rsOK ch num den adj pos frac rest = true) : rest.length ≤ 524288 := by
  have := ((rsOK_iff _ _ _ _ _ _ _).1 h).b.len_le
  omega
theorem w_frames {ch : Int} {d : List Int} (h : BkOK ch d) : IntKind.wrap .i64 (Int.tdiv (d.length : Int) ch) = frames ch d := by
  have h1 := frames_nonneg (d := d) h.c1
  have h2 : frames ch d ≤ 65536 := h.l
  rw [tdiv_pos (by omega)]
  exact w64 (show _ ≤ frames ch d by omega) (show frames ch d ≤ _ by omega)
/-- the number of frames that wait, 0 if the resampler is not valid -/
def waiting (ch num den adj pos frac : Int) (rest : List Int) : Int := if rsOK ch num den adj pos frac rest = true then frames ch rest else 0
theorem s30 {k : Nat} (hk : Big k) (ch num den adj pos frac : Int) (rest : List Int) (hd : rest.length ≤ 1000000000000) : f30 k (ch, num, den, adj, pos, frac, rest) = some (waiting ch num den adj pos frac rest) := by
  unfold f30 waiting
  rw [s28 hk _ _ _ _ _ _ _ hd]
  simp only [Option.bind_some]
  cases hv : rsOK ch num den adj pos frac rest with
  | false => simp
  | true =>
    have h := ((rsOK_iff _ _ _ _ _ _ _).1 hv).b
    have h3 : (ch == 0) = false := by have := h.c1; simp; omega
    simp only [Bool.not_true, cond_false, h3, if_true, w_frames h]
/-- a new resampler, or the error -/
def newS (ch num den : Int) : (Int × Int × Int × Int × Int × Int × List Int) × Int :=
  if rsOK ch num den 0 0 0 [] = true then ((ch, num, den, 0, 0, 0, []), 0) else ((0, 0, 0, 0, 0, 0, []), 1)
theorem s89 {k : Nat} (hk : Big k) (num den : Int) : f89 k (num, den) = some (if phOK num den 0 0 0 = true then ((num, den, 0, 0, 0), 0) else ((0, 0, 0, 0, 0), 1)) := by
  unfold f89
  simp only [s85 hk, Option.bind_some]
  cases phOK num den 0 0 0 <;> simp
theorem s32 {k : Nat} (hk : Big k) (ch num den : Int) : f32 k (ch, num, den) = some (newS ch num den) := by
  unfold f32 newS
  simp only [s89 hk, Option.bind_some]
  cases hp : phOK num den 0 0 0 with
  | false => simp [rsOK, hp]
  | true =>
    simp only [if_true, bne_self_eq_false, cond_false, s28 hk _ _ _ _ _ _ [] (by simp), Option.bind_some]
    cases rsOK ch num den 0 0 0 [] <;> simp
def checkS (ok : Bool) (n : Int) : Int := if ok = true then if n < 0 then 2 else if 65536 < n then 2 else 0 else 1
theorem s90 {k : Nat} (hk : Big k) (ch num den adj pos frac : Int) (rest : List Int) (hd : rest.length ≤ 1000000000000) (n : Int) : f90 k ((ch, num, den, adj, pos, frac, rest), n) = some (checkS (rsOK ch num den adj pos frac rest) n) := by
  unfold f90 checkS
  simp only [s28 hk _ _ _ _ _ _ _ hd, Option.bind_some]
  cases rsOK ch num den adj pos frac rest
  · simp
  · simp only [Bool.not_true, cond_false, cond_eq_ite, decide_eq_true_eq, if_true, gt_iff_lt]
    by_cases h1 : n < 0 <;> by_cases h2 : 65536 < n <;> simp [h1, h2]
theorem s138 {k : Nat} (hk : Big k) (num den adj pos frac n : Int) : f138 k ((num, den, adj, pos, frac), n) = some (checkS (phOK num den adj pos frac) n) := by
  unfold f138 checkS
  simp only [s85 hk, Option.bind_some]
  cases phOK num den adj pos frac
  · simp
  · simp only [Bool.not_true, cond_false, cond_eq_ite, decide_eq_true_eq, if_true, gt_iff_lt]
    by_cases h1 : n < 0 <;> by_cases h2 : 65536 < n <;> simp [h1, h2]
end Go.Proofs.Ytbfkfobfhjgphaa.Sp
