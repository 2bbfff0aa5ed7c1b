/- The law StreamOwing holds of the given program: whatever the input, the function returns true, and the input reads as it did. -/
import Derived.Test.YtbfkfobfhjgphaaGreatHead
import Derived.Test.YtbfkfobfhjgphaaGreatHead
import Derived.Test.YtbfkfobfhjgphaaGreatPevRow
import Derived.Test.YtbfkfobfhjgphaaGreatFnCT
import Derived.Test.YtbfkfobfhjgphaaGreatAllStreamOwing
set_option linter.unusedVariables false
namespace Go.Proofs.YtbfkfobfhjgphaaGreat.streamOwing
open Go.ChangeShapes Go.WideShapes Go.ChangeAt Go.RowKit Go.Pev Go.Proofs.YtbfkfobfhjgphaaGreat.Fn Go.Proofs.YtbfkfobfhjgphaaGreat
theorem own : ownKnob Tryz.prog.godebug = none := by kernel_rfl
theorem laidOut : laidOutB Tryz.prog = true := by kernel_rfl
theorem types_ok : ([22, 5].all fun t => Tryz.prog.readableRec t && decide (t < Tryz.prog.types.size)) = true := by kernel_rfl
theorem reads : rdAs Tryz.prog 8 [22, 5] = some (sig6).args := by kernel_rfl
theorem calls {W : World} {vs : List Value} {xs : List XA} {x : argsI (sig6).args} (ha : argsRep (liveI W) W xs vs []) (hd : decArgs (sig6).args xs = some x) (hw : WFAs (sig6).args x) :
    Calls Tryz.prog 6 vs.toArray W fun e w' => e = .returned (.bool true) ∧ Below W.heap.size W w' :=
  law_calls (ats := (sig6).args) (f := fun x => f6 Sp.fuel x) (ok6 Sp.fuel) Tryz.func6 (by kernel_rfl) (by kernel_rfl) ha hd (Sp.plain6 x hw)
set_option maxRecDepth 100000 in
theorem lifted (os : Os) (started : os.Started) (H : Type) (enc : TypeId × Value → H) :
    ReturnsInHanded {} Tryz.checked os 6 .any (Rows.streamOwingSpec.pre6 enc Tryz.prog Tryz.f6 Rows.streamOwingRow.domain false) (Rows.streamOwingSpec.post enc Tryz.prog Tryz.f6 false true false false) := by
  refine returnsInHanded_of_change_sized (C := Tryz.checked) own started (by kernel_rfl) Tryz.func6
    (ChangeSpec.witness6 (enc := enc) (C := Tryz.checked) false ⟨#[], #[.slice none 0 0, .int .u8 0], []⟩ 8 (by kernel_rfl) (by kernel_rfl) (by kernel_rfl) (by kernel_rfl)) ?_
  intro W base args ds gs before hval0 hW hcnd hsz0 _
  have hval : ∀ (j : Nat) t v, Tryz.f6.params[j]? = some t → args[j]? = some v → Value.okWide Tryz.prog W .any base t v := hval0
  have hW' := hW
  obtain ⟨p, q, hA0, hV, rfl, hfz, hnd⟩ := hW
  have hA : DataW.TrodAll enc Tryz.prog W 0 (fun _ => true) true Tryz.f6.params.toList args.toList ds p := hA0
  rw [Tryz.params6] at hA hval
  obtain ⟨rfl, rfl⟩ := trodVars_none hV
  have hA1 : DataW.TrodAll enc Tryz.prog W 0 (fun _ => true) true [22, 5] args.toList ds p := hA
  obtain ⟨x, xs, hwf, hdec, harg⟩ := args_rd [22, 5] args.toList ds p _ reads (fun j t v ht hv => hval j t v (by rw [← ht]; simp) (by simpa using hv)) hA1
  have hc := calls harg hdec hwf
  rw [Array.toArray_toList] at hc
  refine hc.mono fun e W' ⟨he, bel⟩ => ?_
  subst he
  have hback := trodAll_below laidOut bel [22, 5] args.toList ds p types_ok hA1
  obtain ⟨v0, vs0, d0, ds0, p0, q0, _, rfl, rfl, _, r0⟩ := trodAll_cons hA1
  obtain ⟨v1, vs1, d1, ds1, p1, q1, _, rfl, rfl, _, r1⟩ := trodAll_cons r0
  obtain ⟨_, rfl, rfl⟩ := trodAll_nil r1
  exact ⟨_, rfl, _, _, _, [], _, [], hW', trodAll_mk1 (shut_bool Tryz.underlying4 _), hback, rfl, bel.frame _, fun h => by cases h⟩
theorem j1 : (Rows.streamOwingRow.wf (OpenSpec.ofChange Rows.streamOwingSpec)) = true := by kernel_rfl
theorem j2 : (laidOutB Tryz.pinned.checked.prog) = true := by kernel_rfl
theorem j3 : (mapsRowed Tryz.pinned.checked.prog) = true := by kernel_rfl
theorem j4 : (Tryz.f6.params.all (Tryz.pinned.checked.prog.readableRec ·)) = true := by kernel_rfl
theorem j5 : (namedTie Tryz.pinned.checked.prog Rows.streamOwingRow.named Rows.streamOwingSpec.vars) = true := by kernel_rfl
theorem j6 : ((Rows.streamOwingRow.stops == [])) = true := by kernel_rfl
theorem j7 : ((Tryz.pinned.checked.prog.stops == [])) = true := by kernel_rfl
theorem j8 : ((Rows.streamOwingRow.knobs == [])) = true := by kernel_rfl
theorem j9 : ((Tryz.pinned.checked.prog.stopKnobs == [])) = true := by kernel_rfl
theorem j10 : ((Rows.streamOwingRow.inPlace == Tryz.pinned.checked.prog.inPlace 6)) = true := by kernel_rfl
theorem j11 : ((Rows.streamOwingRow.unfollowed == Tryz.pinned.checked.prog.unfollowed 6)) = true := by kernel_rfl
theorem j12 : ((Rows.streamOwingRow.recurses == Tryz.pinned.checked.prog.recurses 6)) = true := by kernel_rfl
theorem j13 : ((Rows.streamOwingRow.named == Tryz.pinned.checked.prog.varsNamed 6)) = true := by kernel_rfl
theorem j14 : ((Rows.streamOwingRow.maps == (Tryz.f6.params.toList ++ Rows.streamOwingSpec.plain.varTypes Tryz.pinned.checked.prog).any (Tryz.pinned.checked.prog.mapsRec ·))) = true := by kernel_rfl
theorem j15 : ((Rows.streamOwingRow.ifaces == (Tryz.f6.params.toList ++ Rows.streamOwingSpec.plain.varTypes Tryz.pinned.checked.prog).any (Tryz.pinned.checked.prog.ifacesRec ·))) = true := by kernel_rfl
theorem j16 : ((Rows.streamOwingRow.mapsOut == Tryz.pinned.checked.prog.mapsAmong Tryz.f6.resultTypes.toList)) = true := by kernel_rfl
theorem j17 : ((Rows.streamOwingRow.loops == (Tryz.f6.params.toList ++ Rows.streamOwingSpec.plain.varTypes Tryz.pinned.checked.prog).any (Tryz.pinned.checked.prog.loopsFrom ·))) = true := by kernel_rfl
theorem j18 : ((Rows.streamOwingRow.wideKeys == (Tryz.f6.params.toList ++ Rows.streamOwingSpec.plain.varTypes Tryz.pinned.checked.prog ++ Tryz.f6.resultTypes.toList).any (Tryz.pinned.checked.prog.wideKeysFrom ·))) = true := by kernel_rfl
theorem j19 : (Rows.streamOwingSpec.vars.all (Tryz.pinned.checked.prog.varReadable ·)) = true := by kernel_rfl
theorem j20 : (Tryz.f6.resultTypes.all (fun t => Tryz.pinned.checked.prog.readableRec t && decide (t < Tryz.pinned.checked.prog.types.size))) = true := by kernel_rfl
theorem j21 : ((Rows.streamOwingRow.ifacesOut == Tryz.f6.resultTypes.toList.any (Tryz.pinned.checked.prog.ifacesRec ·))) = true := by kernel_rfl
theorem j22 : ((Rows.streamOwingRow.loopsOut == Tryz.f6.resultTypes.toList.any (Tryz.pinned.checked.prog.loopsFrom ·))) = true := by kernel_rfl
theorem j23 : ((Rows.streamOwingRow.plainKeys == Tryz.pinned.checked.prog.plainKeys)) = true := by kernel_rfl
theorem j24 : (Rows.streamOwingRow.shortTexts.isNone) = true := by kernel_rfl
theorem j25 : (Tryz.pinned.checked.prog.stopsHeard) = true := by kernel_rfl
theorem j26 : (Tryz.pinned.checked.prog.mayEnter) = true := head_enter
theorem j27 : ((Rows.streamOwingRow.lifted == Tryz.pinned.checked.prog.liftsFinal)) = true := by rw [head_lifted]; kernel_rfl
theorem j28 : ((Tryz.pinned.checked.prog.make == some Rows.streamOwingRow.make)) = true := by rw [head_made]; kernel_rfl
theorem j29 : ((Rows.streamOwingRow.kinds == (if Rows.streamOwingRow.domain.isEmpty then [] else Tryz.f6.params.toList.map fun t => match Tryz.pinned.checked.prog.underlying t with | some (.int k) => some k | _ => none))) = true := by kernel_rfl
theorem j30 : ((Rows.streamOwingRow.pinned == Rows.streamOwingRow.pinnedBy)) = true := by kernel_rfl
theorem j31 : ((Rows.streamOwingRow.veiled == (Tryz.f6.params.toList ++ Rows.streamOwingSpec.plain.varTypes Tryz.pinned.checked.prog ++ Tryz.f6.resultTypes.toList).any (Tryz.pinned.checked.prog.veiledRec ·))) = true := by kernel_rfl
theorem j32 : (Rows.streamOwingRow.veiledFits Tryz.pinned.checked.prog Tryz.f6.params.toList (Tryz.f6.params.toList ++ Rows.streamOwingSpec.plain.varTypes Tryz.pinned.checked.prog ++ Tryz.f6.resultTypes.toList)) = true := by kernel_rfl
set_option maxRecDepth 100000 in
theorem facts : joinedFacts Tryz.pinned.checked.prog 6 Tryz.f6 Rows.streamOwingSpec Rows.streamOwingRow = true := by
  simp only [joinedFacts, Bool.and_eq_true]
  exact ⟨⟨⟨⟨⟨⟨⟨⟨⟨⟨⟨⟨⟨⟨⟨⟨⟨⟨⟨⟨⟨⟨⟨⟨⟨⟨⟨⟨⟨⟨⟨j1, j2⟩, j3⟩, j4⟩, j5⟩, j6⟩, j7⟩, j8⟩, j9⟩, j10⟩, j11⟩, j12⟩, j13⟩, j14⟩, j15⟩, j16⟩, j17⟩, j18⟩, j19⟩, j20⟩, j21⟩, j22⟩, j23⟩, j24⟩, j25⟩, j26⟩, j27⟩, j28⟩, j29⟩, j30⟩, j31⟩, j32⟩
theorem over : Rows.streamOwingRow.holds Tryz.pinned (OpenSpec.ofChange Rows.streamOwingSpec) :=
  OpenClaim.holds_of_wide 6 Tryz.f6 rfl rfl rfl rfl rfl rfl rfl ⟨rfl, rfl, rfl, rfl, rfl⟩ rfl rfl rfl rfl rfl (by kernel_rfl) Tryz.func6 facts
    (of_decide_eq_true (by kernel_rfl)) (by unfold Func.isWrapper; first | (rw [if_pos (by decide +kernel)]; kernel_rfl) | (rw [if_neg (by decide +kernel)]; exact ⟨rfl, rfl⟩))
    (fun os started H enc _ => lifted os started H enc)
theorem proved : Rows.StreamOwingSaid := over
#print axioms proved
end Go.Proofs.YtbfkfobfhjgphaaGreat.streamOwing
namespace Go.Proofs.YtbfkfobfhjgphaaGreat
/-- The row, under a short name, for the claim. -/
theorem streamOwing_holds : Rows.StreamOwingSaid := streamOwing.proved
end Go.Proofs.YtbfkfobfhjgphaaGreat
