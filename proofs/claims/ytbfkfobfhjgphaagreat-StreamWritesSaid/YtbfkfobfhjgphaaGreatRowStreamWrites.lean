/- The law StreamWrites holds of the given program: whatever the input, the function returns true, and the input reads as it did. -/
import Derived.Test.YtbfkfobfhjgphaaGreatHead
import Derived.Test.YtbfkfobfhjgphaaGreatHead
import Derived.Test.YtbfkfobfhjgphaaGreatPevRow
import Derived.Test.YtbfkfobfhjgphaaGreatFnCT
import Derived.Test.YtbfkfobfhjgphaaGreatAllStreamWrites
set_option linter.unusedVariables false
namespace Go.Proofs.YtbfkfobfhjgphaaGreat.streamWrites
open Go.ChangeShapes Go.WideShapes Go.ChangeAt Go.RowKit Go.Pev Go.Proofs.YtbfkfobfhjgphaaGreat.Fn Go.Proofs.YtbfkfobfhjgphaaGreat
theorem own : ownKnob Tryz.prog.godebug = none := by kernel_rfl
theorem laidOut : laidOutB Tryz.prog = true := by kernel_rfl
theorem types_ok : ([38, 44, 22, 3, 3].all fun t => Tryz.prog.readableRec t && decide (t < Tryz.prog.types.size)) = true := by kernel_rfl
theorem reads : rdAs Tryz.prog 8 [38, 44, 22, 3, 3] = some (sig8).args := by kernel_rfl
theorem calls {W : World} {vs : List Value} {xs : List XA} {x : argsI (sig8).args} (ha : argsRep (liveI W) W xs vs []) (hd : decArgs (sig8).args xs = some x) (hw : WFAs (sig8).args x) :
    Calls Tryz.prog 8 vs.toArray W fun e w' => e = .returned (.bool true) ∧ Below W.heap.size W w' :=
  law_calls (ats := (sig8).args) (f := fun x => f8 Sp.fuel x) (ok8 Sp.fuel) Tryz.func8 (by kernel_rfl) (by kernel_rfl) ha hd (Sp.plain8 x hw)
set_option maxRecDepth 100000 in
theorem lifted (os : Os) (started : os.Started) (H : Type) (enc : TypeId × Value → H) :
    ReturnsInHanded {} Tryz.checked os 8 .any (Rows.streamWritesSpec.pre6 enc Tryz.prog Tryz.f8 Rows.streamWritesRow.domain false) (Rows.streamWritesSpec.post enc Tryz.prog Tryz.f8 false true false false) := by
  refine returnsInHanded_of_change_sized (C := Tryz.checked) own started (by kernel_rfl) Tryz.func8
    (ChangeSpec.witness6 (enc := enc) (C := Tryz.checked) false ⟨#[], #[.agg #[.int .i64 0, .int .i64 0, .int .i64 0, .int .i64 0, .int .i64 0, .int .i64 0, .int .i64 0, .int .i64 0, .int .i64 0, .int .i64 0, .slice none 0 0, .int .i64 0, .int .i64 0, .int .i64 0, .int .i64 0, .slice none 0 0, .int .i64 0, .int .i64 0, .int .i64 0], .agg #[.int .i64 0, .slice none 0 0], .slice none 0 0, .int .i64 0, .int .i64 0], []⟩ 8 (by kernel_rfl) (by kernel_rfl) (by kernel_rfl) (by kernel_rfl)) ?_
  intro W base args ds gs before hval0 hW hcnd hsz0 _
  have hval : ∀ (j : Nat) t v, Tryz.f8.params[j]? = some t → args[j]? = some v → Value.okWide Tryz.prog W .any base t v := hval0
  have hW' := hW
  obtain ⟨p, q, hA0, hV, rfl, hfz, hnd⟩ := hW
  have hA : DataW.TrodAll enc Tryz.prog W 0 (fun _ => true) true Tryz.f8.params.toList args.toList ds p := hA0
  rw [Tryz.params8] at hA hval
  obtain ⟨rfl, rfl⟩ := trodVars_none hV
  have hA1 : DataW.TrodAll enc Tryz.prog W 0 (fun _ => true) true [38, 44, 22, 3, 3] args.toList ds p := hA
  obtain ⟨x, xs, hwf, hdec, harg⟩ := args_rd [38, 44, 22, 3, 3] args.toList ds p _ reads (fun j t v ht hv => hval j t v (by rw [← ht]; simp) (by simpa using hv)) hA1
  have hc := calls harg hdec hwf
  rw [Array.toArray_toList] at hc
  refine hc.mono fun e W' ⟨he, bel⟩ => ?_
  subst he
  have hback := trodAll_below laidOut bel [38, 44, 22, 3, 3] args.toList ds p types_ok hA1
  obtain ⟨v0, vs0, d0, ds0, p0, q0, _, rfl, rfl, _, r0⟩ := trodAll_cons hA1
  obtain ⟨v1, vs1, d1, ds1, p1, q1, _, rfl, rfl, _, r1⟩ := trodAll_cons r0
  obtain ⟨v2, vs2, d2, ds2, p2, q2, _, rfl, rfl, _, r2⟩ := trodAll_cons r1
  obtain ⟨v3, vs3, d3, ds3, p3, q3, _, rfl, rfl, _, r3⟩ := trodAll_cons r2
  obtain ⟨v4, vs4, d4, ds4, p4, q4, _, rfl, rfl, _, r4⟩ := trodAll_cons r3
  obtain ⟨_, rfl, rfl⟩ := trodAll_nil r4
  exact ⟨_, rfl, _, _, _, [], _, [], hW', trodAll_mk1 (shut_bool Tryz.underlying4 _), hback, rfl, bel.frame _, fun h => by cases h⟩
theorem j1 : (Rows.streamWritesRow.wf (OpenSpec.ofChange Rows.streamWritesSpec)) = true := by kernel_rfl
theorem j2 : (laidOutB Tryz.pinned.checked.prog) = true := by kernel_rfl
theorem j3 : (mapsRowed Tryz.pinned.checked.prog) = true := by kernel_rfl
theorem j4 : (Tryz.f8.params.all (Tryz.pinned.checked.prog.readableRec ·)) = true := by kernel_rfl
theorem j5 : (namedTie Tryz.pinned.checked.prog Rows.streamWritesRow.named Rows.streamWritesSpec.vars) = true := by kernel_rfl
theorem j6 : ((Rows.streamWritesRow.stops == [])) = true := by kernel_rfl
theorem j7 : ((Tryz.pinned.checked.prog.stops == [])) = true := by kernel_rfl
theorem j8 : ((Rows.streamWritesRow.knobs == [])) = true := by kernel_rfl
theorem j9 : ((Tryz.pinned.checked.prog.stopKnobs == [])) = true := by kernel_rfl
theorem j10 : ((Rows.streamWritesRow.inPlace == Tryz.pinned.checked.prog.inPlace 8)) = true := by kernel_rfl
theorem j11 : ((Rows.streamWritesRow.unfollowed == Tryz.pinned.checked.prog.unfollowed 8)) = true := by kernel_rfl
theorem j12 : ((Rows.streamWritesRow.recurses == Tryz.pinned.checked.prog.recurses 8)) = true := by kernel_rfl
theorem j13 : ((Rows.streamWritesRow.named == Tryz.pinned.checked.prog.varsNamed 8)) = true := by kernel_rfl
theorem j14 : ((Rows.streamWritesRow.maps == (Tryz.f8.params.toList ++ Rows.streamWritesSpec.plain.varTypes Tryz.pinned.checked.prog).any (Tryz.pinned.checked.prog.mapsRec ·))) = true := by kernel_rfl
theorem j15 : ((Rows.streamWritesRow.ifaces == (Tryz.f8.params.toList ++ Rows.streamWritesSpec.plain.varTypes Tryz.pinned.checked.prog).any (Tryz.pinned.checked.prog.ifacesRec ·))) = true := by kernel_rfl
theorem j16 : ((Rows.streamWritesRow.mapsOut == Tryz.pinned.checked.prog.mapsAmong Tryz.f8.resultTypes.toList)) = true := by kernel_rfl
theorem j17 : ((Rows.streamWritesRow.loops == (Tryz.f8.params.toList ++ Rows.streamWritesSpec.plain.varTypes Tryz.pinned.checked.prog).any (Tryz.pinned.checked.prog.loopsFrom ·))) = true := by kernel_rfl
theorem j18 : ((Rows.streamWritesRow.wideKeys == (Tryz.f8.params.toList ++ Rows.streamWritesSpec.plain.varTypes Tryz.pinned.checked.prog ++ Tryz.f8.resultTypes.toList).any (Tryz.pinned.checked.prog.wideKeysFrom ·))) = true := by kernel_rfl
theorem j19 : (Rows.streamWritesSpec.vars.all (Tryz.pinned.checked.prog.varReadable ·)) = true := by kernel_rfl
theorem j20 : (Tryz.f8.resultTypes.all (fun t => Tryz.pinned.checked.prog.readableRec t && decide (t < Tryz.pinned.checked.prog.types.size))) = true := by kernel_rfl
theorem j21 : ((Rows.streamWritesRow.ifacesOut == Tryz.f8.resultTypes.toList.any (Tryz.pinned.checked.prog.ifacesRec ·))) = true := by kernel_rfl
theorem j22 : ((Rows.streamWritesRow.loopsOut == Tryz.f8.resultTypes.toList.any (Tryz.pinned.checked.prog.loopsFrom ·))) = true := by kernel_rfl
theorem j23 : ((Rows.streamWritesRow.plainKeys == Tryz.pinned.checked.prog.plainKeys)) = true := by kernel_rfl
theorem j24 : (Rows.streamWritesRow.shortTexts.isNone) = true := by kernel_rfl
theorem j25 : (Tryz.pinned.checked.prog.stopsHeard) = true := by kernel_rfl
theorem j26 : (Tryz.pinned.checked.prog.mayEnter) = true := head_enter
theorem j27 : ((Rows.streamWritesRow.lifted == Tryz.pinned.checked.prog.liftsFinal)) = true := by rw [head_lifted]; kernel_rfl
theorem j28 : ((Tryz.pinned.checked.prog.make == some Rows.streamWritesRow.make)) = true := by rw [head_made]; kernel_rfl
theorem j29 : ((Rows.streamWritesRow.kinds == (if Rows.streamWritesRow.domain.isEmpty then [] else Tryz.f8.params.toList.map fun t => match Tryz.pinned.checked.prog.underlying t with | some (.int k) => some k | _ => none))) = true := by kernel_rfl
theorem j30 : ((Rows.streamWritesRow.pinned == Rows.streamWritesRow.pinnedBy)) = true := by kernel_rfl
theorem j31 : ((Rows.streamWritesRow.veiled == (Tryz.f8.params.toList ++ Rows.streamWritesSpec.plain.varTypes Tryz.pinned.checked.prog ++ Tryz.f8.resultTypes.toList).any (Tryz.pinned.checked.prog.veiledRec ·))) = true := by kernel_rfl
theorem j32 : (Rows.streamWritesRow.veiledFits Tryz.pinned.checked.prog Tryz.f8.params.toList (Tryz.f8.params.toList ++ Rows.streamWritesSpec.plain.varTypes Tryz.pinned.checked.prog ++ Tryz.f8.resultTypes.toList)) = true := by kernel_rfl
set_option maxRecDepth 100000 in
theorem facts : joinedFacts Tryz.pinned.checked.prog 8 Tryz.f8 Rows.streamWritesSpec Rows.streamWritesRow = true := by
  simp only [joinedFacts, Bool.and_eq_true]
  exact ⟨⟨⟨⟨⟨⟨⟨⟨⟨⟨⟨⟨⟨⟨⟨⟨⟨⟨⟨⟨⟨⟨⟨⟨⟨⟨⟨⟨⟨⟨⟨j1, j2⟩, j3⟩, j4⟩, j5⟩, j6⟩, j7⟩, j8⟩, j9⟩, j10⟩, j11⟩, j12⟩, j13⟩, j14⟩, j15⟩, j16⟩, j17⟩, j18⟩, j19⟩, j20⟩, j21⟩, j22⟩, j23⟩, j24⟩, j25⟩, j26⟩, j27⟩, j28⟩, j29⟩, j30⟩, j31⟩, j32⟩
theorem over : Rows.streamWritesRow.holds Tryz.pinned (OpenSpec.ofChange Rows.streamWritesSpec) :=
  OpenClaim.holds_of_wide 8 Tryz.f8 rfl rfl rfl rfl rfl rfl rfl ⟨rfl, rfl, rfl, rfl, rfl⟩ rfl rfl rfl rfl rfl (by kernel_rfl) Tryz.func8 facts
    (of_decide_eq_true (by kernel_rfl)) (by unfold Func.isWrapper; first | (rw [if_pos (by decide +kernel)]; kernel_rfl) | (rw [if_neg (by decide +kernel)]; exact ⟨rfl, rfl⟩))
    (fun os started H enc _ => lifted os started H enc)
theorem proved : Rows.StreamWritesSaid := over
#print axioms proved
end Go.Proofs.YtbfkfobfhjgphaaGreat.streamWrites
namespace Go.Proofs.YtbfkfobfhjgphaaGreat
/-- The row, under a short name, for the claim. -/
theorem streamWrites_holds : Rows.StreamWritesSaid := streamWrites.proved
end Go.Proofs.YtbfkfobfhjgphaaGreat
