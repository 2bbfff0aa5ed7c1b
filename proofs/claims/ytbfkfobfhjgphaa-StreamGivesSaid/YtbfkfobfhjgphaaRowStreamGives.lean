/- The law StreamGives holds of the given program: whatever the input, the function returns true, and the input reads as it did. -/
import Derived.Test.YtbfkfobfhjgphaaHead
import Derived.Test.YtbfkfobfhjgphaaHead
import Derived.Test.YtbfkfobfhjgphaaPevRow
import Derived.Test.YtbfkfobfhjgphaaFnCT
import Derived.Test.YtbfkfobfhjgphaaAllStreamGives
set_option linter.unusedVariables false
namespace Go.Proofs.Ytbfkfobfhjgphaa.streamGives
open Go.ChangeShapes Go.WideShapes Go.ChangeAt Go.RowKit Go.Pev Go.Proofs.Ytbfkfobfhjgphaa.Fn Go.Proofs.Ytbfkfobfhjgphaa
theorem own : ownKnob Try.prog.godebug = none := by kernel_rfl
theorem laidOut : laidOutB Try.prog = true := by kernel_rfl
theorem types_ok : ([31, 31, 31, 5].all fun t => Try.prog.readableRec t && decide (t < Try.prog.types.size)) = true := by kernel_rfl
theorem reads : rdAs Try.prog 8 [31, 31, 31, 5] = some (sig18).args := by kernel_rfl
theorem calls {W : World} {vs : List Value} {xs : List XA} {x : argsI (sig18).args} (ha : argsRep (liveI W) W xs vs []) (hd : decArgs (sig18).args xs = some x) (hw : WFAs (sig18).args x) :
    Calls Try.prog 18 vs.toArray W fun e w' => e = .returned (.bool true) ∧ Below W.heap.size W w' :=
  law_calls (ats := (sig18).args) (f := fun x => f18 Sp.fuel x) (ok18 Sp.fuel) Try.func18 (by kernel_rfl) (by kernel_rfl) ha hd (Sp.plain18 x hw)
set_option maxRecDepth 100000 in
theorem lifted (os : Os) (started : os.Started) (H : Type) (enc : TypeId × Value → H) :
    ReturnsInHanded {} Try.checked os 18 .any (Rows.streamGivesSpec.pre6 enc Try.prog Try.f18 Rows.streamGivesRow.domain false) (Rows.streamGivesSpec.post enc Try.prog Try.f18 false true false false) := by
  refine returnsInHanded_of_change_sized (C := Try.checked) own started (by kernel_rfl) Try.func18
    (ChangeSpec.witness6 (enc := enc) (C := Try.checked) false ⟨#[], #[.slice none 0 0, .slice none 0 0, .slice none 0 0, .int .u8 0], []⟩ 8 (by kernel_rfl) (by kernel_rfl) (by kernel_rfl) (by kernel_rfl)) ?_
  intro W base args ds gs before hval0 hW hcnd hsz0 _
  have hval : ∀ (j : Nat) t v, Try.f18.params[j]? = some t → args[j]? = some v → Value.okWide Try.prog W .any base t v := hval0
  have hW' := hW
  obtain ⟨p, q, hA0, hV, rfl, hfz, hnd⟩ := hW
  have hA : DataW.TrodAll enc Try.prog W 0 (fun _ => true) true Try.f18.params.toList args.toList ds p := hA0
  rw [Try.params18] at hA hval
  obtain ⟨rfl, rfl⟩ := trodVars_none hV
  have hA1 : DataW.TrodAll enc Try.prog W 0 (fun _ => true) true [31, 31, 31, 5] args.toList ds p := hA
  obtain ⟨x, xs, hwf, hdec, harg⟩ := args_rd [31, 31, 31, 5] args.toList ds p _ reads (fun j t v ht hv => hval j t v (by rw [← ht]; simp) (by simpa using hv)) hA1
  have hc := calls harg hdec hwf
  rw [Array.toArray_toList] at hc
  refine hc.mono fun e W' ⟨he, bel⟩ => ?_
  subst he
  have hback := trodAll_below laidOut bel [31, 31, 31, 5] args.toList ds p types_ok hA1
  obtain ⟨v0, vs0, d0, ds0, p0, q0, _, rfl, rfl, _, r0⟩ := trodAll_cons hA1
  obtain ⟨v1, vs1, d1, ds1, p1, q1, _, rfl, rfl, _, r1⟩ := trodAll_cons r0
  obtain ⟨v2, vs2, d2, ds2, p2, q2, _, rfl, rfl, _, r2⟩ := trodAll_cons r1
  obtain ⟨v3, vs3, d3, ds3, p3, q3, _, rfl, rfl, _, r3⟩ := trodAll_cons r2
  obtain ⟨_, rfl, rfl⟩ := trodAll_nil r3
  exact ⟨_, rfl, _, _, _, [], _, [], hW', trodAll_mk1 (shut_bool Try.underlying4 _), hback, rfl, bel.frame _, fun h => by cases h⟩
theorem j1 : (Rows.streamGivesRow.wf (OpenSpec.ofChange Rows.streamGivesSpec)) = true := by kernel_rfl
theorem j2 : (laidOutB Try.pinned.checked.prog) = true := by kernel_rfl
theorem j3 : (mapsRowed Try.pinned.checked.prog) = true := by kernel_rfl
theorem j4 : (Try.f18.params.all (Try.pinned.checked.prog.readableRec ·)) = true := by kernel_rfl
theorem j5 : (namedTie Try.pinned.checked.prog Rows.streamGivesRow.named Rows.streamGivesSpec.vars) = true := by kernel_rfl
theorem j6 : ((Rows.streamGivesRow.stops == [])) = true := by kernel_rfl
theorem j7 : ((Try.pinned.checked.prog.stops == [])) = true := by kernel_rfl
theorem j8 : ((Rows.streamGivesRow.knobs == [])) = true := by kernel_rfl
theorem j9 : ((Try.pinned.checked.prog.stopKnobs == [])) = true := by kernel_rfl
theorem j10 : ((Rows.streamGivesRow.inPlace == Try.pinned.checked.prog.inPlace 18)) = true := by kernel_rfl
theorem j11 : ((Rows.streamGivesRow.unfollowed == Try.pinned.checked.prog.unfollowed 18)) = true := by kernel_rfl
theorem j12 : ((Rows.streamGivesRow.recurses == Try.pinned.checked.prog.recurses 18)) = true := by kernel_rfl
theorem j13 : ((Rows.streamGivesRow.named == Try.pinned.checked.prog.varsNamed 18)) = true := by kernel_rfl
theorem j14 : ((Rows.streamGivesRow.maps == (Try.f18.params.toList ++ Rows.streamGivesSpec.plain.varTypes Try.pinned.checked.prog).any (Try.pinned.checked.prog.mapsRec ·))) = true := by kernel_rfl
theorem j15 : ((Rows.streamGivesRow.ifaces == (Try.f18.params.toList ++ Rows.streamGivesSpec.plain.varTypes Try.pinned.checked.prog).any (Try.pinned.checked.prog.ifacesRec ·))) = true := by kernel_rfl
theorem j16 : ((Rows.streamGivesRow.mapsOut == Try.pinned.checked.prog.mapsAmong Try.f18.resultTypes.toList)) = true := by kernel_rfl
theorem j17 : ((Rows.streamGivesRow.loops == (Try.f18.params.toList ++ Rows.streamGivesSpec.plain.varTypes Try.pinned.checked.prog).any (Try.pinned.checked.prog.loopsFrom ·))) = true := by kernel_rfl
theorem j18 : ((Rows.streamGivesRow.wideKeys == (Try.f18.params.toList ++ Rows.streamGivesSpec.plain.varTypes Try.pinned.checked.prog ++ Try.f18.resultTypes.toList).any (Try.pinned.checked.prog.wideKeysFrom ·))) = true := by kernel_rfl
theorem j19 : (Rows.streamGivesSpec.vars.all (Try.pinned.checked.prog.varReadable ·)) = true := by kernel_rfl
theorem j20 : (Try.f18.resultTypes.all (fun t => Try.pinned.checked.prog.readableRec t && decide (t < Try.pinned.checked.prog.types.size))) = true := by kernel_rfl
theorem j21 : ((Rows.streamGivesRow.ifacesOut == Try.f18.resultTypes.toList.any (Try.pinned.checked.prog.ifacesRec ·))) = true := by kernel_rfl
theorem j22 : ((Rows.streamGivesRow.loopsOut == Try.f18.resultTypes.toList.any (Try.pinned.checked.prog.loopsFrom ·))) = true := by kernel_rfl
theorem j23 : ((Rows.streamGivesRow.plainKeys == Try.pinned.checked.prog.plainKeys)) = true := by kernel_rfl
theorem j24 : (Rows.streamGivesRow.shortTexts.isNone) = true := by kernel_rfl
theorem j25 : (Try.pinned.checked.prog.stopsHeard) = true := by kernel_rfl
theorem j26 : (Try.pinned.checked.prog.mayEnter) = true := head_enter
theorem j27 : ((Rows.streamGivesRow.lifted == Try.pinned.checked.prog.liftsFinal)) = true := by rw [head_lifted]; kernel_rfl
theorem j28 : ((Try.pinned.checked.prog.make == some Rows.streamGivesRow.make)) = true := by rw [head_made]; kernel_rfl
theorem j29 : ((Rows.streamGivesRow.kinds == (if Rows.streamGivesRow.domain.isEmpty then [] else Try.f18.params.toList.map fun t => match Try.pinned.checked.prog.underlying t with | some (.int k) => some k | _ => none))) = true := by kernel_rfl
theorem j30 : ((Rows.streamGivesRow.pinned == Rows.streamGivesRow.pinnedBy)) = true := by kernel_rfl
theorem j31 : ((Rows.streamGivesRow.veiled == (Try.f18.params.toList ++ Rows.streamGivesSpec.plain.varTypes Try.pinned.checked.prog ++ Try.f18.resultTypes.toList).any (Try.pinned.checked.prog.veiledRec ·))) = true := by kernel_rfl
theorem j32 : (Rows.streamGivesRow.veiledFits Try.pinned.checked.prog Try.f18.params.toList (Try.f18.params.toList ++ Rows.streamGivesSpec.plain.varTypes Try.pinned.checked.prog ++ Try.f18.resultTypes.toList)) = true := by kernel_rfl
set_option maxRecDepth 100000 in
theorem facts : joinedFacts Try.pinned.checked.prog 18 Try.f18 Rows.streamGivesSpec Rows.streamGivesRow = true := by
  simp only [joinedFacts, Bool.and_eq_true]
  exact ⟨⟨⟨⟨⟨⟨⟨⟨⟨⟨⟨⟨⟨⟨⟨⟨⟨⟨⟨⟨⟨⟨⟨⟨⟨⟨⟨⟨⟨⟨⟨j1, j2⟩, j3⟩, j4⟩, j5⟩, j6⟩, j7⟩, j8⟩, j9⟩, j10⟩, j11⟩, j12⟩, j13⟩, j14⟩, j15⟩, j16⟩, j17⟩, j18⟩, j19⟩, j20⟩, j21⟩, j22⟩, j23⟩, j24⟩, j25⟩, j26⟩, j27⟩, j28⟩, j29⟩, j30⟩, j31⟩, j32⟩
theorem over : Rows.streamGivesRow.holds Try.pinned (OpenSpec.ofChange Rows.streamGivesSpec) :=
  OpenClaim.holds_of_wide 18 Try.f18 rfl rfl rfl rfl rfl rfl rfl ⟨rfl, rfl, rfl, rfl, rfl⟩ rfl rfl rfl rfl rfl (by kernel_rfl) Try.func18 facts
    (of_decide_eq_true (by kernel_rfl)) (by unfold Func.isWrapper; first | (rw [if_pos (by decide +kernel)]; kernel_rfl) | (rw [if_neg (by decide +kernel)]; exact ⟨rfl, rfl⟩))
    (fun os started H enc _ => lifted os started H enc)
theorem proved : Rows.StreamGivesSaid := over
#print axioms proved
end Go.Proofs.Ytbfkfobfhjgphaa.streamGives
namespace Go.Proofs.Ytbfkfobfhjgphaa
/-- The row, under a short name, for the claim. -/
theorem streamGives_holds : Rows.StreamGivesSaid := streamGives.proved
end Go.Proofs.Ytbfkfobfhjgphaa
