/- The law StreamDrains holds of the given program: whatever the input, the function returns true, and the input reads as it did. -/
import Derived.Test.YtbfkfobfhjgphaaHead
import Derived.Test.YtbfkfobfhjgphaaHead
import Derived.Test.YtbfkfobfhjgphaaPevRow
import Derived.Test.YtbfkfobfhjgphaaFnCT
import Derived.Test.YtbfkfobfhjgphaaAllStreamDrains
set_option linter.unusedVariables false
namespace Go.Proofs.Ytbfkfobfhjgphaa.streamDrains
open Go.ChangeShapes Go.WideShapes Go.ChangeAt Go.RowKit Go.Pev Go.Proofs.Ytbfkfobfhjgphaa.Fn Go.Proofs.Ytbfkfobfhjgphaa
theorem own : ownKnob Try.prog.godebug = none := by kernel_rfl
theorem laidOut : laidOutB Try.prog = true := by kernel_rfl
theorem types_ok : ([31, 5, 5].all fun t => Try.prog.readableRec t && decide (t < Try.prog.types.size)) = true := by kernel_rfl
theorem reads : rdAs Try.prog 8 [31, 5, 5] = some (sig16).args := by kernel_rfl
theorem calls {W : World} {vs : List Value} {xs : List XA} {x : argsI (sig16).args} (ha : argsRep (liveI W) W xs vs []) (hd : decArgs (sig16).args xs = some x) (hw : WFAs (sig16).args x) :
    Calls Try.prog 16 vs.toArray W fun e w' => e = .returned (.bool true) ∧ Below W.heap.size W w' :=
  law_calls (ats := (sig16).args) (f := fun x => f16 Sp.fuel x) (ok16 Sp.fuel) Try.func16 (by kernel_rfl) (by kernel_rfl) ha hd (Sp.plain16 x hw)
set_option maxRecDepth 100000 in
theorem lifted (os : Os) (started : os.Started) (H : Type) (enc : TypeId × Value → H) :
    ReturnsInHanded {} Try.checked os 16 .any (Rows.streamDrainsSpec.pre6 enc Try.prog Try.f16 Rows.streamDrainsRow.domain false) (Rows.streamDrainsSpec.post enc Try.prog Try.f16 false true false false) := by
  refine returnsInHanded_of_change_sized (C := Try.checked) own started (by kernel_rfl) Try.func16
    (ChangeSpec.witness6 (enc := enc) (C := Try.checked) false ⟨#[], #[.slice none 0 0, .int .u8 0, .int .u8 0], []⟩ 8 (by kernel_rfl) (by kernel_rfl) (by kernel_rfl) (by kernel_rfl)) ?_
  intro W base args ds gs before hval0 hW hcnd hsz0 _
  have hval : ∀ (j : Nat) t v, Try.f16.params[j]? = some t → args[j]? = some v → Value.okWide Try.prog W .any base t v := hval0
  have hW' := hW
  obtain ⟨p, q, hA0, hV, rfl, hfz, hnd⟩ := hW
  have hA : DataW.TrodAll enc Try.prog W 0 (fun _ => true) true Try.f16.params.toList args.toList ds p := hA0
  rw [Try.params16] at hA hval
  obtain ⟨rfl, rfl⟩ := trodVars_none hV
  have hA1 : DataW.TrodAll enc Try.prog W 0 (fun _ => true) true [31, 5, 5] args.toList ds p := hA
  obtain ⟨x, xs, hwf, hdec, harg⟩ := args_rd [31, 5, 5] args.toList ds p _ reads (fun j t v ht hv => hval j t v (by rw [← ht]; simp) (by simpa using hv)) hA1
  have hc := calls harg hdec hwf
  rw [Array.toArray_toList] at hc
  refine hc.mono fun e W' ⟨he, bel⟩ => ?_
  subst he
  have hback := trodAll_below laidOut bel [31, 5, 5] args.toList ds p types_ok hA1
  obtain ⟨v0, vs0, d0, ds0, p0, q0, _, rfl, rfl, _, r0⟩ := trodAll_cons hA1
  obtain ⟨v1, vs1, d1, ds1, p1, q1, _, rfl, rfl, _, r1⟩ := trodAll_cons r0
  obtain ⟨v2, vs2, d2, ds2, p2, q2, _, rfl, rfl, _, r2⟩ := trodAll_cons r1
  obtain ⟨_, rfl, rfl⟩ := trodAll_nil r2
  exact ⟨_, rfl, _, _, _, [], _, [], hW', trodAll_mk1 (shut_bool Try.underlying4 _), hback, rfl, bel.frame _, fun h => by cases h⟩
theorem j1 : (Rows.streamDrainsRow.wf (OpenSpec.ofChange Rows.streamDrainsSpec)) = true := by kernel_rfl
theorem j2 : (laidOutB Try.pinned.checked.prog) = true := by kernel_rfl
theorem j3 : (mapsRowed Try.pinned.checked.prog) = true := by kernel_rfl
theorem j4 : (Try.f16.params.all (Try.pinned.checked.prog.readableRec ·)) = true := by kernel_rfl
theorem j5 : (namedTie Try.pinned.checked.prog Rows.streamDrainsRow.named Rows.streamDrainsSpec.vars) = true := by kernel_rfl
theorem j6 : ((Rows.streamDrainsRow.stops == [])) = true := by kernel_rfl
theorem j7 : ((Try.pinned.checked.prog.stops == [])) = true := by kernel_rfl
theorem j8 : ((Rows.streamDrainsRow.knobs == [])) = true := by kernel_rfl
theorem j9 : ((Try.pinned.checked.prog.stopKnobs == [])) = true := by kernel_rfl
theorem j10 : ((Rows.streamDrainsRow.inPlace == Try.pinned.checked.prog.inPlace 16)) = true := by kernel_rfl
theorem j11 : ((Rows.streamDrainsRow.unfollowed == Try.pinned.checked.prog.unfollowed 16)) = true := by kernel_rfl
theorem j12 : ((Rows.streamDrainsRow.recurses == Try.pinned.checked.prog.recurses 16)) = true := by kernel_rfl
theorem j13 : ((Rows.streamDrainsRow.named == Try.pinned.checked.prog.varsNamed 16)) = true := by kernel_rfl
theorem j14 : ((Rows.streamDrainsRow.maps == (Try.f16.params.toList ++ Rows.streamDrainsSpec.plain.varTypes Try.pinned.checked.prog).any (Try.pinned.checked.prog.mapsRec ·))) = true := by kernel_rfl
theorem j15 : ((Rows.streamDrainsRow.ifaces == (Try.f16.params.toList ++ Rows.streamDrainsSpec.plain.varTypes Try.pinned.checked.prog).any (Try.pinned.checked.prog.ifacesRec ·))) = true := by kernel_rfl
theorem j16 : ((Rows.streamDrainsRow.mapsOut == Try.pinned.checked.prog.mapsAmong Try.f16.resultTypes.toList)) = true := by kernel_rfl
theorem j17 : ((Rows.streamDrainsRow.loops == (Try.f16.params.toList ++ Rows.streamDrainsSpec.plain.varTypes Try.pinned.checked.prog).any (Try.pinned.checked.prog.loopsFrom ·))) = true := by kernel_rfl
theorem j18 : ((Rows.streamDrainsRow.wideKeys == (Try.f16.params.toList ++ Rows.streamDrainsSpec.plain.varTypes Try.pinned.checked.prog ++ Try.f16.resultTypes.toList).any (Try.pinned.checked.prog.wideKeysFrom ·))) = true := by kernel_rfl
theorem j19 : (Rows.streamDrainsSpec.vars.all (Try.pinned.checked.prog.varReadable ·)) = true := by kernel_rfl
theorem j20 : (Try.f16.resultTypes.all (fun t => Try.pinned.checked.prog.readableRec t && decide (t < Try.pinned.checked.prog.types.size))) = true := by kernel_rfl
theorem j21 : ((Rows.streamDrainsRow.ifacesOut == Try.f16.resultTypes.toList.any (Try.pinned.checked.prog.ifacesRec ·))) = true := by kernel_rfl
theorem j22 : ((Rows.streamDrainsRow.loopsOut == Try.f16.resultTypes.toList.any (Try.pinned.checked.prog.loopsFrom ·))) = true := by kernel_rfl
theorem j23 : ((Rows.streamDrainsRow.plainKeys == Try.pinned.checked.prog.plainKeys)) = true := by kernel_rfl
theorem j24 : (Rows.streamDrainsRow.shortTexts.isNone) = true := by kernel_rfl
theorem j25 : (Try.pinned.checked.prog.stopsHeard) = true := by kernel_rfl
theorem j26 : (Try.pinned.checked.prog.mayEnter) = true := head_enter
theorem j27 : ((Rows.streamDrainsRow.lifted == Try.pinned.checked.prog.liftsFinal)) = true := by rw [head_lifted]; kernel_rfl
theorem j28 : ((Try.pinned.checked.prog.make == some Rows.streamDrainsRow.make)) = true := by rw [head_made]; kernel_rfl
theorem j29 : ((Rows.streamDrainsRow.kinds == (if Rows.streamDrainsRow.domain.isEmpty then [] else Try.f16.params.toList.map fun t => match Try.pinned.checked.prog.underlying t with | some (.int k) => some k | _ => none))) = true := by kernel_rfl
theorem j30 : ((Rows.streamDrainsRow.pinned == Rows.streamDrainsRow.pinnedBy)) = true := by kernel_rfl
theorem j31 : ((Rows.streamDrainsRow.veiled == (Try.f16.params.toList ++ Rows.streamDrainsSpec.plain.varTypes Try.pinned.checked.prog ++ Try.f16.resultTypes.toList).any (Try.pinned.checked.prog.veiledRec ·))) = true := by kernel_rfl
theorem j32 : (Rows.streamDrainsRow.veiledFits Try.pinned.checked.prog Try.f16.params.toList (Try.f16.params.toList ++ Rows.streamDrainsSpec.plain.varTypes Try.pinned.checked.prog ++ Try.f16.resultTypes.toList)) = true := by kernel_rfl
set_option maxRecDepth 100000 in
theorem facts : joinedFacts Try.pinned.checked.prog 16 Try.f16 Rows.streamDrainsSpec Rows.streamDrainsRow = true := by
  simp only [joinedFacts, Bool.and_eq_true]
  exact ⟨⟨⟨⟨⟨⟨⟨⟨⟨⟨⟨⟨⟨⟨⟨⟨⟨⟨⟨⟨⟨⟨⟨⟨⟨⟨⟨⟨⟨⟨⟨j1, j2⟩, j3⟩, j4⟩, j5⟩, j6⟩, j7⟩, j8⟩, j9⟩, j10⟩, j11⟩, j12⟩, j13⟩, j14⟩, j15⟩, j16⟩, j17⟩, j18⟩, j19⟩, j20⟩, j21⟩, j22⟩, j23⟩, j24⟩, j25⟩, j26⟩, j27⟩, j28⟩, j29⟩, j30⟩, j31⟩, j32⟩
theorem over : Rows.streamDrainsRow.holds Try.pinned (OpenSpec.ofChange Rows.streamDrainsSpec) :=
  OpenClaim.holds_of_wide 16 Try.f16 rfl rfl rfl rfl rfl rfl rfl ⟨rfl, rfl, rfl, rfl, rfl⟩ rfl rfl rfl rfl rfl (by kernel_rfl) Try.func16 facts
    (of_decide_eq_true (by kernel_rfl)) (by unfold Func.isWrapper; first | (rw [if_pos (by decide +kernel)]; kernel_rfl) | (rw [if_neg (by decide +kernel)]; exact ⟨rfl, rfl⟩))
    (fun os started H enc _ => lifted os started H enc)
theorem proved : Rows.StreamDrainsSaid := over
#print axioms proved
end Go.Proofs.Ytbfkfobfhjgphaa.streamDrains
namespace Go.Proofs.Ytbfkfobfhjgphaa
/-- The row, under a short name, for the claim. -/
theorem streamDrains_holds : Rows.StreamDrainsSaid := streamDrains.proved
end Go.Proofs.Ytbfkfobfhjgphaa
