/- The facts of the row formulaStrings, each by the kernel. -/
import Derived.Test.YtjimmpldofoimaaGreatDoorJ0
set_option linter.unusedVariables false
set_option linter.unusedSimpArgs false
namespace Go.Proofs.YtjimmpldofoimaaGreatDoor
open Go
set_option maxRecDepth 100000
theorem formulaStrings_k1 : (Rows.formulaStringsRow.wf (OpenSpec.ofChange Rows.formulaStringsSpec)) = true := by kernel_rfl
theorem formulaStrings_k4 : (Tryz.f18.params.all (Tryz.pinned.checked.prog.readableRec ·)) = true := by kernel_rfl
theorem formulaStrings_k5 : (namedTie Tryz.pinned.checked.prog Rows.formulaStringsRow.named Rows.formulaStringsSpec.vars) = true := by kernel_rfl
theorem formulaStrings_k6 : ((Rows.formulaStringsRow.stops == [])) = true := by kernel_rfl
theorem formulaStrings_k8 : ((Rows.formulaStringsRow.knobs == [])) = true := by kernel_rfl
theorem formulaStrings_k10 : ((Rows.formulaStringsRow.inPlace == Tryz.pinned.checked.prog.inPlace 18)) = true := by kernel_rfl
theorem formulaStrings_k11 : ((Rows.formulaStringsRow.unfollowed == Tryz.pinned.checked.prog.unfollowed 18)) = true := by kernel_rfl
theorem formulaStrings_k12 : ((Rows.formulaStringsRow.recurses == Tryz.pinned.checked.prog.recurses 18)) = true := by kernel_rfl
theorem formulaStrings_k13 : ((Rows.formulaStringsRow.named == Tryz.pinned.checked.prog.varsNamed 18)) = true := by kernel_rfl
theorem formulaStrings_k14 : ((Rows.formulaStringsRow.maps == (Tryz.f18.params.toList ++ Rows.formulaStringsSpec.plain.varTypes Tryz.pinned.checked.prog).any (Tryz.pinned.checked.prog.mapsRec ·))) = true := by kernel_rfl
theorem formulaStrings_k15 : ((Rows.formulaStringsRow.ifaces == (Tryz.f18.params.toList ++ Rows.formulaStringsSpec.plain.varTypes Tryz.pinned.checked.prog).any (Tryz.pinned.checked.prog.ifacesRec ·))) = true := by kernel_rfl
theorem formulaStrings_k16 : ((Rows.formulaStringsRow.mapsOut == Tryz.pinned.checked.prog.mapsAmong Tryz.f18.resultTypes.toList)) = true := by kernel_rfl
theorem formulaStrings_k17 : ((Rows.formulaStringsRow.loops == (Tryz.f18.params.toList ++ Rows.formulaStringsSpec.plain.varTypes Tryz.pinned.checked.prog).any (Tryz.pinned.checked.prog.loopsFrom ·))) = true := by kernel_rfl
theorem formulaStrings_k18 : ((Rows.formulaStringsRow.wideKeys == (Tryz.f18.params.toList ++ Rows.formulaStringsSpec.plain.varTypes Tryz.pinned.checked.prog ++ Tryz.f18.resultTypes.toList).any (Tryz.pinned.checked.prog.wideKeysFrom ·))) = true := by kernel_rfl
theorem formulaStrings_k19 : (Rows.formulaStringsSpec.vars.all (Tryz.pinned.checked.prog.varReadable ·)) = true := by kernel_rfl
theorem formulaStrings_k20 : (Tryz.f18.resultTypes.all (fun t => Tryz.pinned.checked.prog.readableRec t && decide (t < Tryz.pinned.checked.prog.types.size))) = true := by kernel_rfl
theorem formulaStrings_k21 : ((Rows.formulaStringsRow.ifacesOut == Tryz.f18.resultTypes.toList.any (Tryz.pinned.checked.prog.ifacesRec ·))) = true := by kernel_rfl
theorem formulaStrings_k22 : ((Rows.formulaStringsRow.loopsOut == Tryz.f18.resultTypes.toList.any (Tryz.pinned.checked.prog.loopsFrom ·))) = true := by kernel_rfl
theorem formulaStrings_k23 : ((Rows.formulaStringsRow.plainKeys == Tryz.pinned.checked.prog.plainKeys)) = true := by kernel_rfl
theorem formulaStrings_k24 : (Rows.formulaStringsRow.shortTexts.isNone) = true := by kernel_rfl
theorem formulaStrings_k27 : ((Rows.formulaStringsRow.lifted == Tryz.pinned.checked.prog.liftsFinal)) = true := by kernel_rfl
theorem formulaStrings_k28 : ((Tryz.pinned.checked.prog.make == some Rows.formulaStringsRow.make)) = true := by kernel_rfl
theorem formulaStrings_k29 : ((Rows.formulaStringsRow.kinds == (if Rows.formulaStringsRow.domain.isEmpty then [] else Tryz.f18.params.toList.map fun t => match Tryz.pinned.checked.prog.underlying t with | some (.int k) => some k | _ => none))) = true := by kernel_rfl
theorem formulaStrings_k30 : ((Rows.formulaStringsRow.pinned == Rows.formulaStringsRow.pinnedBy)) = true := by kernel_rfl
theorem formulaStrings_k31 : ((Rows.formulaStringsRow.veiled == (Tryz.f18.params.toList ++ Rows.formulaStringsSpec.plain.varTypes Tryz.pinned.checked.prog ++ Tryz.f18.resultTypes.toList).any (Tryz.pinned.checked.prog.veiledRec ·))) = true := by kernel_rfl
theorem formulaStrings_k32 : (Rows.formulaStringsRow.veiledFits Tryz.pinned.checked.prog Tryz.f18.params.toList (Tryz.f18.params.toList ++ Rows.formulaStringsSpec.plain.varTypes Tryz.pinned.checked.prog ++ Tryz.f18.resultTypes.toList)) = true := by kernel_rfl
theorem formulaStrings_closed : joinedFacts Tryz.pinned.checked.prog 18 Tryz.f18 Rows.formulaStringsSpec Rows.formulaStringsRow = true := joined_of formulaStrings_k1 kp2 kp3 formulaStrings_k4 formulaStrings_k5 formulaStrings_k6 kp7 formulaStrings_k8 kp9 formulaStrings_k10 formulaStrings_k11 formulaStrings_k12 formulaStrings_k13 formulaStrings_k14 formulaStrings_k15 formulaStrings_k16 formulaStrings_k17 formulaStrings_k18 formulaStrings_k19 formulaStrings_k20 formulaStrings_k21 formulaStrings_k22 formulaStrings_k23 formulaStrings_k24 kp25 kp26 formulaStrings_k27 formulaStrings_k28 formulaStrings_k29 formulaStrings_k30 formulaStrings_k31 formulaStrings_k32
theorem formulaStrings_named : Tryz.pinned.checked.prog.funcNamed Rows.formulaStringsRow.func = some 18 := by kernel_rfl
theorem formulaStrings_instance : Tryz.f18.isInstance Tryz.pinned.checked.prog Rows.formulaStringsRow.origin Rows.formulaStringsRow.targs := (of_decide_eq_true (by kernel_rfl))
theorem formulaStrings_wrapper : Tryz.f18.isWrapper Tryz.pinned.checked.prog Rows.formulaStringsRow.wrapper Rows.formulaStringsRow.mainSum := (by unfold Func.isWrapper; first | (rw [if_pos (by decide +kernel)]; kernel_rfl) | (rw [if_neg (by decide +kernel)]; exact ⟨rfl, rfl⟩))
theorem formulaStrings_byText : Rows.formulaStringsRow.wfByText (OpenSpec.ofChange Rows.formulaStringsSpec) = true := by kernel_rfl
theorem formulaStrings_goes : false = Rows.formulaStringsRow.goesBy Tryz.pinned.checked.prog := by kernel_rfl
theorem formulaStrings_wants : ∀ t ∈ [60,9], Tryz.pinned.checked.prog.wantsStandIn t = false := fun t hm => by
  have hall : ([60,9].all fun u => !Tryz.prog.wantsStandIn u) = true := by kernel_rfl
  exact (show Tryz.prog.wantsStandIn t = false by simpa using List.all_eq_true.1 hall t hm)
end Go.Proofs.YtjimmpldofoimaaGreatDoor
