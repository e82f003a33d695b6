/- The facts of the row formulaTerms, each by the kernel. -/
import Derived.Test.YtjimmpldofoimaaGreatDoorJ0
set_option linter.unusedVariables false
set_option linter.unusedSimpArgs false
namespace Go.Proofs.YtjimmpldofoimaaGreatDoor
open Go
set_option maxRecDepth 100000
theorem formulaTerms_k1 : (Rows.formulaTermsRow.wf (OpenSpec.ofChange Rows.formulaTermsSpec)) = true := by kernel_rfl
theorem formulaTerms_k4 : (Tryz.f10.params.all (Tryz.pinned.checked.prog.readableRec ·)) = true := by kernel_rfl
theorem formulaTerms_k5 : (namedTie Tryz.pinned.checked.prog Rows.formulaTermsRow.named Rows.formulaTermsSpec.vars) = true := by kernel_rfl
theorem formulaTerms_k6 : ((Rows.formulaTermsRow.stops == [])) = true := by kernel_rfl
theorem formulaTerms_k8 : ((Rows.formulaTermsRow.knobs == [])) = true := by kernel_rfl
theorem formulaTerms_k10 : ((Rows.formulaTermsRow.inPlace == Tryz.pinned.checked.prog.inPlace 10)) = true := by kernel_rfl
theorem formulaTerms_k11 : ((Rows.formulaTermsRow.unfollowed == Tryz.pinned.checked.prog.unfollowed 10)) = true := by kernel_rfl
theorem formulaTerms_k12 : ((Rows.formulaTermsRow.recurses == Tryz.pinned.checked.prog.recurses 10)) = true := by kernel_rfl
theorem formulaTerms_k13 : ((Rows.formulaTermsRow.named == Tryz.pinned.checked.prog.varsNamed 10)) = true := by kernel_rfl
theorem formulaTerms_k14 : ((Rows.formulaTermsRow.maps == (Tryz.f10.params.toList ++ Rows.formulaTermsSpec.plain.varTypes Tryz.pinned.checked.prog).any (Tryz.pinned.checked.prog.mapsRec ·))) = true := by kernel_rfl
theorem formulaTerms_k15 : ((Rows.formulaTermsRow.ifaces == (Tryz.f10.params.toList ++ Rows.formulaTermsSpec.plain.varTypes Tryz.pinned.checked.prog).any (Tryz.pinned.checked.prog.ifacesRec ·))) = true := by kernel_rfl
theorem formulaTerms_k16 : ((Rows.formulaTermsRow.mapsOut == Tryz.pinned.checked.prog.mapsAmong Tryz.f10.resultTypes.toList)) = true := by kernel_rfl
theorem formulaTerms_k17 : ((Rows.formulaTermsRow.loops == (Tryz.f10.params.toList ++ Rows.formulaTermsSpec.plain.varTypes Tryz.pinned.checked.prog).any (Tryz.pinned.checked.prog.loopsFrom ·))) = true := by kernel_rfl
theorem formulaTerms_k18 : ((Rows.formulaTermsRow.wideKeys == (Tryz.f10.params.toList ++ Rows.formulaTermsSpec.plain.varTypes Tryz.pinned.checked.prog ++ Tryz.f10.resultTypes.toList).any (Tryz.pinned.checked.prog.wideKeysFrom ·))) = true := by kernel_rfl
theorem formulaTerms_k19 : (Rows.formulaTermsSpec.vars.all (Tryz.pinned.checked.prog.varReadable ·)) = true := by kernel_rfl
theorem formulaTerms_k20 : (Tryz.f10.resultTypes.all (fun t => Tryz.pinned.checked.prog.readableRec t && decide (t < Tryz.pinned.checked.prog.types.size))) = true := by kernel_rfl
theorem formulaTerms_k21 : ((Rows.formulaTermsRow.ifacesOut == Tryz.f10.resultTypes.toList.any (Tryz.pinned.checked.prog.ifacesRec ·))) = true := by kernel_rfl
theorem formulaTerms_k22 : ((Rows.formulaTermsRow.loopsOut == Tryz.f10.resultTypes.toList.any (Tryz.pinned.checked.prog.loopsFrom ·))) = true := by kernel_rfl
theorem formulaTerms_k23 : ((Rows.formulaTermsRow.plainKeys == Tryz.pinned.checked.prog.plainKeys)) = true := by kernel_rfl
theorem formulaTerms_k24 : (Rows.formulaTermsRow.shortTexts.isNone) = true := by kernel_rfl
theorem formulaTerms_k27 : ((Rows.formulaTermsRow.lifted == Tryz.pinned.checked.prog.liftsFinal)) = true := by kernel_rfl
theorem formulaTerms_k28 : ((Tryz.pinned.checked.prog.make == some Rows.formulaTermsRow.make)) = true := by kernel_rfl
theorem formulaTerms_k29 : ((Rows.formulaTermsRow.kinds == (if Rows.formulaTermsRow.domain.isEmpty then [] else Tryz.f10.params.toList.map fun t => match Tryz.pinned.checked.prog.underlying t with | some (.int k) => some k | _ => none))) = true := by kernel_rfl
theorem formulaTerms_k30 : ((Rows.formulaTermsRow.pinned == Rows.formulaTermsRow.pinnedBy)) = true := by kernel_rfl
theorem formulaTerms_k31 : ((Rows.formulaTermsRow.veiled == (Tryz.f10.params.toList ++ Rows.formulaTermsSpec.plain.varTypes Tryz.pinned.checked.prog ++ Tryz.f10.resultTypes.toList).any (Tryz.pinned.checked.prog.veiledRec ·))) = true := by kernel_rfl
theorem formulaTerms_k32 : (Rows.formulaTermsRow.veiledFits Tryz.pinned.checked.prog Tryz.f10.params.toList (Tryz.f10.params.toList ++ Rows.formulaTermsSpec.plain.varTypes Tryz.pinned.checked.prog ++ Tryz.f10.resultTypes.toList)) = true := by kernel_rfl
theorem formulaTerms_closed : joinedFacts Tryz.pinned.checked.prog 10 Tryz.f10 Rows.formulaTermsSpec Rows.formulaTermsRow = true := joined_of formulaTerms_k1 kp2 kp3 formulaTerms_k4 formulaTerms_k5 formulaTerms_k6 kp7 formulaTerms_k8 kp9 formulaTerms_k10 formulaTerms_k11 formulaTerms_k12 formulaTerms_k13 formulaTerms_k14 formulaTerms_k15 formulaTerms_k16 formulaTerms_k17 formulaTerms_k18 formulaTerms_k19 formulaTerms_k20 formulaTerms_k21 formulaTerms_k22 formulaTerms_k23 formulaTerms_k24 kp25 kp26 formulaTerms_k27 formulaTerms_k28 formulaTerms_k29 formulaTerms_k30 formulaTerms_k31 formulaTerms_k32
theorem formulaTerms_named : Tryz.pinned.checked.prog.funcNamed Rows.formulaTermsRow.func = some 10 := by kernel_rfl
theorem formulaTerms_instance : Tryz.f10.isInstance Tryz.pinned.checked.prog Rows.formulaTermsRow.origin Rows.formulaTermsRow.targs := (of_decide_eq_true (by kernel_rfl))
theorem formulaTerms_wrapper : Tryz.f10.isWrapper Tryz.pinned.checked.prog Rows.formulaTermsRow.wrapper Rows.formulaTermsRow.mainSum := (by unfold Func.isWrapper; first | (rw [if_pos (by decide +kernel)]; kernel_rfl) | (rw [if_neg (by decide +kernel)]; exact ⟨rfl, rfl⟩))
theorem formulaTerms_byText : Rows.formulaTermsRow.wfByText (OpenSpec.ofChange Rows.formulaTermsSpec) = true := by kernel_rfl
theorem formulaTerms_goes : false = Rows.formulaTermsRow.goesBy Tryz.pinned.checked.prog := by kernel_rfl
theorem formulaTerms_wants : ∀ t ∈ [88,109], Tryz.pinned.checked.prog.wantsStandIn t = false := fun t hm => by
  have hall : ([88,109].all fun u => !Tryz.prog.wantsStandIn u) = true := by kernel_rfl
  exact (show Tryz.prog.wantsStandIn t = false by simpa using List.all_eq_true.1 hall t hm)
end Go.Proofs.YtjimmpldofoimaaGreatDoor
