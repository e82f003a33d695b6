/- The facts of the row formulaRanges, each by the kernel. -/
import Derived.Test.YtjimmpldofoimaaGreatDoorJ0
set_option linter.unusedVariables false
set_option linter.unusedSimpArgs false
namespace Go.Proofs.YtjimmpldofoimaaGreatDoor
open Go
set_option maxRecDepth 100000
theorem formulaRanges_k1 : (Rows.formulaRangesRow.wf (OpenSpec.ofChange Rows.formulaRangesSpec)) = true := by kernel_rfl
theorem formulaRanges_k4 : (Tryz.f8.params.all (Tryz.pinned.checked.prog.readableRec ·)) = true := by kernel_rfl
theorem formulaRanges_k5 : (namedTie Tryz.pinned.checked.prog Rows.formulaRangesRow.named Rows.formulaRangesSpec.vars) = true := by kernel_rfl
theorem formulaRanges_k6 : ((Rows.formulaRangesRow.stops == [])) = true := by kernel_rfl
theorem formulaRanges_k8 : ((Rows.formulaRangesRow.knobs == [])) = true := by kernel_rfl
theorem formulaRanges_k10 : ((Rows.formulaRangesRow.inPlace == Tryz.pinned.checked.prog.inPlace 8)) = true := by kernel_rfl
theorem formulaRanges_k11 : ((Rows.formulaRangesRow.unfollowed == Tryz.pinned.checked.prog.unfollowed 8)) = true := by kernel_rfl
theorem formulaRanges_k12 : ((Rows.formulaRangesRow.recurses == Tryz.pinned.checked.prog.recurses 8)) = true := by kernel_rfl
theorem formulaRanges_k13 : ((Rows.formulaRangesRow.named == Tryz.pinned.checked.prog.varsNamed 8)) = true := by kernel_rfl
theorem formulaRanges_k14 : ((Rows.formulaRangesRow.maps == (Tryz.f8.params.toList ++ Rows.formulaRangesSpec.plain.varTypes Tryz.pinned.checked.prog).any (Tryz.pinned.checked.prog.mapsRec ·))) = true := by kernel_rfl
theorem formulaRanges_k15 : ((Rows.formulaRangesRow.ifaces == (Tryz.f8.params.toList ++ Rows.formulaRangesSpec.plain.varTypes Tryz.pinned.checked.prog).any (Tryz.pinned.checked.prog.ifacesRec ·))) = true := by kernel_rfl
theorem formulaRanges_k16 : ((Rows.formulaRangesRow.mapsOut == Tryz.pinned.checked.prog.mapsAmong Tryz.f8.resultTypes.toList)) = true := by kernel_rfl
theorem formulaRanges_k17 : ((Rows.formulaRangesRow.loops == (Tryz.f8.params.toList ++ Rows.formulaRangesSpec.plain.varTypes Tryz.pinned.checked.prog).any (Tryz.pinned.checked.prog.loopsFrom ·))) = true := by kernel_rfl
theorem formulaRanges_k18 : ((Rows.formulaRangesRow.wideKeys == (Tryz.f8.params.toList ++ Rows.formulaRangesSpec.plain.varTypes Tryz.pinned.checked.prog ++ Tryz.f8.resultTypes.toList).any (Tryz.pinned.checked.prog.wideKeysFrom ·))) = true := by kernel_rfl
theorem formulaRanges_k19 : (Rows.formulaRangesSpec.vars.all (Tryz.pinned.checked.prog.varReadable ·)) = true := by kernel_rfl
theorem formulaRanges_k20 : (Tryz.f8.resultTypes.all (fun t => Tryz.pinned.checked.prog.readableRec t && decide (t < Tryz.pinned.checked.prog.types.size))) = true := by kernel_rfl
theorem formulaRanges_k21 : ((Rows.formulaRangesRow.ifacesOut == Tryz.f8.resultTypes.toList.any (Tryz.pinned.checked.prog.ifacesRec ·))) = true := by kernel_rfl
theorem formulaRanges_k22 : ((Rows.formulaRangesRow.loopsOut == Tryz.f8.resultTypes.toList.any (Tryz.pinned.checked.prog.loopsFrom ·))) = true := by kernel_rfl
theorem formulaRanges_k23 : ((Rows.formulaRangesRow.plainKeys == Tryz.pinned.checked.prog.plainKeys)) = true := by kernel_rfl
theorem formulaRanges_k24 : (Rows.formulaRangesRow.shortTexts.isNone) = true := by kernel_rfl
theorem formulaRanges_k27 : ((Rows.formulaRangesRow.lifted == Tryz.pinned.checked.prog.liftsFinal)) = true := by kernel_rfl
theorem formulaRanges_k28 : ((Tryz.pinned.checked.prog.make == some Rows.formulaRangesRow.make)) = true := by kernel_rfl
theorem formulaRanges_k29 : ((Rows.formulaRangesRow.kinds == (if Rows.formulaRangesRow.domain.isEmpty then [] else Tryz.f8.params.toList.map fun t => match Tryz.pinned.checked.prog.underlying t with | some (.int k) => some k | _ => none))) = true := by kernel_rfl
theorem formulaRanges_k30 : ((Rows.formulaRangesRow.pinned == Rows.formulaRangesRow.pinnedBy)) = true := by kernel_rfl
theorem formulaRanges_k31 : ((Rows.formulaRangesRow.veiled == (Tryz.f8.params.toList ++ Rows.formulaRangesSpec.plain.varTypes Tryz.pinned.checked.prog ++ Tryz.f8.resultTypes.toList).any (Tryz.pinned.checked.prog.veiledRec ·))) = true := by kernel_rfl
theorem formulaRanges_k32 : (Rows.formulaRangesRow.veiledFits Tryz.pinned.checked.prog Tryz.f8.params.toList (Tryz.f8.params.toList ++ Rows.formulaRangesSpec.plain.varTypes Tryz.pinned.checked.prog ++ Tryz.f8.resultTypes.toList)) = true := by kernel_rfl
theorem formulaRanges_closed : joinedFacts Tryz.pinned.checked.prog 8 Tryz.f8 Rows.formulaRangesSpec Rows.formulaRangesRow = true := joined_of formulaRanges_k1 kp2 kp3 formulaRanges_k4 formulaRanges_k5 formulaRanges_k6 kp7 formulaRanges_k8 kp9 formulaRanges_k10 formulaRanges_k11 formulaRanges_k12 formulaRanges_k13 formulaRanges_k14 formulaRanges_k15 formulaRanges_k16 formulaRanges_k17 formulaRanges_k18 formulaRanges_k19 formulaRanges_k20 formulaRanges_k21 formulaRanges_k22 formulaRanges_k23 formulaRanges_k24 kp25 kp26 formulaRanges_k27 formulaRanges_k28 formulaRanges_k29 formulaRanges_k30 formulaRanges_k31 formulaRanges_k32
theorem formulaRanges_named : Tryz.pinned.checked.prog.funcNamed Rows.formulaRangesRow.func = some 8 := by kernel_rfl
theorem formulaRanges_instance : Tryz.f8.isInstance Tryz.pinned.checked.prog Rows.formulaRangesRow.origin Rows.formulaRangesRow.targs := (of_decide_eq_true (by kernel_rfl))
theorem formulaRanges_wrapper : Tryz.f8.isWrapper Tryz.pinned.checked.prog Rows.formulaRangesRow.wrapper Rows.formulaRangesRow.mainSum := (by unfold Func.isWrapper; first | (rw [if_pos (by decide +kernel)]; kernel_rfl) | (rw [if_neg (by decide +kernel)]; exact ⟨rfl, rfl⟩))
theorem formulaRanges_byText : Rows.formulaRangesRow.wfByText (OpenSpec.ofChange Rows.formulaRangesSpec) = true := by kernel_rfl
theorem formulaRanges_goes : false = Rows.formulaRangesRow.goesBy Tryz.pinned.checked.prog := by kernel_rfl
theorem formulaRanges_wants : ∀ t ∈ [88,45], Tryz.pinned.checked.prog.wantsStandIn t = false := fun t hm => by
  have hall : ([88,45].all fun u => !Tryz.prog.wantsStandIn u) = true := by kernel_rfl
  exact (show Tryz.prog.wantsStandIn t = false by simpa using List.all_eq_true.1 hall t hm)
end Go.Proofs.YtjimmpldofoimaaGreatDoor
