/- The facts of the row formulaHolds, each by the kernel. -/
import Derived.Test.YtjimmpldofoimaaGreatDoorJ0
set_option linter.unusedVariables false
set_option linter.unusedSimpArgs false
namespace Go.Proofs.YtjimmpldofoimaaGreatDoor
open Go
set_option maxRecDepth 100000
theorem formulaHolds_k1 : (Rows.formulaHoldsRow.wf (OpenSpec.ofChange Rows.formulaHoldsSpec)) = true := by kernel_rfl
theorem formulaHolds_k4 : (Tryz.f5.params.all (Tryz.pinned.checked.prog.readableRec ·)) = true := by kernel_rfl
theorem formulaHolds_k5 : (namedTie Tryz.pinned.checked.prog Rows.formulaHoldsRow.named Rows.formulaHoldsSpec.vars) = true := by kernel_rfl
theorem formulaHolds_k6 : ((Rows.formulaHoldsRow.stops == [])) = true := by kernel_rfl
theorem formulaHolds_k8 : ((Rows.formulaHoldsRow.knobs == [])) = true := by kernel_rfl
theorem formulaHolds_k10 : ((Rows.formulaHoldsRow.inPlace == Tryz.pinned.checked.prog.inPlace 5)) = true := by kernel_rfl
theorem formulaHolds_k11 : ((Rows.formulaHoldsRow.unfollowed == Tryz.pinned.checked.prog.unfollowed 5)) = true := by kernel_rfl
theorem formulaHolds_k12 : ((Rows.formulaHoldsRow.recurses == Tryz.pinned.checked.prog.recurses 5)) = true := by kernel_rfl
theorem formulaHolds_k13 : ((Rows.formulaHoldsRow.named == Tryz.pinned.checked.prog.varsNamed 5)) = true := by kernel_rfl
theorem formulaHolds_k14 : ((Rows.formulaHoldsRow.maps == (Tryz.f5.params.toList ++ Rows.formulaHoldsSpec.plain.varTypes Tryz.pinned.checked.prog).any (Tryz.pinned.checked.prog.mapsRec ·))) = true := by kernel_rfl
theorem formulaHolds_k15 : ((Rows.formulaHoldsRow.ifaces == (Tryz.f5.params.toList ++ Rows.formulaHoldsSpec.plain.varTypes Tryz.pinned.checked.prog).any (Tryz.pinned.checked.prog.ifacesRec ·))) = true := by kernel_rfl
theorem formulaHolds_k16 : ((Rows.formulaHoldsRow.mapsOut == Tryz.pinned.checked.prog.mapsAmong Tryz.f5.resultTypes.toList)) = true := by kernel_rfl
theorem formulaHolds_k17 : ((Rows.formulaHoldsRow.loops == (Tryz.f5.params.toList ++ Rows.formulaHoldsSpec.plain.varTypes Tryz.pinned.checked.prog).any (Tryz.pinned.checked.prog.loopsFrom ·))) = true := by kernel_rfl
theorem formulaHolds_k18 : ((Rows.formulaHoldsRow.wideKeys == (Tryz.f5.params.toList ++ Rows.formulaHoldsSpec.plain.varTypes Tryz.pinned.checked.prog ++ Tryz.f5.resultTypes.toList).any (Tryz.pinned.checked.prog.wideKeysFrom ·))) = true := by kernel_rfl
theorem formulaHolds_k19 : (Rows.formulaHoldsSpec.vars.all (Tryz.pinned.checked.prog.varReadable ·)) = true := by kernel_rfl
theorem formulaHolds_k20 : (Tryz.f5.resultTypes.all (fun t => Tryz.pinned.checked.prog.readableRec t && decide (t < Tryz.pinned.checked.prog.types.size))) = true := by kernel_rfl
theorem formulaHolds_k21 : ((Rows.formulaHoldsRow.ifacesOut == Tryz.f5.resultTypes.toList.any (Tryz.pinned.checked.prog.ifacesRec ·))) = true := by kernel_rfl
theorem formulaHolds_k22 : ((Rows.formulaHoldsRow.loopsOut == Tryz.f5.resultTypes.toList.any (Tryz.pinned.checked.prog.loopsFrom ·))) = true := by kernel_rfl
theorem formulaHolds_k23 : ((Rows.formulaHoldsRow.plainKeys == Tryz.pinned.checked.prog.plainKeys)) = true := by kernel_rfl
theorem formulaHolds_k24 : (Rows.formulaHoldsRow.shortTexts.isNone) = true := by kernel_rfl
theorem formulaHolds_k27 : ((Rows.formulaHoldsRow.lifted == Tryz.pinned.checked.prog.liftsFinal)) = true := by kernel_rfl
theorem formulaHolds_k28 : ((Tryz.pinned.checked.prog.make == some Rows.formulaHoldsRow.make)) = true := by kernel_rfl
theorem formulaHolds_k29 : ((Rows.formulaHoldsRow.kinds == (if Rows.formulaHoldsRow.domain.isEmpty then [] else Tryz.f5.params.toList.map fun t => match Tryz.pinned.checked.prog.underlying t with | some (.int k) => some k | _ => none))) = true := by kernel_rfl
theorem formulaHolds_k30 : ((Rows.formulaHoldsRow.pinned == Rows.formulaHoldsRow.pinnedBy)) = true := by kernel_rfl
theorem formulaHolds_k31 : ((Rows.formulaHoldsRow.veiled == (Tryz.f5.params.toList ++ Rows.formulaHoldsSpec.plain.varTypes Tryz.pinned.checked.prog ++ Tryz.f5.resultTypes.toList).any (Tryz.pinned.checked.prog.veiledRec ·))) = true := by kernel_rfl
theorem formulaHolds_k32 : (Rows.formulaHoldsRow.veiledFits Tryz.pinned.checked.prog Tryz.f5.params.toList (Tryz.f5.params.toList ++ Rows.formulaHoldsSpec.plain.varTypes Tryz.pinned.checked.prog ++ Tryz.f5.resultTypes.toList)) = true := by kernel_rfl
theorem formulaHolds_closed : joinedFacts Tryz.pinned.checked.prog 5 Tryz.f5 Rows.formulaHoldsSpec Rows.formulaHoldsRow = true := joined_of formulaHolds_k1 kp2 kp3 formulaHolds_k4 formulaHolds_k5 formulaHolds_k6 kp7 formulaHolds_k8 kp9 formulaHolds_k10 formulaHolds_k11 formulaHolds_k12 formulaHolds_k13 formulaHolds_k14 formulaHolds_k15 formulaHolds_k16 formulaHolds_k17 formulaHolds_k18 formulaHolds_k19 formulaHolds_k20 formulaHolds_k21 formulaHolds_k22 formulaHolds_k23 formulaHolds_k24 kp25 kp26 formulaHolds_k27 formulaHolds_k28 formulaHolds_k29 formulaHolds_k30 formulaHolds_k31 formulaHolds_k32
theorem formulaHolds_named : Tryz.pinned.checked.prog.funcNamed Rows.formulaHoldsRow.func = some 5 := by kernel_rfl
theorem formulaHolds_instance : Tryz.f5.isInstance Tryz.pinned.checked.prog Rows.formulaHoldsRow.origin Rows.formulaHoldsRow.targs := (of_decide_eq_true (by kernel_rfl))
theorem formulaHolds_wrapper : Tryz.f5.isWrapper Tryz.pinned.checked.prog Rows.formulaHoldsRow.wrapper Rows.formulaHoldsRow.mainSum := (by unfold Func.isWrapper; first | (rw [if_pos (by decide +kernel)]; kernel_rfl) | (rw [if_neg (by decide +kernel)]; exact ⟨rfl, rfl⟩))
theorem formulaHolds_byText : Rows.formulaHoldsRow.wfByText (OpenSpec.ofChange Rows.formulaHoldsSpec) = true := by kernel_rfl
theorem formulaHolds_goes : false = Rows.formulaHoldsRow.goesBy Tryz.pinned.checked.prog := by kernel_rfl
theorem formulaHolds_wants : ∀ t ∈ [60,46], Tryz.pinned.checked.prog.wantsStandIn t = false := fun t hm => by
  have hall : ([60,46].all fun u => !Tryz.prog.wantsStandIn u) = true := by kernel_rfl
  exact (show Tryz.prog.wantsStandIn t = false by simpa using List.all_eq_true.1 hall t hm)
end Go.Proofs.YtjimmpldofoimaaGreatDoor
