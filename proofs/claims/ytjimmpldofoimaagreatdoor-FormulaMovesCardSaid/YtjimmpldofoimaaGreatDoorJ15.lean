/- The facts of the row formulaMoves, each by the kernel. -/
import Derived.Test.YtjimmpldofoimaaGreatDoorJ0
set_option linter.unusedVariables false
set_option linter.unusedSimpArgs false
namespace Go.Proofs.YtjimmpldofoimaaGreatDoor
open Go
set_option maxRecDepth 100000
theorem formulaMoves_k1 : (Rows.formulaMovesRow.wf (OpenSpec.ofChange Rows.formulaMovesSpec)) = true := by kernel_rfl
theorem formulaMoves_k4 : (Tryz.f19.params.all (Tryz.pinned.checked.prog.readableRec ·)) = true := by kernel_rfl
theorem formulaMoves_k5 : (namedTie Tryz.pinned.checked.prog Rows.formulaMovesRow.named Rows.formulaMovesSpec.vars) = true := by kernel_rfl
theorem formulaMoves_k6 : ((Rows.formulaMovesRow.stops == [])) = true := by kernel_rfl
theorem formulaMoves_k8 : ((Rows.formulaMovesRow.knobs == [])) = true := by kernel_rfl
theorem formulaMoves_k10 : ((Rows.formulaMovesRow.inPlace == Tryz.pinned.checked.prog.inPlace 19)) = true := by kernel_rfl
theorem formulaMoves_k11 : ((Rows.formulaMovesRow.unfollowed == Tryz.pinned.checked.prog.unfollowed 19)) = true := by kernel_rfl
theorem formulaMoves_k12 : ((Rows.formulaMovesRow.recurses == Tryz.pinned.checked.prog.recurses 19)) = true := by kernel_rfl
theorem formulaMoves_k13 : ((Rows.formulaMovesRow.named == Tryz.pinned.checked.prog.varsNamed 19)) = true := by kernel_rfl
theorem formulaMoves_k14 : ((Rows.formulaMovesRow.maps == (Tryz.f19.params.toList ++ Rows.formulaMovesSpec.plain.varTypes Tryz.pinned.checked.prog).any (Tryz.pinned.checked.prog.mapsRec ·))) = true := by kernel_rfl
theorem formulaMoves_k15 : ((Rows.formulaMovesRow.ifaces == (Tryz.f19.params.toList ++ Rows.formulaMovesSpec.plain.varTypes Tryz.pinned.checked.prog).any (Tryz.pinned.checked.prog.ifacesRec ·))) = true := by kernel_rfl
theorem formulaMoves_k16 : ((Rows.formulaMovesRow.mapsOut == Tryz.pinned.checked.prog.mapsAmong Tryz.f19.resultTypes.toList)) = true := by kernel_rfl
theorem formulaMoves_k17 : ((Rows.formulaMovesRow.loops == (Tryz.f19.params.toList ++ Rows.formulaMovesSpec.plain.varTypes Tryz.pinned.checked.prog).any (Tryz.pinned.checked.prog.loopsFrom ·))) = true := by kernel_rfl
theorem formulaMoves_k18 : ((Rows.formulaMovesRow.wideKeys == (Tryz.f19.params.toList ++ Rows.formulaMovesSpec.plain.varTypes Tryz.pinned.checked.prog ++ Tryz.f19.resultTypes.toList).any (Tryz.pinned.checked.prog.wideKeysFrom ·))) = true := by kernel_rfl
theorem formulaMoves_k19 : (Rows.formulaMovesSpec.vars.all (Tryz.pinned.checked.prog.varReadable ·)) = true := by kernel_rfl
theorem formulaMoves_k20 : (Tryz.f19.resultTypes.all (fun t => Tryz.pinned.checked.prog.readableRec t && decide (t < Tryz.pinned.checked.prog.types.size))) = true := by kernel_rfl
theorem formulaMoves_k21 : ((Rows.formulaMovesRow.ifacesOut == Tryz.f19.resultTypes.toList.any (Tryz.pinned.checked.prog.ifacesRec ·))) = true := by kernel_rfl
theorem formulaMoves_k22 : ((Rows.formulaMovesRow.loopsOut == Tryz.f19.resultTypes.toList.any (Tryz.pinned.checked.prog.loopsFrom ·))) = true := by kernel_rfl
theorem formulaMoves_k23 : ((Rows.formulaMovesRow.plainKeys == Tryz.pinned.checked.prog.plainKeys)) = true := by kernel_rfl
theorem formulaMoves_k24 : (Rows.formulaMovesRow.shortTexts.isNone) = true := by kernel_rfl
theorem formulaMoves_k27 : ((Rows.formulaMovesRow.lifted == Tryz.pinned.checked.prog.liftsFinal)) = true := by kernel_rfl
theorem formulaMoves_k28 : ((Tryz.pinned.checked.prog.make == some Rows.formulaMovesRow.make)) = true := by kernel_rfl
theorem formulaMoves_k29 : ((Rows.formulaMovesRow.kinds == (if Rows.formulaMovesRow.domain.isEmpty then [] else Tryz.f19.params.toList.map fun t => match Tryz.pinned.checked.prog.underlying t with | some (.int k) => some k | _ => none))) = true := by kernel_rfl
theorem formulaMoves_k30 : ((Rows.formulaMovesRow.pinned == Rows.formulaMovesRow.pinnedBy)) = true := by kernel_rfl
theorem formulaMoves_k31 : ((Rows.formulaMovesRow.veiled == (Tryz.f19.params.toList ++ Rows.formulaMovesSpec.plain.varTypes Tryz.pinned.checked.prog ++ Tryz.f19.resultTypes.toList).any (Tryz.pinned.checked.prog.veiledRec ·))) = true := by kernel_rfl
theorem formulaMoves_k32 : (Rows.formulaMovesRow.veiledFits Tryz.pinned.checked.prog Tryz.f19.params.toList (Tryz.f19.params.toList ++ Rows.formulaMovesSpec.plain.varTypes Tryz.pinned.checked.prog ++ Tryz.f19.resultTypes.toList)) = true := by kernel_rfl
theorem formulaMoves_closed : joinedFacts Tryz.pinned.checked.prog 19 Tryz.f19 Rows.formulaMovesSpec Rows.formulaMovesRow = true := joined_of formulaMoves_k1 kp2 kp3 formulaMoves_k4 formulaMoves_k5 formulaMoves_k6 kp7 formulaMoves_k8 kp9 formulaMoves_k10 formulaMoves_k11 formulaMoves_k12 formulaMoves_k13 formulaMoves_k14 formulaMoves_k15 formulaMoves_k16 formulaMoves_k17 formulaMoves_k18 formulaMoves_k19 formulaMoves_k20 formulaMoves_k21 formulaMoves_k22 formulaMoves_k23 formulaMoves_k24 kp25 kp26 formulaMoves_k27 formulaMoves_k28 formulaMoves_k29 formulaMoves_k30 formulaMoves_k31 formulaMoves_k32
theorem formulaMoves_named : Tryz.pinned.checked.prog.funcNamed Rows.formulaMovesRow.func = some 19 := by kernel_rfl
theorem formulaMoves_instance : Tryz.f19.isInstance Tryz.pinned.checked.prog Rows.formulaMovesRow.origin Rows.formulaMovesRow.targs := (of_decide_eq_true (by kernel_rfl))
theorem formulaMoves_wrapper : Tryz.f19.isWrapper Tryz.pinned.checked.prog Rows.formulaMovesRow.wrapper Rows.formulaMovesRow.mainSum := (by unfold Func.isWrapper; first | (rw [if_pos (by decide +kernel)]; kernel_rfl) | (rw [if_neg (by decide +kernel)]; exact ⟨rfl, rfl⟩))
theorem formulaMoves_byText : Rows.formulaMovesRow.wfByText (OpenSpec.ofChange Rows.formulaMovesSpec) = true := by kernel_rfl
theorem formulaMoves_goes : false = Rows.formulaMovesRow.goesBy Tryz.pinned.checked.prog := by kernel_rfl
theorem formulaMoves_wants : ∀ t ∈ [60,22,46], Tryz.pinned.checked.prog.wantsStandIn t = false := fun t hm => by
  have hall : ([60,22,46].all fun u => !Tryz.prog.wantsStandIn u) = true := by kernel_rfl
  exact (show Tryz.prog.wantsStandIn t = false by simpa using List.all_eq_true.1 hall t hm)
end Go.Proofs.YtjimmpldofoimaaGreatDoor
