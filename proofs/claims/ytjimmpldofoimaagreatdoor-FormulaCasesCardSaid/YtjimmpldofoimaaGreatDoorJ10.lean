/- The facts of the row formulaCases, each by the kernel. -/
import Derived.Test.YtjimmpldofoimaaGreatDoorJ0
set_option linter.unusedVariables false
set_option linter.unusedSimpArgs false
namespace Go.Proofs.YtjimmpldofoimaaGreatDoor
open Go
set_option maxRecDepth 100000
theorem formulaCases_k1 : (Rows.formulaCasesRow.wf (OpenSpec.ofChange Rows.formulaCasesSpec)) = true := by kernel_rfl
theorem formulaCases_k4 : (Tryz.f6.params.all (Tryz.pinned.checked.prog.readableRec ·)) = true := by kernel_rfl
theorem formulaCases_k5 : (namedTie Tryz.pinned.checked.prog Rows.formulaCasesRow.named Rows.formulaCasesSpec.vars) = true := by kernel_rfl
theorem formulaCases_k6 : ((Rows.formulaCasesRow.stops == [])) = true := by kernel_rfl
theorem formulaCases_k8 : ((Rows.formulaCasesRow.knobs == [])) = true := by kernel_rfl
theorem formulaCases_k10 : ((Rows.formulaCasesRow.inPlace == Tryz.pinned.checked.prog.inPlace 6)) = true := by kernel_rfl
theorem formulaCases_k11 : ((Rows.formulaCasesRow.unfollowed == Tryz.pinned.checked.prog.unfollowed 6)) = true := by kernel_rfl
theorem formulaCases_k12 : ((Rows.formulaCasesRow.recurses == Tryz.pinned.checked.prog.recurses 6)) = true := by kernel_rfl
theorem formulaCases_k13 : ((Rows.formulaCasesRow.named == Tryz.pinned.checked.prog.varsNamed 6)) = true := by kernel_rfl
theorem formulaCases_k14 : ((Rows.formulaCasesRow.maps == (Tryz.f6.params.toList ++ Rows.formulaCasesSpec.plain.varTypes Tryz.pinned.checked.prog).any (Tryz.pinned.checked.prog.mapsRec ·))) = true := by kernel_rfl
theorem formulaCases_k15 : ((Rows.formulaCasesRow.ifaces == (Tryz.f6.params.toList ++ Rows.formulaCasesSpec.plain.varTypes Tryz.pinned.checked.prog).any (Tryz.pinned.checked.prog.ifacesRec ·))) = true := by kernel_rfl
theorem formulaCases_k16 : ((Rows.formulaCasesRow.mapsOut == Tryz.pinned.checked.prog.mapsAmong Tryz.f6.resultTypes.toList)) = true := by kernel_rfl
theorem formulaCases_k17 : ((Rows.formulaCasesRow.loops == (Tryz.f6.params.toList ++ Rows.formulaCasesSpec.plain.varTypes Tryz.pinned.checked.prog).any (Tryz.pinned.checked.prog.loopsFrom ·))) = true := by kernel_rfl
theorem formulaCases_k18 : ((Rows.formulaCasesRow.wideKeys == (Tryz.f6.params.toList ++ Rows.formulaCasesSpec.plain.varTypes Tryz.pinned.checked.prog ++ Tryz.f6.resultTypes.toList).any (Tryz.pinned.checked.prog.wideKeysFrom ·))) = true := by kernel_rfl
theorem formulaCases_k19 : (Rows.formulaCasesSpec.vars.all (Tryz.pinned.checked.prog.varReadable ·)) = true := by kernel_rfl
theorem formulaCases_k20 : (Tryz.f6.resultTypes.all (fun t => Tryz.pinned.checked.prog.readableRec t && decide (t < Tryz.pinned.checked.prog.types.size))) = true := by kernel_rfl
theorem formulaCases_k21 : ((Rows.formulaCasesRow.ifacesOut == Tryz.f6.resultTypes.toList.any (Tryz.pinned.checked.prog.ifacesRec ·))) = true := by kernel_rfl
theorem formulaCases_k22 : ((Rows.formulaCasesRow.loopsOut == Tryz.f6.resultTypes.toList.any (Tryz.pinned.checked.prog.loopsFrom ·))) = true := by kernel_rfl
theorem formulaCases_k23 : ((Rows.formulaCasesRow.plainKeys == Tryz.pinned.checked.prog.plainKeys)) = true := by kernel_rfl
theorem formulaCases_k24 : (Rows.formulaCasesRow.shortTexts.isNone) = true := by kernel_rfl
theorem formulaCases_k27 : ((Rows.formulaCasesRow.lifted == Tryz.pinned.checked.prog.liftsFinal)) = true := by kernel_rfl
theorem formulaCases_k28 : ((Tryz.pinned.checked.prog.make == some Rows.formulaCasesRow.make)) = true := by kernel_rfl
theorem formulaCases_k29 : ((Rows.formulaCasesRow.kinds == (if Rows.formulaCasesRow.domain.isEmpty then [] else Tryz.f6.params.toList.map fun t => match Tryz.pinned.checked.prog.underlying t with | some (.int k) => some k | _ => none))) = true := by kernel_rfl
theorem formulaCases_k30 : ((Rows.formulaCasesRow.pinned == Rows.formulaCasesRow.pinnedBy)) = true := by kernel_rfl
theorem formulaCases_k31 : ((Rows.formulaCasesRow.veiled == (Tryz.f6.params.toList ++ Rows.formulaCasesSpec.plain.varTypes Tryz.pinned.checked.prog ++ Tryz.f6.resultTypes.toList).any (Tryz.pinned.checked.prog.veiledRec ·))) = true := by kernel_rfl
theorem formulaCases_k32 : (Rows.formulaCasesRow.veiledFits Tryz.pinned.checked.prog Tryz.f6.params.toList (Tryz.f6.params.toList ++ Rows.formulaCasesSpec.plain.varTypes Tryz.pinned.checked.prog ++ Tryz.f6.resultTypes.toList)) = true := by kernel_rfl
theorem formulaCases_closed : joinedFacts Tryz.pinned.checked.prog 6 Tryz.f6 Rows.formulaCasesSpec Rows.formulaCasesRow = true := joined_of formulaCases_k1 kp2 kp3 formulaCases_k4 formulaCases_k5 formulaCases_k6 kp7 formulaCases_k8 kp9 formulaCases_k10 formulaCases_k11 formulaCases_k12 formulaCases_k13 formulaCases_k14 formulaCases_k15 formulaCases_k16 formulaCases_k17 formulaCases_k18 formulaCases_k19 formulaCases_k20 formulaCases_k21 formulaCases_k22 formulaCases_k23 formulaCases_k24 kp25 kp26 formulaCases_k27 formulaCases_k28 formulaCases_k29 formulaCases_k30 formulaCases_k31 formulaCases_k32
theorem formulaCases_named : Tryz.pinned.checked.prog.funcNamed Rows.formulaCasesRow.func = some 6 := by kernel_rfl
theorem formulaCases_instance : Tryz.f6.isInstance Tryz.pinned.checked.prog Rows.formulaCasesRow.origin Rows.formulaCasesRow.targs := (of_decide_eq_true (by kernel_rfl))
theorem formulaCases_wrapper : Tryz.f6.isWrapper Tryz.pinned.checked.prog Rows.formulaCasesRow.wrapper Rows.formulaCasesRow.mainSum := (by unfold Func.isWrapper; first | (rw [if_pos (by decide +kernel)]; kernel_rfl) | (rw [if_neg (by decide +kernel)]; exact ⟨rfl, rfl⟩))
theorem formulaCases_byText : Rows.formulaCasesRow.wfByText (OpenSpec.ofChange Rows.formulaCasesSpec) = true := by kernel_rfl
theorem formulaCases_goes : false = Rows.formulaCasesRow.goesBy Tryz.pinned.checked.prog := by kernel_rfl
theorem formulaCases_wants : ∀ t ∈ [60], Tryz.pinned.checked.prog.wantsStandIn t = false := fun t hm => by
  have hall : ([60].all fun u => !Tryz.prog.wantsStandIn u) = true := by kernel_rfl
  exact (show Tryz.prog.wantsStandIn t = false by simpa using List.all_eq_true.1 hall t hm)
end Go.Proofs.YtjimmpldofoimaaGreatDoor
