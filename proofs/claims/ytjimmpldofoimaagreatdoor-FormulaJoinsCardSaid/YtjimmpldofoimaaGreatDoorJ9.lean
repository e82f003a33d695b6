/- The facts of the row formulaJoins, each by the kernel. -/
import Derived.Test.YtjimmpldofoimaaGreatDoorJ0
set_option linter.unusedVariables false
set_option linter.unusedSimpArgs false
namespace Go.Proofs.YtjimmpldofoimaaGreatDoor
open Go
set_option maxRecDepth 100000
theorem formulaJoins_k1 : (Rows.formulaJoinsRow.wf (OpenSpec.ofChange Rows.formulaJoinsSpec)) = true := by kernel_rfl
theorem formulaJoins_k4 : (Tryz.f9.params.all (Tryz.pinned.checked.prog.readableRec ·)) = true := by kernel_rfl
theorem formulaJoins_k5 : (namedTie Tryz.pinned.checked.prog Rows.formulaJoinsRow.named Rows.formulaJoinsSpec.vars) = true := by kernel_rfl
theorem formulaJoins_k6 : ((Rows.formulaJoinsRow.stops == [])) = true := by kernel_rfl
theorem formulaJoins_k8 : ((Rows.formulaJoinsRow.knobs == [])) = true := by kernel_rfl
theorem formulaJoins_k10 : ((Rows.formulaJoinsRow.inPlace == Tryz.pinned.checked.prog.inPlace 9)) = true := by kernel_rfl
theorem formulaJoins_k11 : ((Rows.formulaJoinsRow.unfollowed == Tryz.pinned.checked.prog.unfollowed 9)) = true := by kernel_rfl
theorem formulaJoins_k12 : ((Rows.formulaJoinsRow.recurses == Tryz.pinned.checked.prog.recurses 9)) = true := by kernel_rfl
theorem formulaJoins_k13 : ((Rows.formulaJoinsRow.named == Tryz.pinned.checked.prog.varsNamed 9)) = true := by kernel_rfl
theorem formulaJoins_k14 : ((Rows.formulaJoinsRow.maps == (Tryz.f9.params.toList ++ Rows.formulaJoinsSpec.plain.varTypes Tryz.pinned.checked.prog).any (Tryz.pinned.checked.prog.mapsRec ·))) = true := by kernel_rfl
theorem formulaJoins_k15 : ((Rows.formulaJoinsRow.ifaces == (Tryz.f9.params.toList ++ Rows.formulaJoinsSpec.plain.varTypes Tryz.pinned.checked.prog).any (Tryz.pinned.checked.prog.ifacesRec ·))) = true := by kernel_rfl
theorem formulaJoins_k16 : ((Rows.formulaJoinsRow.mapsOut == Tryz.pinned.checked.prog.mapsAmong Tryz.f9.resultTypes.toList)) = true := by kernel_rfl
theorem formulaJoins_k17 : ((Rows.formulaJoinsRow.loops == (Tryz.f9.params.toList ++ Rows.formulaJoinsSpec.plain.varTypes Tryz.pinned.checked.prog).any (Tryz.pinned.checked.prog.loopsFrom ·))) = true := by kernel_rfl
theorem formulaJoins_k18 : ((Rows.formulaJoinsRow.wideKeys == (Tryz.f9.params.toList ++ Rows.formulaJoinsSpec.plain.varTypes Tryz.pinned.checked.prog ++ Tryz.f9.resultTypes.toList).any (Tryz.pinned.checked.prog.wideKeysFrom ·))) = true := by kernel_rfl
theorem formulaJoins_k19 : (Rows.formulaJoinsSpec.vars.all (Tryz.pinned.checked.prog.varReadable ·)) = true := by kernel_rfl
theorem formulaJoins_k20 : (Tryz.f9.resultTypes.all (fun t => Tryz.pinned.checked.prog.readableRec t && decide (t < Tryz.pinned.checked.prog.types.size))) = true := by kernel_rfl
theorem formulaJoins_k21 : ((Rows.formulaJoinsRow.ifacesOut == Tryz.f9.resultTypes.toList.any (Tryz.pinned.checked.prog.ifacesRec ·))) = true := by kernel_rfl
theorem formulaJoins_k22 : ((Rows.formulaJoinsRow.loopsOut == Tryz.f9.resultTypes.toList.any (Tryz.pinned.checked.prog.loopsFrom ·))) = true := by kernel_rfl
theorem formulaJoins_k23 : ((Rows.formulaJoinsRow.plainKeys == Tryz.pinned.checked.prog.plainKeys)) = true := by kernel_rfl
theorem formulaJoins_k24 : (Rows.formulaJoinsRow.shortTexts.isNone) = true := by kernel_rfl
theorem formulaJoins_k27 : ((Rows.formulaJoinsRow.lifted == Tryz.pinned.checked.prog.liftsFinal)) = true := by kernel_rfl
theorem formulaJoins_k28 : ((Tryz.pinned.checked.prog.make == some Rows.formulaJoinsRow.make)) = true := by kernel_rfl
theorem formulaJoins_k29 : ((Rows.formulaJoinsRow.kinds == (if Rows.formulaJoinsRow.domain.isEmpty then [] else Tryz.f9.params.toList.map fun t => match Tryz.pinned.checked.prog.underlying t with | some (.int k) => some k | _ => none))) = true := by kernel_rfl
theorem formulaJoins_k30 : ((Rows.formulaJoinsRow.pinned == Rows.formulaJoinsRow.pinnedBy)) = true := by kernel_rfl
theorem formulaJoins_k31 : ((Rows.formulaJoinsRow.veiled == (Tryz.f9.params.toList ++ Rows.formulaJoinsSpec.plain.varTypes Tryz.pinned.checked.prog ++ Tryz.f9.resultTypes.toList).any (Tryz.pinned.checked.prog.veiledRec ·))) = true := by kernel_rfl
theorem formulaJoins_k32 : (Rows.formulaJoinsRow.veiledFits Tryz.pinned.checked.prog Tryz.f9.params.toList (Tryz.f9.params.toList ++ Rows.formulaJoinsSpec.plain.varTypes Tryz.pinned.checked.prog ++ Tryz.f9.resultTypes.toList)) = true := by kernel_rfl
theorem formulaJoins_closed : joinedFacts Tryz.pinned.checked.prog 9 Tryz.f9 Rows.formulaJoinsSpec Rows.formulaJoinsRow = true := joined_of formulaJoins_k1 kp2 kp3 formulaJoins_k4 formulaJoins_k5 formulaJoins_k6 kp7 formulaJoins_k8 kp9 formulaJoins_k10 formulaJoins_k11 formulaJoins_k12 formulaJoins_k13 formulaJoins_k14 formulaJoins_k15 formulaJoins_k16 formulaJoins_k17 formulaJoins_k18 formulaJoins_k19 formulaJoins_k20 formulaJoins_k21 formulaJoins_k22 formulaJoins_k23 formulaJoins_k24 kp25 kp26 formulaJoins_k27 formulaJoins_k28 formulaJoins_k29 formulaJoins_k30 formulaJoins_k31 formulaJoins_k32
theorem formulaJoins_named : Tryz.pinned.checked.prog.funcNamed Rows.formulaJoinsRow.func = some 9 := by kernel_rfl
theorem formulaJoins_instance : Tryz.f9.isInstance Tryz.pinned.checked.prog Rows.formulaJoinsRow.origin Rows.formulaJoinsRow.targs := (of_decide_eq_true (by kernel_rfl))
theorem formulaJoins_wrapper : Tryz.f9.isWrapper Tryz.pinned.checked.prog Rows.formulaJoinsRow.wrapper Rows.formulaJoinsRow.mainSum := (by unfold Func.isWrapper; first | (rw [if_pos (by decide +kernel)]; kernel_rfl) | (rw [if_neg (by decide +kernel)]; exact ⟨rfl, rfl⟩))
theorem formulaJoins_byText : Rows.formulaJoinsRow.wfByText (OpenSpec.ofChange Rows.formulaJoinsSpec) = true := by kernel_rfl
theorem formulaJoins_goes : false = Rows.formulaJoinsRow.goesBy Tryz.pinned.checked.prog := by kernel_rfl
theorem formulaJoins_wants : ∀ t ∈ [3,60], Tryz.pinned.checked.prog.wantsStandIn t = false := fun t hm => by
  have hall : ([3,60].all fun u => !Tryz.prog.wantsStandIn u) = true := by kernel_rfl
  exact (show Tryz.prog.wantsStandIn t = false by simpa using List.all_eq_true.1 hall t hm)
end Go.Proofs.YtjimmpldofoimaaGreatDoor
