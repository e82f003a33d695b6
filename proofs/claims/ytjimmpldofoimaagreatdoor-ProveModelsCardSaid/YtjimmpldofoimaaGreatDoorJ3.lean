/- The facts of the row proveModels, each by the kernel. -/
import Derived.Test.YtjimmpldofoimaaGreatDoorJ0
set_option linter.unusedVariables false
set_option linter.unusedSimpArgs false
namespace Go.Proofs.YtjimmpldofoimaaGreatDoor
open Go
set_option maxRecDepth 100000
theorem proveModels_k1 : (Rows.proveModelsRow.wf (OpenSpec.ofChange Rows.proveModelsSpec)) = true := by kernel_rfl
theorem proveModels_k4 : (Tryz.f11.params.all (Tryz.pinned.checked.prog.readableRec ·)) = true := by kernel_rfl
theorem proveModels_k5 : (namedTie Tryz.pinned.checked.prog Rows.proveModelsRow.named Rows.proveModelsSpec.vars) = true := by kernel_rfl
theorem proveModels_k6 : ((Rows.proveModelsRow.stops == [])) = true := by kernel_rfl
theorem proveModels_k8 : ((Rows.proveModelsRow.knobs == [])) = true := by kernel_rfl
theorem proveModels_k10 : ((Rows.proveModelsRow.inPlace == Tryz.pinned.checked.prog.inPlace 11)) = true := by kernel_rfl
theorem proveModels_k11 : ((Rows.proveModelsRow.unfollowed == Tryz.pinned.checked.prog.unfollowed 11)) = true := by kernel_rfl
theorem proveModels_k12 : ((Rows.proveModelsRow.recurses == Tryz.pinned.checked.prog.recurses 11)) = true := by kernel_rfl
theorem proveModels_k13 : ((Rows.proveModelsRow.named == Tryz.pinned.checked.prog.varsNamed 11)) = true := by kernel_rfl
theorem proveModels_k14 : ((Rows.proveModelsRow.maps == (Tryz.f11.params.toList ++ Rows.proveModelsSpec.plain.varTypes Tryz.pinned.checked.prog).any (Tryz.pinned.checked.prog.mapsRec ·))) = true := by kernel_rfl
theorem proveModels_k15 : ((Rows.proveModelsRow.ifaces == (Tryz.f11.params.toList ++ Rows.proveModelsSpec.plain.varTypes Tryz.pinned.checked.prog).any (Tryz.pinned.checked.prog.ifacesRec ·))) = true := by kernel_rfl
theorem proveModels_k16 : ((Rows.proveModelsRow.mapsOut == Tryz.pinned.checked.prog.mapsAmong Tryz.f11.resultTypes.toList)) = true := by kernel_rfl
theorem proveModels_k17 : ((Rows.proveModelsRow.loops == (Tryz.f11.params.toList ++ Rows.proveModelsSpec.plain.varTypes Tryz.pinned.checked.prog).any (Tryz.pinned.checked.prog.loopsFrom ·))) = true := by kernel_rfl
theorem proveModels_k18 : ((Rows.proveModelsRow.wideKeys == (Tryz.f11.params.toList ++ Rows.proveModelsSpec.plain.varTypes Tryz.pinned.checked.prog ++ Tryz.f11.resultTypes.toList).any (Tryz.pinned.checked.prog.wideKeysFrom ·))) = true := by kernel_rfl
theorem proveModels_k19 : (Rows.proveModelsSpec.vars.all (Tryz.pinned.checked.prog.varReadable ·)) = true := by kernel_rfl
theorem proveModels_k20 : (Tryz.f11.resultTypes.all (fun t => Tryz.pinned.checked.prog.readableRec t && decide (t < Tryz.pinned.checked.prog.types.size))) = true := by kernel_rfl
theorem proveModels_k21 : ((Rows.proveModelsRow.ifacesOut == Tryz.f11.resultTypes.toList.any (Tryz.pinned.checked.prog.ifacesRec ·))) = true := by kernel_rfl
theorem proveModels_k22 : ((Rows.proveModelsRow.loopsOut == Tryz.f11.resultTypes.toList.any (Tryz.pinned.checked.prog.loopsFrom ·))) = true := by kernel_rfl
theorem proveModels_k23 : ((Rows.proveModelsRow.plainKeys == Tryz.pinned.checked.prog.plainKeys)) = true := by kernel_rfl
theorem proveModels_k24 : (Rows.proveModelsRow.shortTexts.isNone) = true := by kernel_rfl
theorem proveModels_k27 : ((Rows.proveModelsRow.lifted == Tryz.pinned.checked.prog.liftsFinal)) = true := by kernel_rfl
theorem proveModels_k28 : ((Tryz.pinned.checked.prog.make == some Rows.proveModelsRow.make)) = true := by kernel_rfl
theorem proveModels_k29 : ((Rows.proveModelsRow.kinds == (if Rows.proveModelsRow.domain.isEmpty then [] else Tryz.f11.params.toList.map fun t => match Tryz.pinned.checked.prog.underlying t with | some (.int k) => some k | _ => none))) = true := by kernel_rfl
theorem proveModels_k30 : ((Rows.proveModelsRow.pinned == Rows.proveModelsRow.pinnedBy)) = true := by kernel_rfl
theorem proveModels_k31 : ((Rows.proveModelsRow.veiled == (Tryz.f11.params.toList ++ Rows.proveModelsSpec.plain.varTypes Tryz.pinned.checked.prog ++ Tryz.f11.resultTypes.toList).any (Tryz.pinned.checked.prog.veiledRec ·))) = true := by kernel_rfl
theorem proveModels_k32 : (Rows.proveModelsRow.veiledFits Tryz.pinned.checked.prog Tryz.f11.params.toList (Tryz.f11.params.toList ++ Rows.proveModelsSpec.plain.varTypes Tryz.pinned.checked.prog ++ Tryz.f11.resultTypes.toList)) = true := by kernel_rfl
theorem proveModels_closed : joinedFacts Tryz.pinned.checked.prog 11 Tryz.f11 Rows.proveModelsSpec Rows.proveModelsRow = true := joined_of proveModels_k1 kp2 kp3 proveModels_k4 proveModels_k5 proveModels_k6 kp7 proveModels_k8 kp9 proveModels_k10 proveModels_k11 proveModels_k12 proveModels_k13 proveModels_k14 proveModels_k15 proveModels_k16 proveModels_k17 proveModels_k18 proveModels_k19 proveModels_k20 proveModels_k21 proveModels_k22 proveModels_k23 proveModels_k24 kp25 kp26 proveModels_k27 proveModels_k28 proveModels_k29 proveModels_k30 proveModels_k31 proveModels_k32
theorem proveModels_named : Tryz.pinned.checked.prog.funcNamed Rows.proveModelsRow.func = some 11 := by kernel_rfl
theorem proveModels_instance : Tryz.f11.isInstance Tryz.pinned.checked.prog Rows.proveModelsRow.origin Rows.proveModelsRow.targs := (of_decide_eq_true (by kernel_rfl))
theorem proveModels_wrapper : Tryz.f11.isWrapper Tryz.pinned.checked.prog Rows.proveModelsRow.wrapper Rows.proveModelsRow.mainSum := (by unfold Func.isWrapper; first | (rw [if_pos (by decide +kernel)]; kernel_rfl) | (rw [if_neg (by decide +kernel)]; exact ⟨rfl, rfl⟩))
theorem proveModels_byText : Rows.proveModelsRow.wfByText (OpenSpec.ofChange Rows.proveModelsSpec) = true := by kernel_rfl
theorem proveModels_goes : false = Rows.proveModelsRow.goesBy Tryz.pinned.checked.prog := by kernel_rfl
theorem proveModels_wants : ∀ t ∈ [22,45,46], Tryz.pinned.checked.prog.wantsStandIn t = false := fun t hm => by
  have hall : ([22,45,46].all fun u => !Tryz.prog.wantsStandIn u) = true := by kernel_rfl
  exact (show Tryz.prog.wantsStandIn t = false by simpa using List.all_eq_true.1 hall t hm)
end Go.Proofs.YtjimmpldofoimaaGreatDoor
