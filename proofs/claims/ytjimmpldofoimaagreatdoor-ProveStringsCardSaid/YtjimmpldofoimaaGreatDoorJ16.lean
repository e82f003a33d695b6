/- The facts of the row proveStrings, each by the kernel. -/
import Derived.Test.YtjimmpldofoimaaGreatDoorJ0
set_option linter.unusedVariables false
set_option linter.unusedSimpArgs false
namespace Go.Proofs.YtjimmpldofoimaaGreatDoor
open Go
set_option maxRecDepth 100000
theorem proveStrings_k1 : (Rows.proveStringsRow.wf (OpenSpec.ofChange Rows.proveStringsSpec)) = true := by kernel_rfl
theorem proveStrings_k4 : (Tryz.f17.params.all (Tryz.pinned.checked.prog.readableRec ·)) = true := by kernel_rfl
theorem proveStrings_k5 : (namedTie Tryz.pinned.checked.prog Rows.proveStringsRow.named Rows.proveStringsSpec.vars) = true := by kernel_rfl
theorem proveStrings_k6 : ((Rows.proveStringsRow.stops == [])) = true := by kernel_rfl
theorem proveStrings_k8 : ((Rows.proveStringsRow.knobs == [])) = true := by kernel_rfl
theorem proveStrings_k10 : ((Rows.proveStringsRow.inPlace == Tryz.pinned.checked.prog.inPlace 17)) = true := by kernel_rfl
theorem proveStrings_k11 : ((Rows.proveStringsRow.unfollowed == Tryz.pinned.checked.prog.unfollowed 17)) = true := by kernel_rfl
theorem proveStrings_k12 : ((Rows.proveStringsRow.recurses == Tryz.pinned.checked.prog.recurses 17)) = true := by kernel_rfl
theorem proveStrings_k13 : ((Rows.proveStringsRow.named == Tryz.pinned.checked.prog.varsNamed 17)) = true := by kernel_rfl
theorem proveStrings_k14 : ((Rows.proveStringsRow.maps == (Tryz.f17.params.toList ++ Rows.proveStringsSpec.plain.varTypes Tryz.pinned.checked.prog).any (Tryz.pinned.checked.prog.mapsRec ·))) = true := by kernel_rfl
theorem proveStrings_k15 : ((Rows.proveStringsRow.ifaces == (Tryz.f17.params.toList ++ Rows.proveStringsSpec.plain.varTypes Tryz.pinned.checked.prog).any (Tryz.pinned.checked.prog.ifacesRec ·))) = true := by kernel_rfl
theorem proveStrings_k16 : ((Rows.proveStringsRow.mapsOut == Tryz.pinned.checked.prog.mapsAmong Tryz.f17.resultTypes.toList)) = true := by kernel_rfl
theorem proveStrings_k17 : ((Rows.proveStringsRow.loops == (Tryz.f17.params.toList ++ Rows.proveStringsSpec.plain.varTypes Tryz.pinned.checked.prog).any (Tryz.pinned.checked.prog.loopsFrom ·))) = true := by kernel_rfl
theorem proveStrings_k18 : ((Rows.proveStringsRow.wideKeys == (Tryz.f17.params.toList ++ Rows.proveStringsSpec.plain.varTypes Tryz.pinned.checked.prog ++ Tryz.f17.resultTypes.toList).any (Tryz.pinned.checked.prog.wideKeysFrom ·))) = true := by kernel_rfl
theorem proveStrings_k19 : (Rows.proveStringsSpec.vars.all (Tryz.pinned.checked.prog.varReadable ·)) = true := by kernel_rfl
theorem proveStrings_k20 : (Tryz.f17.resultTypes.all (fun t => Tryz.pinned.checked.prog.readableRec t && decide (t < Tryz.pinned.checked.prog.types.size))) = true := by kernel_rfl
theorem proveStrings_k21 : ((Rows.proveStringsRow.ifacesOut == Tryz.f17.resultTypes.toList.any (Tryz.pinned.checked.prog.ifacesRec ·))) = true := by kernel_rfl
theorem proveStrings_k22 : ((Rows.proveStringsRow.loopsOut == Tryz.f17.resultTypes.toList.any (Tryz.pinned.checked.prog.loopsFrom ·))) = true := by kernel_rfl
theorem proveStrings_k23 : ((Rows.proveStringsRow.plainKeys == Tryz.pinned.checked.prog.plainKeys)) = true := by kernel_rfl
theorem proveStrings_k24 : (Rows.proveStringsRow.shortTexts.isNone) = true := by kernel_rfl
theorem proveStrings_k27 : ((Rows.proveStringsRow.lifted == Tryz.pinned.checked.prog.liftsFinal)) = true := by kernel_rfl
theorem proveStrings_k28 : ((Tryz.pinned.checked.prog.make == some Rows.proveStringsRow.make)) = true := by kernel_rfl
theorem proveStrings_k29 : ((Rows.proveStringsRow.kinds == (if Rows.proveStringsRow.domain.isEmpty then [] else Tryz.f17.params.toList.map fun t => match Tryz.pinned.checked.prog.underlying t with | some (.int k) => some k | _ => none))) = true := by kernel_rfl
theorem proveStrings_k30 : ((Rows.proveStringsRow.pinned == Rows.proveStringsRow.pinnedBy)) = true := by kernel_rfl
theorem proveStrings_k31 : ((Rows.proveStringsRow.veiled == (Tryz.f17.params.toList ++ Rows.proveStringsSpec.plain.varTypes Tryz.pinned.checked.prog ++ Tryz.f17.resultTypes.toList).any (Tryz.pinned.checked.prog.veiledRec ·))) = true := by kernel_rfl
theorem proveStrings_k32 : (Rows.proveStringsRow.veiledFits Tryz.pinned.checked.prog Tryz.f17.params.toList (Tryz.f17.params.toList ++ Rows.proveStringsSpec.plain.varTypes Tryz.pinned.checked.prog ++ Tryz.f17.resultTypes.toList)) = true := by kernel_rfl
theorem proveStrings_closed : joinedFacts Tryz.pinned.checked.prog 17 Tryz.f17 Rows.proveStringsSpec Rows.proveStringsRow = true := joined_of proveStrings_k1 kp2 kp3 proveStrings_k4 proveStrings_k5 proveStrings_k6 kp7 proveStrings_k8 kp9 proveStrings_k10 proveStrings_k11 proveStrings_k12 proveStrings_k13 proveStrings_k14 proveStrings_k15 proveStrings_k16 proveStrings_k17 proveStrings_k18 proveStrings_k19 proveStrings_k20 proveStrings_k21 proveStrings_k22 proveStrings_k23 proveStrings_k24 kp25 kp26 proveStrings_k27 proveStrings_k28 proveStrings_k29 proveStrings_k30 proveStrings_k31 proveStrings_k32
theorem proveStrings_named : Tryz.pinned.checked.prog.funcNamed Rows.proveStringsRow.func = some 17 := by kernel_rfl
theorem proveStrings_instance : Tryz.f17.isInstance Tryz.pinned.checked.prog Rows.proveStringsRow.origin Rows.proveStringsRow.targs := (of_decide_eq_true (by kernel_rfl))
theorem proveStrings_wrapper : Tryz.f17.isWrapper Tryz.pinned.checked.prog Rows.proveStringsRow.wrapper Rows.proveStringsRow.mainSum := (by unfold Func.isWrapper; first | (rw [if_pos (by decide +kernel)]; kernel_rfl) | (rw [if_neg (by decide +kernel)]; exact ⟨rfl, rfl⟩))
theorem proveStrings_byText : Rows.proveStringsRow.wfByText (OpenSpec.ofChange Rows.proveStringsSpec) = true := by kernel_rfl
theorem proveStrings_goes : false = Rows.proveStringsRow.goesBy Tryz.pinned.checked.prog := by kernel_rfl
theorem proveStrings_wants : ∀ t ∈ [25,3,9], Tryz.pinned.checked.prog.wantsStandIn t = false := fun t hm => by
  have hall : ([25,3,9].all fun u => !Tryz.prog.wantsStandIn u) = true := by kernel_rfl
  exact (show Tryz.prog.wantsStandIn t = false by simpa using List.all_eq_true.1 hall t hm)
end Go.Proofs.YtjimmpldofoimaaGreatDoor
