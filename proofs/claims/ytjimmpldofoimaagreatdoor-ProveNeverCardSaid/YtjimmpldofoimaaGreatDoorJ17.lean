import Derived.Test.YtjimmpldofoimaaGreatDoorJ0
set_option linter.unusedVariables false
set_option linter.unusedSimpArgs false
namespace Go.Proofs.YtjimmpldofoimaaGreatDoor
open Go
set_option maxRecDepth 100000
theorem proveNever_k1 : (Rows.proveNeverRow.wf (OpenSpec.ofChange Rows.proveNeverSpec)) = true := by kernel_rfl
theorem proveNever_k4 : (Tryz.f15.params.all (Tryz.pinned.checked.prog.readableRec ·)) = true := by kernel_rfl
theorem proveNever_k5 : (namedTie Tryz.pinned.checked.prog Rows.proveNeverRow.named Rows.proveNeverSpec.vars) = true := by kernel_rfl
theorem proveNever_k6 : ((Rows.proveNeverRow.stops == [])) = true := by kernel_rfl
theorem proveNever_k8 : ((Rows.proveNeverRow.knobs == [])) = true := by kernel_rfl
theorem proveNever_k10 : ((Rows.proveNeverRow.inPlace == Tryz.pinned.checked.prog.inPlace 15)) = true := by kernel_rfl
theorem proveNever_k11 : ((Rows.proveNeverRow.unfollowed == Tryz.pinned.checked.prog.unfollowed 15)) = true := by kernel_rfl
theorem proveNever_k12 : ((Rows.proveNeverRow.recurses == Tryz.pinned.checked.prog.recurses 15)) = true := by kernel_rfl
theorem proveNever_k13 : ((Rows.proveNeverRow.named == Tryz.pinned.checked.prog.varsNamed 15)) = true := by kernel_rfl
theorem proveNever_k14 : ((Rows.proveNeverRow.maps == (Tryz.f15.params.toList ++ Rows.proveNeverSpec.plain.varTypes Tryz.pinned.checked.prog).any (Tryz.pinned.checked.prog.mapsRec ·))) = true := by kernel_rfl
theorem proveNever_k15 : ((Rows.proveNeverRow.ifaces == (Tryz.f15.params.toList ++ Rows.proveNeverSpec.plain.varTypes Tryz.pinned.checked.prog).any (Tryz.pinned.checked.prog.ifacesRec ·))) = true := by kernel_rfl
theorem proveNever_k16 : ((Rows.proveNeverRow.mapsOut == Tryz.pinned.checked.prog.mapsAmong Tryz.f15.resultTypes.toList)) = true := by kernel_rfl
theorem proveNever_k17 : ((Rows.proveNeverRow.loops == (Tryz.f15.params.toList ++ Rows.proveNeverSpec.plain.varTypes Tryz.pinned.checked.prog).any (Tryz.pinned.checked.prog.loopsFrom ·))) = true := by kernel_rfl
theorem proveNever_k18 : ((Rows.proveNeverRow.wideKeys == (Tryz.f15.params.toList ++ Rows.proveNeverSpec.plain.varTypes Tryz.pinned.checked.prog ++ Tryz.f15.resultTypes.toList).any (Tryz.pinned.checked.prog.wideKeysFrom ·))) = true := by kernel_rfl
theorem proveNever_k19 : (Rows.proveNeverSpec.vars.all (Tryz.pinned.checked.prog.varReadable ·)) = true := by kernel_rfl
theorem proveNever_k20 : (Tryz.f15.resultTypes.all (fun t => Tryz.pinned.checked.prog.readableRec t && decide (t < Tryz.pinned.checked.prog.types.size))) = true := by kernel_rfl
theorem proveNever_k21 : ((Rows.proveNeverRow.ifacesOut == Tryz.f15.resultTypes.toList.any (Tryz.pinned.checked.prog.ifacesRec ·))) = true := by kernel_rfl
theorem proveNever_k22 : ((Rows.proveNeverRow.loopsOut == Tryz.f15.resultTypes.toList.any (Tryz.pinned.checked.prog.loopsFrom ·))) = true := by kernel_rfl
theorem proveNever_k23 : ((Rows.proveNeverRow.plainKeys == Tryz.pinned.checked.prog.plainKeys)) = true := by kernel_rfl
theorem proveNever_k24 : (Rows.proveNeverRow.shortTexts.isNone) = true := by kernel_rfl
theorem proveNever_k27 : ((Rows.proveNeverRow.lifted == Tryz.pinned.checked.prog.liftsFinal)) = true := by kernel_rfl
theorem proveNever_k28 : ((Tryz.pinned.checked.prog.make == some Rows.proveNeverRow.make)) = true := by kernel_rfl
theorem proveNever_k29 : ((Rows.proveNeverRow.kinds == (if Rows.proveNeverRow.domain.isEmpty then [] else Tryz.f15.params.toList.map fun t => match Tryz.pinned.checked.prog.underlying t with | some (.int k) => some k | _ => none))) = true := by kernel_rfl
theorem proveNever_k30 : ((Rows.proveNeverRow.pinned == Rows.proveNeverRow.pinnedBy)) = true := by kernel_rfl
theorem proveNever_k31 : ((Rows.proveNeverRow.veiled == (Tryz.f15.params.toList ++ Rows.proveNeverSpec.plain.varTypes Tryz.pinned.checked.prog ++ Tryz.f15.resultTypes.toList).any (Tryz.pinned.checked.prog.veiledRec ·))) = true := by kernel_rfl
theorem proveNever_k32 : (Rows.proveNeverRow.veiledFits Tryz.pinned.checked.prog Tryz.f15.params.toList (Tryz.f15.params.toList ++ Rows.proveNeverSpec.plain.varTypes Tryz.pinned.checked.prog ++ Tryz.f15.resultTypes.toList)) = true := by kernel_rfl
theorem proveNever_closed : joinedFacts Tryz.pinned.checked.prog 15 Tryz.f15 Rows.proveNeverSpec Rows.proveNeverRow = true := joined_of proveNever_k1 kp2 kp3 proveNever_k4 proveNever_k5 proveNever_k6 kp7 proveNever_k8 kp9 proveNever_k10 proveNever_k11 proveNever_k12 proveNever_k13 proveNever_k14 proveNever_k15 proveNever_k16 proveNever_k17 proveNever_k18 proveNever_k19 proveNever_k20 proveNever_k21 proveNever_k22 proveNever_k23 proveNever_k24 kp25 kp26 proveNever_k27 proveNever_k28 proveNever_k29 proveNever_k30 proveNever_k31 proveNever_k32
theorem proveNever_named : Tryz.pinned.checked.prog.funcNamed Rows.proveNeverRow.func = some 15 := by kernel_rfl
theorem proveNever_instance : Tryz.f15.isInstance Tryz.pinned.checked.prog Rows.proveNeverRow.origin Rows.proveNeverRow.targs := (of_decide_eq_true (by kernel_rfl))
theorem proveNever_wrapper : Tryz.f15.isWrapper Tryz.pinned.checked.prog Rows.proveNeverRow.wrapper Rows.proveNeverRow.mainSum := (by unfold Func.isWrapper; first | (rw [if_pos (by decide +kernel)]; kernel_rfl) | (rw [if_neg (by decide +kernel)]; exact ⟨rfl, rfl⟩))
theorem proveNever_byText : Rows.proveNeverRow.wfByText (OpenSpec.ofChange Rows.proveNeverSpec) = true := by kernel_rfl
theorem proveNever_goes : false = Rows.proveNeverRow.goesBy Tryz.pinned.checked.prog := by kernel_rfl
theorem proveNever_wants : ∀ t ∈ [60,46,25], Tryz.pinned.checked.prog.wantsStandIn t = false := fun t hm => by
 have hall : ([60,46,25].all fun u => !Tryz.prog.wantsStandIn u) = true := by kernel_rfl
 exact (show Tryz.prog.wantsStandIn t = false by simpa using List.all_eq_true.1 hall t hm)
end Go.Proofs.YtjimmpldofoimaaGreatDoor
