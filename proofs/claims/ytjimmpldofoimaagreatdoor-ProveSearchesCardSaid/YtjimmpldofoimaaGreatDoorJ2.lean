/- The facts of the row proveSearches, each by the kernel. -/
import Derived.Test.YtjimmpldofoimaaGreatDoorJ0
set_option linter.unusedVariables false
set_option linter.unusedSimpArgs false
namespace Go.Proofs.YtjimmpldofoimaaGreatDoor
open Go
set_option maxRecDepth 100000
theorem proveSearches_k1 : (Rows.proveSearchesRow.wf (OpenSpec.ofChange Rows.proveSearchesSpec)) = true := by kernel_rfl
theorem proveSearches_k4 : (Tryz.f4.params.all (Tryz.pinned.checked.prog.readableRec ·)) = true := by kernel_rfl
theorem proveSearches_k5 : (namedTie Tryz.pinned.checked.prog Rows.proveSearchesRow.named Rows.proveSearchesSpec.vars) = true := by kernel_rfl
theorem proveSearches_k6 : ((Rows.proveSearchesRow.stops == [])) = true := by kernel_rfl
theorem proveSearches_k8 : ((Rows.proveSearchesRow.knobs == [])) = true := by kernel_rfl
theorem proveSearches_k10 : ((Rows.proveSearchesRow.inPlace == Tryz.pinned.checked.prog.inPlace 4)) = true := by kernel_rfl
theorem proveSearches_k11 : ((Rows.proveSearchesRow.unfollowed == Tryz.pinned.checked.prog.unfollowed 4)) = true := by kernel_rfl
theorem proveSearches_k12 : ((Rows.proveSearchesRow.recurses == Tryz.pinned.checked.prog.recurses 4)) = true := by kernel_rfl
theorem proveSearches_k13 : ((Rows.proveSearchesRow.named == Tryz.pinned.checked.prog.varsNamed 4)) = true := by kernel_rfl
theorem proveSearches_k14 : ((Rows.proveSearchesRow.maps == (Tryz.f4.params.toList ++ Rows.proveSearchesSpec.plain.varTypes Tryz.pinned.checked.prog).any (Tryz.pinned.checked.prog.mapsRec ·))) = true := by kernel_rfl
theorem proveSearches_k15 : ((Rows.proveSearchesRow.ifaces == (Tryz.f4.params.toList ++ Rows.proveSearchesSpec.plain.varTypes Tryz.pinned.checked.prog).any (Tryz.pinned.checked.prog.ifacesRec ·))) = true := by kernel_rfl
theorem proveSearches_k16 : ((Rows.proveSearchesRow.mapsOut == Tryz.pinned.checked.prog.mapsAmong Tryz.f4.resultTypes.toList)) = true := by kernel_rfl
theorem proveSearches_k17 : ((Rows.proveSearchesRow.loops == (Tryz.f4.params.toList ++ Rows.proveSearchesSpec.plain.varTypes Tryz.pinned.checked.prog).any (Tryz.pinned.checked.prog.loopsFrom ·))) = true := by kernel_rfl
theorem proveSearches_k18 : ((Rows.proveSearchesRow.wideKeys == (Tryz.f4.params.toList ++ Rows.proveSearchesSpec.plain.varTypes Tryz.pinned.checked.prog ++ Tryz.f4.resultTypes.toList).any (Tryz.pinned.checked.prog.wideKeysFrom ·))) = true := by kernel_rfl
theorem proveSearches_k19 : (Rows.proveSearchesSpec.vars.all (Tryz.pinned.checked.prog.varReadable ·)) = true := by kernel_rfl
theorem proveSearches_k20 : (Tryz.f4.resultTypes.all (fun t => Tryz.pinned.checked.prog.readableRec t && decide (t < Tryz.pinned.checked.prog.types.size))) = true := by kernel_rfl
theorem proveSearches_k21 : ((Rows.proveSearchesRow.ifacesOut == Tryz.f4.resultTypes.toList.any (Tryz.pinned.checked.prog.ifacesRec ·))) = true := by kernel_rfl
theorem proveSearches_k22 : ((Rows.proveSearchesRow.loopsOut == Tryz.f4.resultTypes.toList.any (Tryz.pinned.checked.prog.loopsFrom ·))) = true := by kernel_rfl
theorem proveSearches_k23 : ((Rows.proveSearchesRow.plainKeys == Tryz.pinned.checked.prog.plainKeys)) = true := by kernel_rfl
theorem proveSearches_k24 : (Rows.proveSearchesRow.shortTexts.isNone) = true := by kernel_rfl
theorem proveSearches_k27 : ((Rows.proveSearchesRow.lifted == Tryz.pinned.checked.prog.liftsFinal)) = true := by kernel_rfl
theorem proveSearches_k28 : ((Tryz.pinned.checked.prog.make == some Rows.proveSearchesRow.make)) = true := by kernel_rfl
theorem proveSearches_k29 : ((Rows.proveSearchesRow.kinds == (if Rows.proveSearchesRow.domain.isEmpty then [] else Tryz.f4.params.toList.map fun t => match Tryz.pinned.checked.prog.underlying t with | some (.int k) => some k | _ => none))) = true := by kernel_rfl
theorem proveSearches_k30 : ((Rows.proveSearchesRow.pinned == Rows.proveSearchesRow.pinnedBy)) = true := by kernel_rfl
theorem proveSearches_k31 : ((Rows.proveSearchesRow.veiled == (Tryz.f4.params.toList ++ Rows.proveSearchesSpec.plain.varTypes Tryz.pinned.checked.prog ++ Tryz.f4.resultTypes.toList).any (Tryz.pinned.checked.prog.veiledRec ·))) = true := by kernel_rfl
theorem proveSearches_k32 : (Rows.proveSearchesRow.veiledFits Tryz.pinned.checked.prog Tryz.f4.params.toList (Tryz.f4.params.toList ++ Rows.proveSearchesSpec.plain.varTypes Tryz.pinned.checked.prog ++ Tryz.f4.resultTypes.toList)) = true := by kernel_rfl
theorem proveSearches_closed : joinedFacts Tryz.pinned.checked.prog 4 Tryz.f4 Rows.proveSearchesSpec Rows.proveSearchesRow = true := joined_of proveSearches_k1 kp2 kp3 proveSearches_k4 proveSearches_k5 proveSearches_k6 kp7 proveSearches_k8 kp9 proveSearches_k10 proveSearches_k11 proveSearches_k12 proveSearches_k13 proveSearches_k14 proveSearches_k15 proveSearches_k16 proveSearches_k17 proveSearches_k18 proveSearches_k19 proveSearches_k20 proveSearches_k21 proveSearches_k22 proveSearches_k23 proveSearches_k24 kp25 kp26 proveSearches_k27 proveSearches_k28 proveSearches_k29 proveSearches_k30 proveSearches_k31 proveSearches_k32
theorem proveSearches_named : Tryz.pinned.checked.prog.funcNamed Rows.proveSearchesRow.func = some 4 := by kernel_rfl
theorem proveSearches_instance : Tryz.f4.isInstance Tryz.pinned.checked.prog Rows.proveSearchesRow.origin Rows.proveSearchesRow.targs := (of_decide_eq_true (by kernel_rfl))
theorem proveSearches_wrapper : Tryz.f4.isWrapper Tryz.pinned.checked.prog Rows.proveSearchesRow.wrapper Rows.proveSearchesRow.mainSum := (by unfold Func.isWrapper; first | (rw [if_pos (by decide +kernel)]; kernel_rfl) | (rw [if_neg (by decide +kernel)]; exact ⟨rfl, rfl⟩))
theorem proveSearches_byText : Rows.proveSearchesRow.wfByText (OpenSpec.ofChange Rows.proveSearchesSpec) = true := by kernel_rfl
theorem proveSearches_goes : false = Rows.proveSearchesRow.goesBy Tryz.pinned.checked.prog := by kernel_rfl
theorem proveSearches_wants : ∀ t ∈ [22,45,3], Tryz.pinned.checked.prog.wantsStandIn t = false := fun t hm => by
  have hall : ([22,45,3].all fun u => !Tryz.prog.wantsStandIn u) = true := by kernel_rfl
  exact (show Tryz.prog.wantsStandIn t = false by simpa using List.all_eq_true.1 hall t hm)
end Go.Proofs.YtjimmpldofoimaaGreatDoor
