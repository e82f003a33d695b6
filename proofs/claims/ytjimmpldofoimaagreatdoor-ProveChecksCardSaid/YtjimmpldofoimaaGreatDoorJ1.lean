/- The facts of the row proveChecks, each by the kernel. -/
import Derived.Test.YtjimmpldofoimaaGreatDoorJ0
set_option linter.unusedVariables false
set_option linter.unusedSimpArgs false
namespace Go.Proofs.YtjimmpldofoimaaGreatDoor
open Go
set_option maxRecDepth 100000
theorem proveChecks_k1 : (Rows.proveChecksRow.wf (OpenSpec.ofChange Rows.proveChecksSpec)) = true := by kernel_rfl
theorem proveChecks_k4 : (Tryz.f3.params.all (Tryz.pinned.checked.prog.readableRec ·)) = true := by kernel_rfl
theorem proveChecks_k5 : (namedTie Tryz.pinned.checked.prog Rows.proveChecksRow.named Rows.proveChecksSpec.vars) = true := by kernel_rfl
theorem proveChecks_k6 : ((Rows.proveChecksRow.stops == [])) = true := by kernel_rfl
theorem proveChecks_k8 : ((Rows.proveChecksRow.knobs == [])) = true := by kernel_rfl
theorem proveChecks_k10 : ((Rows.proveChecksRow.inPlace == Tryz.pinned.checked.prog.inPlace 3)) = true := by kernel_rfl
theorem proveChecks_k11 : ((Rows.proveChecksRow.unfollowed == Tryz.pinned.checked.prog.unfollowed 3)) = true := by kernel_rfl
theorem proveChecks_k12 : ((Rows.proveChecksRow.recurses == Tryz.pinned.checked.prog.recurses 3)) = true := by kernel_rfl
theorem proveChecks_k13 : ((Rows.proveChecksRow.named == Tryz.pinned.checked.prog.varsNamed 3)) = true := by kernel_rfl
theorem proveChecks_k14 : ((Rows.proveChecksRow.maps == (Tryz.f3.params.toList ++ Rows.proveChecksSpec.plain.varTypes Tryz.pinned.checked.prog).any (Tryz.pinned.checked.prog.mapsRec ·))) = true := by kernel_rfl
theorem proveChecks_k15 : ((Rows.proveChecksRow.ifaces == (Tryz.f3.params.toList ++ Rows.proveChecksSpec.plain.varTypes Tryz.pinned.checked.prog).any (Tryz.pinned.checked.prog.ifacesRec ·))) = true := by kernel_rfl
theorem proveChecks_k16 : ((Rows.proveChecksRow.mapsOut == Tryz.pinned.checked.prog.mapsAmong Tryz.f3.resultTypes.toList)) = true := by kernel_rfl
theorem proveChecks_k17 : ((Rows.proveChecksRow.loops == (Tryz.f3.params.toList ++ Rows.proveChecksSpec.plain.varTypes Tryz.pinned.checked.prog).any (Tryz.pinned.checked.prog.loopsFrom ·))) = true := by kernel_rfl
theorem proveChecks_k18 : ((Rows.proveChecksRow.wideKeys == (Tryz.f3.params.toList ++ Rows.proveChecksSpec.plain.varTypes Tryz.pinned.checked.prog ++ Tryz.f3.resultTypes.toList).any (Tryz.pinned.checked.prog.wideKeysFrom ·))) = true := by kernel_rfl
theorem proveChecks_k19 : (Rows.proveChecksSpec.vars.all (Tryz.pinned.checked.prog.varReadable ·)) = true := by kernel_rfl
theorem proveChecks_k20 : (Tryz.f3.resultTypes.all (fun t => Tryz.pinned.checked.prog.readableRec t && decide (t < Tryz.pinned.checked.prog.types.size))) = true := by kernel_rfl
theorem proveChecks_k21 : ((Rows.proveChecksRow.ifacesOut == Tryz.f3.resultTypes.toList.any (Tryz.pinned.checked.prog.ifacesRec ·))) = true := by kernel_rfl
theorem proveChecks_k22 : ((Rows.proveChecksRow.loopsOut == Tryz.f3.resultTypes.toList.any (Tryz.pinned.checked.prog.loopsFrom ·))) = true := by kernel_rfl
theorem proveChecks_k23 : ((Rows.proveChecksRow.plainKeys == Tryz.pinned.checked.prog.plainKeys)) = true := by kernel_rfl
theorem proveChecks_k24 : (Rows.proveChecksRow.shortTexts.isNone) = true := by kernel_rfl
theorem proveChecks_k27 : ((Rows.proveChecksRow.lifted == Tryz.pinned.checked.prog.liftsFinal)) = true := by kernel_rfl
theorem proveChecks_k28 : ((Tryz.pinned.checked.prog.make == some Rows.proveChecksRow.make)) = true := by kernel_rfl
theorem proveChecks_k29 : ((Rows.proveChecksRow.kinds == (if Rows.proveChecksRow.domain.isEmpty then [] else Tryz.f3.params.toList.map fun t => match Tryz.pinned.checked.prog.underlying t with | some (.int k) => some k | _ => none))) = true := by kernel_rfl
theorem proveChecks_k30 : ((Rows.proveChecksRow.pinned == Rows.proveChecksRow.pinnedBy)) = true := by kernel_rfl
theorem proveChecks_k31 : ((Rows.proveChecksRow.veiled == (Tryz.f3.params.toList ++ Rows.proveChecksSpec.plain.varTypes Tryz.pinned.checked.prog ++ Tryz.f3.resultTypes.toList).any (Tryz.pinned.checked.prog.veiledRec ·))) = true := by kernel_rfl
theorem proveChecks_k32 : (Rows.proveChecksRow.veiledFits Tryz.pinned.checked.prog Tryz.f3.params.toList (Tryz.f3.params.toList ++ Rows.proveChecksSpec.plain.varTypes Tryz.pinned.checked.prog ++ Tryz.f3.resultTypes.toList)) = true := by kernel_rfl
theorem proveChecks_closed : joinedFacts Tryz.pinned.checked.prog 3 Tryz.f3 Rows.proveChecksSpec Rows.proveChecksRow = true := joined_of proveChecks_k1 kp2 kp3 proveChecks_k4 proveChecks_k5 proveChecks_k6 kp7 proveChecks_k8 kp9 proveChecks_k10 proveChecks_k11 proveChecks_k12 proveChecks_k13 proveChecks_k14 proveChecks_k15 proveChecks_k16 proveChecks_k17 proveChecks_k18 proveChecks_k19 proveChecks_k20 proveChecks_k21 proveChecks_k22 proveChecks_k23 proveChecks_k24 kp25 kp26 proveChecks_k27 proveChecks_k28 proveChecks_k29 proveChecks_k30 proveChecks_k31 proveChecks_k32
theorem proveChecks_named : Tryz.pinned.checked.prog.funcNamed Rows.proveChecksRow.func = some 3 := by kernel_rfl
theorem proveChecks_instance : Tryz.f3.isInstance Tryz.pinned.checked.prog Rows.proveChecksRow.origin Rows.proveChecksRow.targs := (of_decide_eq_true (by kernel_rfl))
theorem proveChecks_wrapper : Tryz.f3.isWrapper Tryz.pinned.checked.prog Rows.proveChecksRow.wrapper Rows.proveChecksRow.mainSum := (by unfold Func.isWrapper; first | (rw [if_pos (by decide +kernel)]; kernel_rfl) | (rw [if_neg (by decide +kernel)]; exact ⟨rfl, rfl⟩))
theorem proveChecks_byText : Rows.proveChecksRow.wfByText (OpenSpec.ofChange Rows.proveChecksSpec) = true := by kernel_rfl
theorem proveChecks_goes : false = Rows.proveChecksRow.goesBy Tryz.pinned.checked.prog := by kernel_rfl
theorem proveChecks_wants : ∀ t ∈ [22,25,3], Tryz.pinned.checked.prog.wantsStandIn t = false := fun t hm => by
  have hall : ([22,25,3].all fun u => !Tryz.prog.wantsStandIn u) = true := by kernel_rfl
  exact (show Tryz.prog.wantsStandIn t = false by simpa using List.all_eq_true.1 hall t hm)
end Go.Proofs.YtjimmpldofoimaaGreatDoor
