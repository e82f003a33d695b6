/- The facts of the row proveTrue, each by the kernel. -/
import Derived.Test.YtjimmpldofoimaaGreatDoorJ0
set_option linter.unusedVariables false
set_option linter.unusedSimpArgs false
namespace Go.Proofs.YtjimmpldofoimaaGreatDoor
open Go
set_option maxRecDepth 100000
theorem proveTrue_k1 : (Rows.proveTrueRow.wf (OpenSpec.ofChange Rows.proveTrueSpec)) = true := by kernel_rfl
theorem proveTrue_k4 : (Tryz.f12.params.all (Tryz.pinned.checked.prog.readableRec ·)) = true := by kernel_rfl
theorem proveTrue_k5 : (namedTie Tryz.pinned.checked.prog Rows.proveTrueRow.named Rows.proveTrueSpec.vars) = true := by kernel_rfl
theorem proveTrue_k6 : ((Rows.proveTrueRow.stops == [])) = true := by kernel_rfl
theorem proveTrue_k8 : ((Rows.proveTrueRow.knobs == [])) = true := by kernel_rfl
theorem proveTrue_k10 : ((Rows.proveTrueRow.inPlace == Tryz.pinned.checked.prog.inPlace 12)) = true := by kernel_rfl
theorem proveTrue_k11 : ((Rows.proveTrueRow.unfollowed == Tryz.pinned.checked.prog.unfollowed 12)) = true := by kernel_rfl
theorem proveTrue_k12 : ((Rows.proveTrueRow.recurses == Tryz.pinned.checked.prog.recurses 12)) = true := by kernel_rfl
theorem proveTrue_k13 : ((Rows.proveTrueRow.named == Tryz.pinned.checked.prog.varsNamed 12)) = true := by kernel_rfl
theorem proveTrue_k14 : ((Rows.proveTrueRow.maps == (Tryz.f12.params.toList ++ Rows.proveTrueSpec.plain.varTypes Tryz.pinned.checked.prog).any (Tryz.pinned.checked.prog.mapsRec ·))) = true := by kernel_rfl
theorem proveTrue_k15 : ((Rows.proveTrueRow.ifaces == (Tryz.f12.params.toList ++ Rows.proveTrueSpec.plain.varTypes Tryz.pinned.checked.prog).any (Tryz.pinned.checked.prog.ifacesRec ·))) = true := by kernel_rfl
theorem proveTrue_k16 : ((Rows.proveTrueRow.mapsOut == Tryz.pinned.checked.prog.mapsAmong Tryz.f12.resultTypes.toList)) = true := by kernel_rfl
theorem proveTrue_k17 : ((Rows.proveTrueRow.loops == (Tryz.f12.params.toList ++ Rows.proveTrueSpec.plain.varTypes Tryz.pinned.checked.prog).any (Tryz.pinned.checked.prog.loopsFrom ·))) = true := by kernel_rfl
theorem proveTrue_k18 : ((Rows.proveTrueRow.wideKeys == (Tryz.f12.params.toList ++ Rows.proveTrueSpec.plain.varTypes Tryz.pinned.checked.prog ++ Tryz.f12.resultTypes.toList).any (Tryz.pinned.checked.prog.wideKeysFrom ·))) = true := by kernel_rfl
theorem proveTrue_k19 : (Rows.proveTrueSpec.vars.all (Tryz.pinned.checked.prog.varReadable ·)) = true := by kernel_rfl
theorem proveTrue_k20 : (Tryz.f12.resultTypes.all (fun t => Tryz.pinned.checked.prog.readableRec t && decide (t < Tryz.pinned.checked.prog.types.size))) = true := by kernel_rfl
theorem proveTrue_k21 : ((Rows.proveTrueRow.ifacesOut == Tryz.f12.resultTypes.toList.any (Tryz.pinned.checked.prog.ifacesRec ·))) = true := by kernel_rfl
theorem proveTrue_k22 : ((Rows.proveTrueRow.loopsOut == Tryz.f12.resultTypes.toList.any (Tryz.pinned.checked.prog.loopsFrom ·))) = true := by kernel_rfl
theorem proveTrue_k23 : ((Rows.proveTrueRow.plainKeys == Tryz.pinned.checked.prog.plainKeys)) = true := by kernel_rfl
theorem proveTrue_k24 : (Rows.proveTrueRow.shortTexts.isNone) = true := by kernel_rfl
theorem proveTrue_k27 : ((Rows.proveTrueRow.lifted == Tryz.pinned.checked.prog.liftsFinal)) = true := by kernel_rfl
theorem proveTrue_k28 : ((Tryz.pinned.checked.prog.make == some Rows.proveTrueRow.make)) = true := by kernel_rfl
theorem proveTrue_k29 : ((Rows.proveTrueRow.kinds == (if Rows.proveTrueRow.domain.isEmpty then [] else Tryz.f12.params.toList.map fun t => match Tryz.pinned.checked.prog.underlying t with | some (.int k) => some k | _ => none))) = true := by kernel_rfl
theorem proveTrue_k30 : ((Rows.proveTrueRow.pinned == Rows.proveTrueRow.pinnedBy)) = true := by kernel_rfl
theorem proveTrue_k31 : ((Rows.proveTrueRow.veiled == (Tryz.f12.params.toList ++ Rows.proveTrueSpec.plain.varTypes Tryz.pinned.checked.prog ++ Tryz.f12.resultTypes.toList).any (Tryz.pinned.checked.prog.veiledRec ·))) = true := by kernel_rfl
theorem proveTrue_k32 : (Rows.proveTrueRow.veiledFits Tryz.pinned.checked.prog Tryz.f12.params.toList (Tryz.f12.params.toList ++ Rows.proveTrueSpec.plain.varTypes Tryz.pinned.checked.prog ++ Tryz.f12.resultTypes.toList)) = true := by kernel_rfl
theorem proveTrue_closed : joinedFacts Tryz.pinned.checked.prog 12 Tryz.f12 Rows.proveTrueSpec Rows.proveTrueRow = true := joined_of proveTrue_k1 kp2 kp3 proveTrue_k4 proveTrue_k5 proveTrue_k6 kp7 proveTrue_k8 kp9 proveTrue_k10 proveTrue_k11 proveTrue_k12 proveTrue_k13 proveTrue_k14 proveTrue_k15 proveTrue_k16 proveTrue_k17 proveTrue_k18 proveTrue_k19 proveTrue_k20 proveTrue_k21 proveTrue_k22 proveTrue_k23 proveTrue_k24 kp25 kp26 proveTrue_k27 proveTrue_k28 proveTrue_k29 proveTrue_k30 proveTrue_k31 proveTrue_k32
theorem proveTrue_named : Tryz.pinned.checked.prog.funcNamed Rows.proveTrueRow.func = some 12 := by kernel_rfl
theorem proveTrue_instance : Tryz.f12.isInstance Tryz.pinned.checked.prog Rows.proveTrueRow.origin Rows.proveTrueRow.targs := (of_decide_eq_true (by kernel_rfl))
theorem proveTrue_wrapper : Tryz.f12.isWrapper Tryz.pinned.checked.prog Rows.proveTrueRow.wrapper Rows.proveTrueRow.mainSum := (by unfold Func.isWrapper; first | (rw [if_pos (by decide +kernel)]; kernel_rfl) | (rw [if_neg (by decide +kernel)]; exact ⟨rfl, rfl⟩))
theorem proveTrue_byText : Rows.proveTrueRow.wfByText (OpenSpec.ofChange Rows.proveTrueSpec) = true := by kernel_rfl
theorem proveTrue_goes : false = Rows.proveTrueRow.goesBy Tryz.pinned.checked.prog := by kernel_rfl
theorem proveTrue_wants : ∀ t ∈ [22,25,46], Tryz.pinned.checked.prog.wantsStandIn t = false := fun t hm => by
  have hall : ([22,25,46].all fun u => !Tryz.prog.wantsStandIn u) = true := by kernel_rfl
  exact (show Tryz.prog.wantsStandIn t = false by simpa using List.all_eq_true.1 hall t hm)
end Go.Proofs.YtjimmpldofoimaaGreatDoor
