/- The facts of the row proveFinds, each by the kernel. -/
import Derived.Test.YtjimmpldofoimaaGreatDoorJ0
set_option linter.unusedVariables false
set_option linter.unusedSimpArgs false
namespace Go.Proofs.YtjimmpldofoimaaGreatDoor
open Go
set_option maxRecDepth 100000
theorem proveFinds_k1 : (Rows.proveFindsRow.wf (OpenSpec.ofChange Rows.proveFindsSpec)) = true := by kernel_rfl
theorem proveFinds_k4 : (Tryz.f14.params.all (Tryz.pinned.checked.prog.readableRec ·)) = true := by kernel_rfl
theorem proveFinds_k5 : (namedTie Tryz.pinned.checked.prog Rows.proveFindsRow.named Rows.proveFindsSpec.vars) = true := by kernel_rfl
theorem proveFinds_k6 : ((Rows.proveFindsRow.stops == [])) = true := by kernel_rfl
theorem proveFinds_k8 : ((Rows.proveFindsRow.knobs == [])) = true := by kernel_rfl
theorem proveFinds_k10 : ((Rows.proveFindsRow.inPlace == Tryz.pinned.checked.prog.inPlace 14)) = true := by kernel_rfl
theorem proveFinds_k11 : ((Rows.proveFindsRow.unfollowed == Tryz.pinned.checked.prog.unfollowed 14)) = true := by kernel_rfl
theorem proveFinds_k12 : ((Rows.proveFindsRow.recurses == Tryz.pinned.checked.prog.recurses 14)) = true := by kernel_rfl
theorem proveFinds_k13 : ((Rows.proveFindsRow.named == Tryz.pinned.checked.prog.varsNamed 14)) = true := by kernel_rfl
theorem proveFinds_k14 : ((Rows.proveFindsRow.maps == (Tryz.f14.params.toList ++ Rows.proveFindsSpec.plain.varTypes Tryz.pinned.checked.prog).any (Tryz.pinned.checked.prog.mapsRec ·))) = true := by kernel_rfl
theorem proveFinds_k15 : ((Rows.proveFindsRow.ifaces == (Tryz.f14.params.toList ++ Rows.proveFindsSpec.plain.varTypes Tryz.pinned.checked.prog).any (Tryz.pinned.checked.prog.ifacesRec ·))) = true := by kernel_rfl
theorem proveFinds_k16 : ((Rows.proveFindsRow.mapsOut == Tryz.pinned.checked.prog.mapsAmong Tryz.f14.resultTypes.toList)) = true := by kernel_rfl
theorem proveFinds_k17 : ((Rows.proveFindsRow.loops == (Tryz.f14.params.toList ++ Rows.proveFindsSpec.plain.varTypes Tryz.pinned.checked.prog).any (Tryz.pinned.checked.prog.loopsFrom ·))) = true := by kernel_rfl
theorem proveFinds_k18 : ((Rows.proveFindsRow.wideKeys == (Tryz.f14.params.toList ++ Rows.proveFindsSpec.plain.varTypes Tryz.pinned.checked.prog ++ Tryz.f14.resultTypes.toList).any (Tryz.pinned.checked.prog.wideKeysFrom ·))) = true := by kernel_rfl
theorem proveFinds_k19 : (Rows.proveFindsSpec.vars.all (Tryz.pinned.checked.prog.varReadable ·)) = true := by kernel_rfl
theorem proveFinds_k20 : (Tryz.f14.resultTypes.all (fun t => Tryz.pinned.checked.prog.readableRec t && decide (t < Tryz.pinned.checked.prog.types.size))) = true := by kernel_rfl
theorem proveFinds_k21 : ((Rows.proveFindsRow.ifacesOut == Tryz.f14.resultTypes.toList.any (Tryz.pinned.checked.prog.ifacesRec ·))) = true := by kernel_rfl
theorem proveFinds_k22 : ((Rows.proveFindsRow.loopsOut == Tryz.f14.resultTypes.toList.any (Tryz.pinned.checked.prog.loopsFrom ·))) = true := by kernel_rfl
theorem proveFinds_k23 : ((Rows.proveFindsRow.plainKeys == Tryz.pinned.checked.prog.plainKeys)) = true := by kernel_rfl
theorem proveFinds_k24 : (Rows.proveFindsRow.shortTexts.isNone) = true := by kernel_rfl
theorem proveFinds_k27 : ((Rows.proveFindsRow.lifted == Tryz.pinned.checked.prog.liftsFinal)) = true := by kernel_rfl
theorem proveFinds_k28 : ((Tryz.pinned.checked.prog.make == some Rows.proveFindsRow.make)) = true := by kernel_rfl
theorem proveFinds_k29 : ((Rows.proveFindsRow.kinds == (if Rows.proveFindsRow.domain.isEmpty then [] else Tryz.f14.params.toList.map fun t => match Tryz.pinned.checked.prog.underlying t with | some (.int k) => some k | _ => none))) = true := by kernel_rfl
theorem proveFinds_k30 : ((Rows.proveFindsRow.pinned == Rows.proveFindsRow.pinnedBy)) = true := by kernel_rfl
theorem proveFinds_k31 : ((Rows.proveFindsRow.veiled == (Tryz.f14.params.toList ++ Rows.proveFindsSpec.plain.varTypes Tryz.pinned.checked.prog ++ Tryz.f14.resultTypes.toList).any (Tryz.pinned.checked.prog.veiledRec ·))) = true := by kernel_rfl
theorem proveFinds_k32 : (Rows.proveFindsRow.veiledFits Tryz.pinned.checked.prog Tryz.f14.params.toList (Tryz.f14.params.toList ++ Rows.proveFindsSpec.plain.varTypes Tryz.pinned.checked.prog ++ Tryz.f14.resultTypes.toList)) = true := by kernel_rfl
theorem proveFinds_closed : joinedFacts Tryz.pinned.checked.prog 14 Tryz.f14 Rows.proveFindsSpec Rows.proveFindsRow = true := joined_of proveFinds_k1 kp2 kp3 proveFinds_k4 proveFinds_k5 proveFinds_k6 kp7 proveFinds_k8 kp9 proveFinds_k10 proveFinds_k11 proveFinds_k12 proveFinds_k13 proveFinds_k14 proveFinds_k15 proveFinds_k16 proveFinds_k17 proveFinds_k18 proveFinds_k19 proveFinds_k20 proveFinds_k21 proveFinds_k22 proveFinds_k23 proveFinds_k24 kp25 kp26 proveFinds_k27 proveFinds_k28 proveFinds_k29 proveFinds_k30 proveFinds_k31 proveFinds_k32
theorem proveFinds_named : Tryz.pinned.checked.prog.funcNamed Rows.proveFindsRow.func = some 14 := by kernel_rfl
theorem proveFinds_instance : Tryz.f14.isInstance Tryz.pinned.checked.prog Rows.proveFindsRow.origin Rows.proveFindsRow.targs := (of_decide_eq_true (by kernel_rfl))
theorem proveFinds_wrapper : Tryz.f14.isWrapper Tryz.pinned.checked.prog Rows.proveFindsRow.wrapper Rows.proveFindsRow.mainSum := (by unfold Func.isWrapper; first | (rw [if_pos (by decide +kernel)]; kernel_rfl) | (rw [if_neg (by decide +kernel)]; exact ⟨rfl, rfl⟩))
theorem proveFinds_byText : Rows.proveFindsRow.wfByText (OpenSpec.ofChange Rows.proveFindsSpec) = true := by kernel_rfl
theorem proveFinds_goes : false = Rows.proveFindsRow.goesBy Tryz.pinned.checked.prog := by kernel_rfl
theorem proveFinds_wants : ∀ t ∈ [60,45,3], Tryz.pinned.checked.prog.wantsStandIn t = false := fun t hm => by
  have hall : ([60,45,3].all fun u => !Tryz.prog.wantsStandIn u) = true := by kernel_rfl
  exact (show Tryz.prog.wantsStandIn t = false by simpa using List.all_eq_true.1 hall t hm)
end Go.Proofs.YtjimmpldofoimaaGreatDoor
