/- The facts of the row proveFormulas, each by the kernel. -/
import Derived.Test.YtjimmpldofoimaaGreatDoorJ0
set_option linter.unusedVariables false
set_option linter.unusedSimpArgs false
namespace Go.Proofs.YtjimmpldofoimaaGreatDoor
open Go
set_option maxRecDepth 100000
theorem proveFormulas_k1 : (Rows.proveFormulasRow.wf (OpenSpec.ofChange Rows.proveFormulasSpec)) = true := by kernel_rfl
theorem proveFormulas_k4 : (Tryz.f16.params.all (Tryz.pinned.checked.prog.readableRec ·)) = true := by kernel_rfl
theorem proveFormulas_k5 : (namedTie Tryz.pinned.checked.prog Rows.proveFormulasRow.named Rows.proveFormulasSpec.vars) = true := by kernel_rfl
theorem proveFormulas_k6 : ((Rows.proveFormulasRow.stops == [])) = true := by kernel_rfl
theorem proveFormulas_k8 : ((Rows.proveFormulasRow.knobs == [])) = true := by kernel_rfl
theorem proveFormulas_k10 : ((Rows.proveFormulasRow.inPlace == Tryz.pinned.checked.prog.inPlace 16)) = true := by kernel_rfl
theorem proveFormulas_k11 : ((Rows.proveFormulasRow.unfollowed == Tryz.pinned.checked.prog.unfollowed 16)) = true := by kernel_rfl
theorem proveFormulas_k12 : ((Rows.proveFormulasRow.recurses == Tryz.pinned.checked.prog.recurses 16)) = true := by kernel_rfl
theorem proveFormulas_k13 : ((Rows.proveFormulasRow.named == Tryz.pinned.checked.prog.varsNamed 16)) = true := by kernel_rfl
theorem proveFormulas_k14 : ((Rows.proveFormulasRow.maps == (Tryz.f16.params.toList ++ Rows.proveFormulasSpec.plain.varTypes Tryz.pinned.checked.prog).any (Tryz.pinned.checked.prog.mapsRec ·))) = true := by kernel_rfl
theorem proveFormulas_k15 : ((Rows.proveFormulasRow.ifaces == (Tryz.f16.params.toList ++ Rows.proveFormulasSpec.plain.varTypes Tryz.pinned.checked.prog).any (Tryz.pinned.checked.prog.ifacesRec ·))) = true := by kernel_rfl
theorem proveFormulas_k16 : ((Rows.proveFormulasRow.mapsOut == Tryz.pinned.checked.prog.mapsAmong Tryz.f16.resultTypes.toList)) = true := by kernel_rfl
theorem proveFormulas_k17 : ((Rows.proveFormulasRow.loops == (Tryz.f16.params.toList ++ Rows.proveFormulasSpec.plain.varTypes Tryz.pinned.checked.prog).any (Tryz.pinned.checked.prog.loopsFrom ·))) = true := by kernel_rfl
theorem proveFormulas_k18 : ((Rows.proveFormulasRow.wideKeys == (Tryz.f16.params.toList ++ Rows.proveFormulasSpec.plain.varTypes Tryz.pinned.checked.prog ++ Tryz.f16.resultTypes.toList).any (Tryz.pinned.checked.prog.wideKeysFrom ·))) = true := by kernel_rfl
theorem proveFormulas_k19 : (Rows.proveFormulasSpec.vars.all (Tryz.pinned.checked.prog.varReadable ·)) = true := by kernel_rfl
theorem proveFormulas_k20 : (Tryz.f16.resultTypes.all (fun t => Tryz.pinned.checked.prog.readableRec t && decide (t < Tryz.pinned.checked.prog.types.size))) = true := by kernel_rfl
theorem proveFormulas_k21 : ((Rows.proveFormulasRow.ifacesOut == Tryz.f16.resultTypes.toList.any (Tryz.pinned.checked.prog.ifacesRec ·))) = true := by kernel_rfl
theorem proveFormulas_k22 : ((Rows.proveFormulasRow.loopsOut == Tryz.f16.resultTypes.toList.any (Tryz.pinned.checked.prog.loopsFrom ·))) = true := by kernel_rfl
theorem proveFormulas_k23 : ((Rows.proveFormulasRow.plainKeys == Tryz.pinned.checked.prog.plainKeys)) = true := by kernel_rfl
theorem proveFormulas_k24 : (Rows.proveFormulasRow.shortTexts.isNone) = true := by kernel_rfl
theorem proveFormulas_k27 : ((Rows.proveFormulasRow.lifted == Tryz.pinned.checked.prog.liftsFinal)) = true := by kernel_rfl
theorem proveFormulas_k28 : ((Tryz.pinned.checked.prog.make == some Rows.proveFormulasRow.make)) = true := by kernel_rfl
theorem proveFormulas_k29 : ((Rows.proveFormulasRow.kinds == (if Rows.proveFormulasRow.domain.isEmpty then [] else Tryz.f16.params.toList.map fun t => match Tryz.pinned.checked.prog.underlying t with | some (.int k) => some k | _ => none))) = true := by kernel_rfl
theorem proveFormulas_k30 : ((Rows.proveFormulasRow.pinned == Rows.proveFormulasRow.pinnedBy)) = true := by kernel_rfl
theorem proveFormulas_k31 : ((Rows.proveFormulasRow.veiled == (Tryz.f16.params.toList ++ Rows.proveFormulasSpec.plain.varTypes Tryz.pinned.checked.prog ++ Tryz.f16.resultTypes.toList).any (Tryz.pinned.checked.prog.veiledRec ·))) = true := by kernel_rfl
theorem proveFormulas_k32 : (Rows.proveFormulasRow.veiledFits Tryz.pinned.checked.prog Tryz.f16.params.toList (Tryz.f16.params.toList ++ Rows.proveFormulasSpec.plain.varTypes Tryz.pinned.checked.prog ++ Tryz.f16.resultTypes.toList)) = true := by kernel_rfl
theorem proveFormulas_closed : joinedFacts Tryz.pinned.checked.prog 16 Tryz.f16 Rows.proveFormulasSpec Rows.proveFormulasRow = true := joined_of proveFormulas_k1 kp2 kp3 proveFormulas_k4 proveFormulas_k5 proveFormulas_k6 kp7 proveFormulas_k8 kp9 proveFormulas_k10 proveFormulas_k11 proveFormulas_k12 proveFormulas_k13 proveFormulas_k14 proveFormulas_k15 proveFormulas_k16 proveFormulas_k17 proveFormulas_k18 proveFormulas_k19 proveFormulas_k20 proveFormulas_k21 proveFormulas_k22 proveFormulas_k23 proveFormulas_k24 kp25 kp26 proveFormulas_k27 proveFormulas_k28 proveFormulas_k29 proveFormulas_k30 proveFormulas_k31 proveFormulas_k32
theorem proveFormulas_named : Tryz.pinned.checked.prog.funcNamed Rows.proveFormulasRow.func = some 16 := by kernel_rfl
theorem proveFormulas_instance : Tryz.f16.isInstance Tryz.pinned.checked.prog Rows.proveFormulasRow.origin Rows.proveFormulasRow.targs := (of_decide_eq_true (by kernel_rfl))
theorem proveFormulas_wrapper : Tryz.f16.isWrapper Tryz.pinned.checked.prog Rows.proveFormulasRow.wrapper Rows.proveFormulasRow.mainSum := (by unfold Func.isWrapper; first | (rw [if_pos (by decide +kernel)]; kernel_rfl) | (rw [if_neg (by decide +kernel)]; exact ⟨rfl, rfl⟩))
theorem proveFormulas_byText : Rows.proveFormulasRow.wfByText (OpenSpec.ofChange Rows.proveFormulasSpec) = true := by kernel_rfl
theorem proveFormulas_goes : false = Rows.proveFormulasRow.goesBy Tryz.pinned.checked.prog := by kernel_rfl
theorem proveFormulas_wants : ∀ t ∈ [60,152], Tryz.pinned.checked.prog.wantsStandIn t = false := fun t hm => by
 have hall : ([60,152].all fun u => !Tryz.prog.wantsStandIn u) = true := by kernel_rfl
 exact (show Tryz.prog.wantsStandIn t = false by simpa using List.all_eq_true.1 hall t hm)
end Go.Proofs.YtjimmpldofoimaaGreatDoor
