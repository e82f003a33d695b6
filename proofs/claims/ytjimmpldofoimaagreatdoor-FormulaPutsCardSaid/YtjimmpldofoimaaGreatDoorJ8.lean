/- The facts of the row formulaPuts, each by the kernel. -/
import Derived.Test.YtjimmpldofoimaaGreatDoorJ0
set_option linter.unusedVariables false
set_option linter.unusedSimpArgs false
namespace Go.Proofs.YtjimmpldofoimaaGreatDoor
open Go
set_option maxRecDepth 100000
theorem formulaPuts_k1 : (Rows.formulaPutsRow.wf (OpenSpec.ofChange Rows.formulaPutsSpec)) = true := by kernel_rfl
theorem formulaPuts_k4 : (Tryz.f7.params.all (Tryz.pinned.checked.prog.readableRec ·)) = true := by kernel_rfl
theorem formulaPuts_k5 : (namedTie Tryz.pinned.checked.prog Rows.formulaPutsRow.named Rows.formulaPutsSpec.vars) = true := by kernel_rfl
theorem formulaPuts_k6 : ((Rows.formulaPutsRow.stops == [])) = true := by kernel_rfl
theorem formulaPuts_k8 : ((Rows.formulaPutsRow.knobs == [])) = true := by kernel_rfl
theorem formulaPuts_k10 : ((Rows.formulaPutsRow.inPlace == Tryz.pinned.checked.prog.inPlace 7)) = true := by kernel_rfl
theorem formulaPuts_k11 : ((Rows.formulaPutsRow.unfollowed == Tryz.pinned.checked.prog.unfollowed 7)) = true := by kernel_rfl
theorem formulaPuts_k12 : ((Rows.formulaPutsRow.recurses == Tryz.pinned.checked.prog.recurses 7)) = true := by kernel_rfl
theorem formulaPuts_k13 : ((Rows.formulaPutsRow.named == Tryz.pinned.checked.prog.varsNamed 7)) = true := by kernel_rfl
theorem formulaPuts_k14 : ((Rows.formulaPutsRow.maps == (Tryz.f7.params.toList ++ Rows.formulaPutsSpec.plain.varTypes Tryz.pinned.checked.prog).any (Tryz.pinned.checked.prog.mapsRec ·))) = true := by kernel_rfl
theorem formulaPuts_k15 : ((Rows.formulaPutsRow.ifaces == (Tryz.f7.params.toList ++ Rows.formulaPutsSpec.plain.varTypes Tryz.pinned.checked.prog).any (Tryz.pinned.checked.prog.ifacesRec ·))) = true := by kernel_rfl
theorem formulaPuts_k16 : ((Rows.formulaPutsRow.mapsOut == Tryz.pinned.checked.prog.mapsAmong Tryz.f7.resultTypes.toList)) = true := by kernel_rfl
theorem formulaPuts_k17 : ((Rows.formulaPutsRow.loops == (Tryz.f7.params.toList ++ Rows.formulaPutsSpec.plain.varTypes Tryz.pinned.checked.prog).any (Tryz.pinned.checked.prog.loopsFrom ·))) = true := by kernel_rfl
theorem formulaPuts_k18 : ((Rows.formulaPutsRow.wideKeys == (Tryz.f7.params.toList ++ Rows.formulaPutsSpec.plain.varTypes Tryz.pinned.checked.prog ++ Tryz.f7.resultTypes.toList).any (Tryz.pinned.checked.prog.wideKeysFrom ·))) = true := by kernel_rfl
theorem formulaPuts_k19 : (Rows.formulaPutsSpec.vars.all (Tryz.pinned.checked.prog.varReadable ·)) = true := by kernel_rfl
theorem formulaPuts_k20 : (Tryz.f7.resultTypes.all (fun t => Tryz.pinned.checked.prog.readableRec t && decide (t < Tryz.pinned.checked.prog.types.size))) = true := by kernel_rfl
theorem formulaPuts_k21 : ((Rows.formulaPutsRow.ifacesOut == Tryz.f7.resultTypes.toList.any (Tryz.pinned.checked.prog.ifacesRec ·))) = true := by kernel_rfl
theorem formulaPuts_k22 : ((Rows.formulaPutsRow.loopsOut == Tryz.f7.resultTypes.toList.any (Tryz.pinned.checked.prog.loopsFrom ·))) = true := by kernel_rfl
theorem formulaPuts_k23 : ((Rows.formulaPutsRow.plainKeys == Tryz.pinned.checked.prog.plainKeys)) = true := by kernel_rfl
theorem formulaPuts_k24 : (Rows.formulaPutsRow.shortTexts.isNone) = true := by kernel_rfl
theorem formulaPuts_k27 : ((Rows.formulaPutsRow.lifted == Tryz.pinned.checked.prog.liftsFinal)) = true := by kernel_rfl
theorem formulaPuts_k28 : ((Tryz.pinned.checked.prog.make == some Rows.formulaPutsRow.make)) = true := by kernel_rfl
theorem formulaPuts_k29 : ((Rows.formulaPutsRow.kinds == (if Rows.formulaPutsRow.domain.isEmpty then [] else Tryz.f7.params.toList.map fun t => match Tryz.pinned.checked.prog.underlying t with | some (.int k) => some k | _ => none))) = true := by kernel_rfl
theorem formulaPuts_k30 : ((Rows.formulaPutsRow.pinned == Rows.formulaPutsRow.pinnedBy)) = true := by kernel_rfl
theorem formulaPuts_k31 : ((Rows.formulaPutsRow.veiled == (Tryz.f7.params.toList ++ Rows.formulaPutsSpec.plain.varTypes Tryz.pinned.checked.prog ++ Tryz.f7.resultTypes.toList).any (Tryz.pinned.checked.prog.veiledRec ·))) = true := by kernel_rfl
theorem formulaPuts_k32 : (Rows.formulaPutsRow.veiledFits Tryz.pinned.checked.prog Tryz.f7.params.toList (Tryz.f7.params.toList ++ Rows.formulaPutsSpec.plain.varTypes Tryz.pinned.checked.prog ++ Tryz.f7.resultTypes.toList)) = true := by kernel_rfl
theorem formulaPuts_closed : joinedFacts Tryz.pinned.checked.prog 7 Tryz.f7 Rows.formulaPutsSpec Rows.formulaPutsRow = true := joined_of formulaPuts_k1 kp2 kp3 formulaPuts_k4 formulaPuts_k5 formulaPuts_k6 kp7 formulaPuts_k8 kp9 formulaPuts_k10 formulaPuts_k11 formulaPuts_k12 formulaPuts_k13 formulaPuts_k14 formulaPuts_k15 formulaPuts_k16 formulaPuts_k17 formulaPuts_k18 formulaPuts_k19 formulaPuts_k20 formulaPuts_k21 formulaPuts_k22 formulaPuts_k23 formulaPuts_k24 kp25 kp26 formulaPuts_k27 formulaPuts_k28 formulaPuts_k29 formulaPuts_k30 formulaPuts_k31 formulaPuts_k32
theorem formulaPuts_named : Tryz.pinned.checked.prog.funcNamed Rows.formulaPutsRow.func = some 7 := by kernel_rfl
theorem formulaPuts_instance : Tryz.f7.isInstance Tryz.pinned.checked.prog Rows.formulaPutsRow.origin Rows.formulaPutsRow.targs := (of_decide_eq_true (by kernel_rfl))
theorem formulaPuts_wrapper : Tryz.f7.isWrapper Tryz.pinned.checked.prog Rows.formulaPutsRow.wrapper Rows.formulaPutsRow.mainSum := (by unfold Func.isWrapper; first | (rw [if_pos (by decide +kernel)]; kernel_rfl) | (rw [if_neg (by decide +kernel)]; exact ⟨rfl, rfl⟩))
theorem formulaPuts_byText : Rows.formulaPutsRow.wfByText (OpenSpec.ofChange Rows.formulaPutsSpec) = true := by kernel_rfl
theorem formulaPuts_goes : false = Rows.formulaPutsRow.goesBy Tryz.pinned.checked.prog := by kernel_rfl
theorem formulaPuts_wants : ∀ t ∈ [60,22], Tryz.pinned.checked.prog.wantsStandIn t = false := fun t hm => by
  have hall : ([60,22].all fun u => !Tryz.prog.wantsStandIn u) = true := by kernel_rfl
  exact (show Tryz.prog.wantsStandIn t = false by simpa using List.all_eq_true.1 hall t hm)
end Go.Proofs.YtjimmpldofoimaaGreatDoor
