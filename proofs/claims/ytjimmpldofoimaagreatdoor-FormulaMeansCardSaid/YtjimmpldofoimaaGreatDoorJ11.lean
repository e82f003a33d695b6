/- The facts of the row formulaMeans, each by the kernel. -/
import Derived.Test.YtjimmpldofoimaaGreatDoorJ0
set_option linter.unusedVariables false
set_option linter.unusedSimpArgs false
namespace Go.Proofs.YtjimmpldofoimaaGreatDoor
open Go
set_option maxRecDepth 100000
theorem formulaMeans_k1 : (Rows.formulaMeansRow.wf (OpenSpec.ofChange Rows.formulaMeansSpec)) = true := by kernel_rfl
theorem formulaMeans_k4 : (Tryz.f13.params.all (Tryz.pinned.checked.prog.readableRec ·)) = true := by kernel_rfl
theorem formulaMeans_k5 : (namedTie Tryz.pinned.checked.prog Rows.formulaMeansRow.named Rows.formulaMeansSpec.vars) = true := by kernel_rfl
theorem formulaMeans_k6 : ((Rows.formulaMeansRow.stops == [])) = true := by kernel_rfl
theorem formulaMeans_k8 : ((Rows.formulaMeansRow.knobs == [])) = true := by kernel_rfl
theorem formulaMeans_k10 : ((Rows.formulaMeansRow.inPlace == Tryz.pinned.checked.prog.inPlace 13)) = true := by kernel_rfl
theorem formulaMeans_k11 : ((Rows.formulaMeansRow.unfollowed == Tryz.pinned.checked.prog.unfollowed 13)) = true := by kernel_rfl
theorem formulaMeans_k12 : ((Rows.formulaMeansRow.recurses == Tryz.pinned.checked.prog.recurses 13)) = true := by kernel_rfl
theorem formulaMeans_k13 : ((Rows.formulaMeansRow.named == Tryz.pinned.checked.prog.varsNamed 13)) = true := by kernel_rfl
theorem formulaMeans_k14 : ((Rows.formulaMeansRow.maps == (Tryz.f13.params.toList ++ Rows.formulaMeansSpec.plain.varTypes Tryz.pinned.checked.prog).any (Tryz.pinned.checked.prog.mapsRec ·))) = true := by kernel_rfl
theorem formulaMeans_k15 : ((Rows.formulaMeansRow.ifaces == (Tryz.f13.params.toList ++ Rows.formulaMeansSpec.plain.varTypes Tryz.pinned.checked.prog).any (Tryz.pinned.checked.prog.ifacesRec ·))) = true := by kernel_rfl
theorem formulaMeans_k16 : ((Rows.formulaMeansRow.mapsOut == Tryz.pinned.checked.prog.mapsAmong Tryz.f13.resultTypes.toList)) = true := by kernel_rfl
theorem formulaMeans_k17 : ((Rows.formulaMeansRow.loops == (Tryz.f13.params.toList ++ Rows.formulaMeansSpec.plain.varTypes Tryz.pinned.checked.prog).any (Tryz.pinned.checked.prog.loopsFrom ·))) = true := by kernel_rfl
theorem formulaMeans_k18 : ((Rows.formulaMeansRow.wideKeys == (Tryz.f13.params.toList ++ Rows.formulaMeansSpec.plain.varTypes Tryz.pinned.checked.prog ++ Tryz.f13.resultTypes.toList).any (Tryz.pinned.checked.prog.wideKeysFrom ·))) = true := by kernel_rfl
theorem formulaMeans_k19 : (Rows.formulaMeansSpec.vars.all (Tryz.pinned.checked.prog.varReadable ·)) = true := by kernel_rfl
theorem formulaMeans_k20 : (Tryz.f13.resultTypes.all (fun t => Tryz.pinned.checked.prog.readableRec t && decide (t < Tryz.pinned.checked.prog.types.size))) = true := by kernel_rfl
theorem formulaMeans_k21 : ((Rows.formulaMeansRow.ifacesOut == Tryz.f13.resultTypes.toList.any (Tryz.pinned.checked.prog.ifacesRec ·))) = true := by kernel_rfl
theorem formulaMeans_k22 : ((Rows.formulaMeansRow.loopsOut == Tryz.f13.resultTypes.toList.any (Tryz.pinned.checked.prog.loopsFrom ·))) = true := by kernel_rfl
theorem formulaMeans_k23 : ((Rows.formulaMeansRow.plainKeys == Tryz.pinned.checked.prog.plainKeys)) = true := by kernel_rfl
theorem formulaMeans_k24 : (Rows.formulaMeansRow.shortTexts.isNone) = true := by kernel_rfl
theorem formulaMeans_k27 : ((Rows.formulaMeansRow.lifted == Tryz.pinned.checked.prog.liftsFinal)) = true := by kernel_rfl
theorem formulaMeans_k28 : ((Tryz.pinned.checked.prog.make == some Rows.formulaMeansRow.make)) = true := by kernel_rfl
theorem formulaMeans_k29 : ((Rows.formulaMeansRow.kinds == (if Rows.formulaMeansRow.domain.isEmpty then [] else Tryz.f13.params.toList.map fun t => match Tryz.pinned.checked.prog.underlying t with | some (.int k) => some k | _ => none))) = true := by kernel_rfl
theorem formulaMeans_k30 : ((Rows.formulaMeansRow.pinned == Rows.formulaMeansRow.pinnedBy)) = true := by kernel_rfl
theorem formulaMeans_k31 : ((Rows.formulaMeansRow.veiled == (Tryz.f13.params.toList ++ Rows.formulaMeansSpec.plain.varTypes Tryz.pinned.checked.prog ++ Tryz.f13.resultTypes.toList).any (Tryz.pinned.checked.prog.veiledRec ·))) = true := by kernel_rfl
theorem formulaMeans_k32 : (Rows.formulaMeansRow.veiledFits Tryz.pinned.checked.prog Tryz.f13.params.toList (Tryz.f13.params.toList ++ Rows.formulaMeansSpec.plain.varTypes Tryz.pinned.checked.prog ++ Tryz.f13.resultTypes.toList)) = true := by kernel_rfl
theorem formulaMeans_closed : joinedFacts Tryz.pinned.checked.prog 13 Tryz.f13 Rows.formulaMeansSpec Rows.formulaMeansRow = true := joined_of formulaMeans_k1 kp2 kp3 formulaMeans_k4 formulaMeans_k5 formulaMeans_k6 kp7 formulaMeans_k8 kp9 formulaMeans_k10 formulaMeans_k11 formulaMeans_k12 formulaMeans_k13 formulaMeans_k14 formulaMeans_k15 formulaMeans_k16 formulaMeans_k17 formulaMeans_k18 formulaMeans_k19 formulaMeans_k20 formulaMeans_k21 formulaMeans_k22 formulaMeans_k23 formulaMeans_k24 kp25 kp26 formulaMeans_k27 formulaMeans_k28 formulaMeans_k29 formulaMeans_k30 formulaMeans_k31 formulaMeans_k32
theorem formulaMeans_named : Tryz.pinned.checked.prog.funcNamed Rows.formulaMeansRow.func = some 13 := by kernel_rfl
theorem formulaMeans_instance : Tryz.f13.isInstance Tryz.pinned.checked.prog Rows.formulaMeansRow.origin Rows.formulaMeansRow.targs := (of_decide_eq_true (by kernel_rfl))
theorem formulaMeans_wrapper : Tryz.f13.isWrapper Tryz.pinned.checked.prog Rows.formulaMeansRow.wrapper Rows.formulaMeansRow.mainSum := (by unfold Func.isWrapper; first | (rw [if_pos (by decide +kernel)]; kernel_rfl) | (rw [if_neg (by decide +kernel)]; exact ⟨rfl, rfl⟩))
theorem formulaMeans_byText : Rows.formulaMeansRow.wfByText (OpenSpec.ofChange Rows.formulaMeansSpec) = true := by kernel_rfl
theorem formulaMeans_goes : false = Rows.formulaMeansRow.goesBy Tryz.pinned.checked.prog := by kernel_rfl
theorem formulaMeans_wants : ∀ t ∈ [60,46], Tryz.pinned.checked.prog.wantsStandIn t = false := fun t hm => by
  have hall : ([60,46].all fun u => !Tryz.prog.wantsStandIn u) = true := by kernel_rfl
  exact (show Tryz.prog.wantsStandIn t = false by simpa using List.all_eq_true.1 hall t hm)
end Go.Proofs.YtjimmpldofoimaaGreatDoor
