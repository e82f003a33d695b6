/- FormulaStrings: for every input the law returns true, and the arguments read as before. It has no condition of its own: the listed variables read as the program's text lays them, and that is tied here. -/
import Derived.Test.YtjimmpldofoimaaGreatDoorBq
import Derived.Test.YtjimmpldofoimaaGreatDoorJ14
import Derived.Test.YtjimmpldofoimaaGreatDoorSd
import Derived.Test.YtjimmpldofoimaaGreatDoorTie
import Derived.Test.YtjimmpldofoimaaGreatDoorCards
import Derived.SevenTiedAt
set_option linter.unusedVariables false
namespace Go.Proofs.YtjimmpldofoimaaGreatDoor
open Go.AL Go.ChangeShapes Go.WideShapes Go.ChangeAt Go.WideMaps Go.WideElems Go.RowKit
set_option maxRecDepth 100000 in
theorem formulaStrings_lifted (os : Os) (started : os.Started) (H : Type) (enc : TypeId × Value → H) :
    ReturnsInHanded {} Tryz.checked os 18 .any (fun w args => (Rows.formulaStringsSpec.pre enc Tryz.prog Tryz.f18 [] false w args ∧ laidMetH Tryz.prog laidS w) ∧ sizedMet enc Tryz.prog Tryz.f18 (OpenSpec.ofChange Rows.formulaStringsSpec) false w args)
      (Rows.formulaStringsSpec.post enc Tryz.prog Tryz.f18 false true false false) := by
  refine returnsInHanded_of_change_and (C := Tryz.checked) (X := fun w _ => laidMetH Tryz.prog laidS w) (fun _ _ _ hh h => h.of_heap hh) own started (by kernel_rfl) Tryz.func18
    (ChangeSpec.witness_shaped (enc := enc) (C := Tryz.checked) (os := os) (X := fun w _ => laidMetH Tryz.prog laidS w) false (worldS os) #[.agg #[.int .i64 0, .slice none 0 0], .string ⟨#[]⟩] 8 rfl (World.shaped_of_RefB (by kernel_rfl) (by kernel_rfl)) (by kernel_rfl) (by kernel_rfl) (by kernel_rfl) (door_metS os _)) ?_
  intro W base args ds gs before hval0 hW _ _ hL _
  have hval : ∀ (j : Nat) t v, Tryz.f18.params[j]? = some t → args[j]? = some v → Value.okWide Tryz.prog W .any base t v := hval0
  have hW' := hW
  obtain ⟨p, q, hA0, hV, rfl, hfz, hnd⟩ := hW
  have hA : DataW.TrodAll enc Tryz.prog W 0 (fun _ => true) true Tryz.f18.params.toList args.toList ds p := hA0
  rw [Tryz.params18] at hA hval
  obtain ⟨v0, v1, d0, d1, p0, p1, rfl, rfl, rfl, h0, h1⟩ := trodAll_two hA
  obtain ⟨rfl, rfl⟩ := trodVars_none hV
  obtain ⟨f, hf, rep0⟩ := arg60 (hval 0 60 v0 rfl rfl) h0
  obtain ⟨s, rfl⟩ := arg9 (hval 1 9 v1 rfl rfl)
  clear hA0 hval0
  simp only [List.append_nil] at hW'
  have hcall := callsIn_wide.1 (((Go.AL.f18 (Γ := Γ10) rfl rfl rfl f s (Nat.le_trans hf (by decide))) noB).2 W [v0, .string s] (rel_of_laidS hL) (.cons rep0 (.cons (.v _) .nil)))
  refine hcall.mono fun e W' ⟨v, r, σ', he, hr, _, hx, hrr, hσ⟩ => ?_
  subst hrr; subst hσ; subst he
  have bel := below_of_ext hx
  have hlt : ∀ x ∈ p0 ++ p1, x.block < W.heap.size := fun x hx => by simpa using hW'.lt x (by simpa using hx)
  cases hr
  refine ⟨_, rfl, ⟨_, _, _, [], p0 ++ p1, [], hW', ?_, ?_, rfl, bel.frame _, fun h => by cases h⟩⟩
  · exact trodAll_mk1 (shut_bool us4 _)
  · exact trodAll_mk2 (Below.trod laidOut (by kernel_rfl) (of_decide_eq_true (by kernel_rfl)) h0 bel (fun x hx => hlt x (by simp [hx]))) (Below.trod laidOut (by kernel_rfl) (of_decide_eq_true (by kernel_rfl)) h1 bel (fun x hx => hlt x (by simp [hx])))
theorem formulaStrings_holds : Rows.FormulaStringsSaid :=
  OpenClaim.holds_of_wide 18 Tryz.f18 rfl rfl rfl rfl rfl rfl rfl ⟨rfl, rfl, rfl, rfl, rfl⟩ rfl rfl rfl rfl rfl formulaStrings_named Tryz.func18 formulaStrings_closed formulaStrings_instance formulaStrings_wrapper
    (fun os started H enc _ => formulaStrings_lifted os started H enc)
theorem formulaStrings_card : Rows.FormulaStringsCardSaid :=
  Claim7.holds_tied_plain_at .later [] [.data, .data, .data, .data, .funcs, .data, .pinned] true (true, "fd0a5496741cf13a563863e7cc9c9bf2af3894b6f91ceb4f6891ec9aa67d9dad") false
    formulaStrings_holds (fun _ h => by cases h) formulaStrings_byText (fun _ h => by cases h) formulaStrings_row_tie rfl ⟨rfl, rfl⟩ main_is rfl
    (fun f fn hf hfn => by
      obtain rfl : f = 18 := Option.some.inj (formulaStrings_named.symm.trans hf) |>.symm
      obtain rfl : fn = Tryz.f18 := (Option.some.inj (Tryz.func18.symm.trans hfn)).symm
      exact ⟨looks_is, fun j t ht => by
        rw [Tryz.params18] at ht
        exact formulaStrings_wants t (by simpa using Array.mem_of_getElem? ht)⟩)
    formulaStrings_goes
#print axioms formulaStrings_card
end Go.Proofs.YtjimmpldofoimaaGreatDoor
