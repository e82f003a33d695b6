/- FormulaCases: for every input the law returns true, and the arguments read as before. It has no condition of its own: the listed variables read as the program's text lays them, and that is tied here. -/
import Derived.Test.YtjimmpldofoimaaGreatDoorB8
import Derived.Test.YtjimmpldofoimaaGreatDoorBa
import Derived.Test.YtjimmpldofoimaaGreatDoorBc
import Derived.Test.YtjimmpldofoimaaGreatDoorJ10
import Derived.Test.YtjimmpldofoimaaGreatDoorXm
import Derived.Test.YtjimmpldofoimaaGreatDoorTie
import Derived.Test.YtjimmpldofoimaaGreatDoorCards
import Derived.SevenTiedAt
set_option linter.unusedVariables false
namespace Go.Proofs.YtjimmpldofoimaaGreatDoor
open Go.AL Go.ChangeShapes Go.WideShapes Go.ChangeAt Go.WideMaps Go.WideElems Go.RowKit
set_option maxRecDepth 100000 in
theorem formulaCases_lifted (os : Os) (started : os.Started) (H : Type) (enc : TypeId × Value → H) :
    ReturnsInHanded {} Tryz.checked os 6 .any (fun w args => (Rows.formulaCasesSpec.pre enc Tryz.prog Tryz.f6 [] false w args ∧ laidMetH Tryz.prog laidF w) ∧ sizedMet enc Tryz.prog Tryz.f6 (OpenSpec.ofChange Rows.formulaCasesSpec) false w args)
      (Rows.formulaCasesSpec.post enc Tryz.prog Tryz.f6 false true false false) := by
  refine returnsInHanded_of_change_and (C := Tryz.checked) (X := fun w _ => laidMetH Tryz.prog laidF w) (fun _ _ _ hh h => h.of_heap hh) own started (by kernel_rfl) Tryz.func6
    (ChangeSpec.witness_shaped (enc := enc) (C := Tryz.checked) (os := os) (X := fun w _ => laidMetH Tryz.prog laidF w) false (World.doorLaid Tryz.prog 61 os) #[.agg #[.int .i64 0, .slice none 0 0]] 8 rfl (World.shaped_of_RefB (by kernel_rfl) (by kernel_rfl)) (by kernel_rfl) (by kernel_rfl) (by kernel_rfl) (door_metF os _)) ?_
  intro W base args ds gs before hval0 hW _ _ hL _
  have hval : ∀ (j : Nat) t v, Tryz.f6.params[j]? = some t → args[j]? = some v → Value.okWide Tryz.prog W .any base t v := hval0
  have hW' := hW
  obtain ⟨p, q, hA0, hV, rfl, hfz, hnd⟩ := hW
  have hA : DataW.TrodAll enc Tryz.prog W 0 (fun _ => true) true Tryz.f6.params.toList args.toList ds p := hA0
  rw [Tryz.params6] at hA hval
  obtain ⟨v0, d0, rfl, rfl, h0⟩ := trodAll_one hA
  obtain ⟨rfl, rfl⟩ := trodVars_none hV
  obtain ⟨f, hf, rep0⟩ := arg60 (hval 0 60 v0 rfl rfl) h0
  clear hA0 hval0
  simp only [List.append_nil] at hW'
  have hcall := callsIn_wide.1 (((Go.AL.f6 (Γ := Γ10) rfl rfl rfl f (Nat.le_trans hf (by decide))) noB).2 W [v0] (rel_of_laidF hL) (.cons rep0 .nil))
  refine hcall.mono fun e W' ⟨v, r, σ', he, hr, _, hx, hrr, hσ⟩ => ?_
  subst hrr; subst hσ; subst he
  have bel := below_of_ext hx
  have hlt : ∀ x ∈ p, x.block < W.heap.size := fun x hx => by simpa using hW'.lt x (by simpa using hx)
  cases hr
  refine ⟨_, rfl, ⟨_, _, _, [], p, [], hW', ?_, ?_, rfl, bel.frame _, fun h => by cases h⟩⟩
  · exact trodAll_mk1 (shut_bool us4 _)
  · exact trodAll_mk1 (Below.trod laidOut (by kernel_rfl) (of_decide_eq_true (by kernel_rfl)) h0 bel (fun x hx => hlt x (by simp [hx])))
theorem formulaCases_holds : Rows.FormulaCasesSaid :=
  OpenClaim.holds_of_wide 6 Tryz.f6 rfl rfl rfl rfl rfl rfl rfl ⟨rfl, rfl, rfl, rfl, rfl⟩ rfl rfl rfl rfl rfl formulaCases_named Tryz.func6 formulaCases_closed formulaCases_instance formulaCases_wrapper
    (fun os started H enc _ => formulaCases_lifted os started H enc)
theorem formulaCases_card : Rows.FormulaCasesCardSaid :=
  Claim7.holds_tied_plain_at .later [] [.data, .data, .data, .funcs, .data] true (true, "fd0a5496741cf13a563863e7cc9c9bf2af3894b6f91ceb4f6891ec9aa67d9dad") false
    formulaCases_holds (fun _ h => by cases h) formulaCases_byText (fun _ h => by cases h) formulaCases_row_tie rfl ⟨rfl, rfl⟩ main_is rfl
    (fun f fn hf hfn => by
      obtain rfl : f = 6 := Option.some.inj (formulaCases_named.symm.trans hf) |>.symm
      obtain rfl : fn = Tryz.f6 := (Option.some.inj (Tryz.func6.symm.trans hfn)).symm
      exact ⟨looks_is, fun j t ht => by
        rw [Tryz.params6] at ht
        exact formulaCases_wants t (by simpa using Array.mem_of_getElem? ht)⟩)
    formulaCases_goes
#print axioms formulaCases_card
end Go.Proofs.YtjimmpldofoimaaGreatDoor
