/- ProveFormulas: for every input the law returns true, and the arguments read as before. It has no condition of its own: the listed variables read as the program's text lays them, and that is tied here. -/
import Derived.Test.YtjimmpldofoimaaGreatDoorBq
import Derived.Test.YtjimmpldofoimaaGreatDoorJ13
import Derived.Test.YtjimmpldofoimaaGreatDoorXn
import Derived.Test.YtjimmpldofoimaaGreatDoorTie
import Derived.Test.YtjimmpldofoimaaGreatDoorCards
import Derived.SevenTiedAt
set_option linter.unusedVariables false
namespace Go.Proofs.YtjimmpldofoimaaGreatDoor
open Go.AL Go.ChangeShapes Go.WideShapes Go.ChangeAt Go.WideMaps Go.WideElems Go.RowKit
set_option maxRecDepth 100000 in
theorem proveFormulas_lifted (os : Os) (started : os.Started) (H : Type) (enc : TypeId × Value → H) :
  ReturnsInHanded {} Tryz.checked os 16 .any (fun w args => (Rows.proveFormulasSpec.pre enc Tryz.prog Tryz.f16 [] false w args ∧ laidMetH Tryz.prog laidB w) ∧ sizedMet enc Tryz.prog Tryz.f16 (OpenSpec.ofChange Rows.proveFormulasSpec) false w args)
   (Rows.proveFormulasSpec.post enc Tryz.prog Tryz.f16 false true false false) := by
 refine returnsInHanded_of_change_and (C := Tryz.checked) (X := fun w _ => laidMetH Tryz.prog laidB w) (fun _ _ _ hh h => h.of_heap hh) own started (by kernel_rfl) Tryz.func16
  (ChangeSpec.witness_shaped (enc := enc) (C := Tryz.checked) (os := os) (X := fun w _ => laidMetH Tryz.prog laidB w) false (World.doorLaid Tryz.prog 61 os) #[.agg #[.int .i64 0, .slice none 0 0], .slice none 0 0] 8 rfl (World.shaped_of_RefB (by kernel_rfl) (by kernel_rfl)) (by kernel_rfl) (by kernel_rfl) (by kernel_rfl) (door_metB os _)) ?_
 intro W base args ds gs before hval0 hW _ _ hL _
 have hval : ∀ (j : Nat) t v, Tryz.f16.params[j]? = some t → args[j]? = some v → Value.okWide Tryz.prog W .any base t v := hval0
 have hW' := hW
 obtain ⟨p, q, hA0, hV, rfl, hfz, hnd⟩ := hW
 have hA : DataW.TrodAll enc Tryz.prog W 0 (fun _ => true) true Tryz.f16.params.toList args.toList ds p := hA0
 rw [Tryz.params16] at hA hval
 obtain ⟨v0, v1, d0, d1, p0, p1, rfl, rfl, rfl, h0, h1⟩ := trodAll_two hA
 obtain ⟨rfl, rfl⟩ := trodVars_none hV
 obtain ⟨f, hf, rep0⟩ := arg60 (hval 0 60 v0 rfl rfl) h0
 obtain ⟨ps, ⟨hps, hpsc⟩, rep1⟩ := arg152 (hval 1 152 v1 rfl rfl) h1
 clear hA0 hval0
 simp only [List.append_nil] at hW'
 have hcall := callsIn_wide.1 (((Go.AL.f16 (Γ := ΓB) rfl rfl rfl rfl f ps (Nat.le_trans hf (by decide)) (Nat.le_trans hps (by decide)) (fun p hp => Nat.le_trans (hpsc p hp).1 (by decide))) noB).2 W [v0, v1] (rel_of_laidB hL) (.cons rep0 (.cons rep1 .nil)))
 refine hcall.mono fun e W' ⟨v, r, σ', he, hr, _, hx, hrr, hσ⟩ => ?_
 subst hrr; subst hσ; subst he
 have bel := below_of_ext hx
 have hlt : ∀ x ∈ p0 ++ p1, x.block < W.heap.size := fun x hx => by simpa using hW'.lt x (by simpa using hx)
 cases hr
 refine ⟨_, rfl, ⟨_, _, _, [], p0 ++ p1, [], hW', ?_, ?_, rfl, bel.frame _, fun h => by cases h⟩⟩
 ·exact trodAll_mk1 (shut_bool us4 _)
 ·exact trodAll_mk2 (Below.trod laidOut (by kernel_rfl) (of_decide_eq_true (by kernel_rfl)) h0 bel (fun x hx => hlt x (by simp [hx]))) (Below.trod laidOut (by kernel_rfl) (of_decide_eq_true (by kernel_rfl)) h1 bel (fun x hx => hlt x (by simp [hx])))
theorem proveFormulas_holds : Rows.ProveFormulasSaid :=
 OpenClaim.holds_of_wide 16 Tryz.f16 rfl rfl rfl rfl rfl rfl rfl ⟨rfl, rfl, rfl, rfl, rfl⟩ rfl rfl rfl rfl rfl proveFormulas_named Tryz.func16 proveFormulas_closed proveFormulas_instance proveFormulas_wrapper
  (fun os started H enc _ => proveFormulas_lifted os started H enc)
theorem proveFormulas_card : Rows.ProveFormulasCardSaid :=
 Claim7.holds_tied_plain_at .later [] [.data, .data, .data, .funcs, .data, .data, .funcs] true (true, "fd0a5496741cf13a563863e7cc9c9bf2af3894b6f91ceb4f6891ec9aa67d9dad") false
  proveFormulas_holds (fun _ h => by cases h) proveFormulas_byText (fun _ h => by cases h) proveFormulas_row_tie rfl ⟨rfl, rfl⟩ main_is rfl
  (fun f fn hf hfn => by
   obtain rfl : f = 16 := Option.some.inj (proveFormulas_named.symm.trans hf) |>.symm
   obtain rfl : fn = Tryz.f16 := (Option.some.inj (Tryz.func16.symm.trans hfn)).symm
   exact ⟨looks_is, fun j t ht => by
    rw [Tryz.params16] at ht
    exact proveFormulas_wants t (by simpa using Array.mem_of_getElem? ht)⟩)
  proveFormulas_goes
#print axioms proveFormulas_card
end Go.Proofs.YtjimmpldofoimaaGreatDoor
