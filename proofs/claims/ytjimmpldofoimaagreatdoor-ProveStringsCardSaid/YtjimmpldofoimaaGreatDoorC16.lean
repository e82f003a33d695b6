/- ProveStrings: for every input the law returns true, and the arguments read as before. It has no condition of its own: the listed variables read as the program's text lays them, and that is tied here. -/
import Derived.Test.YtjimmpldofoimaaGreatDoorBq
import Derived.Test.YtjimmpldofoimaaGreatDoorJ16
import Derived.Test.YtjimmpldofoimaaGreatDoorSf
import Derived.Test.YtjimmpldofoimaaGreatDoorTie
import Derived.Test.YtjimmpldofoimaaGreatDoorCards
import Derived.SevenTiedAt
set_option linter.unusedVariables false
namespace Go.Proofs.YtjimmpldofoimaaGreatDoor
open Go.AL Go.ChangeShapes Go.WideShapes Go.ChangeAt Go.WideMaps Go.WideElems Go.RowKit
set_option maxRecDepth 100000 in
theorem proveStrings_lifted (os : Os) (started : os.Started) (H : Type) (enc : TypeId × Value → H) :
    ReturnsInHanded {} Tryz.checked os 17 .any (fun w args => (Rows.proveStringsSpec.pre enc Tryz.prog Tryz.f17 [] false w args ∧ laidMetH Tryz.prog laidT w) ∧ sizedMet enc Tryz.prog Tryz.f17 (OpenSpec.ofChange Rows.proveStringsSpec) false w args)
      (Rows.proveStringsSpec.post enc Tryz.prog Tryz.f17 false true false false) := by
  refine returnsInHanded_of_change_and (C := Tryz.checked) (X := fun w _ => laidMetH Tryz.prog laidT w) (fun _ _ _ hh h => h.of_heap hh) own started (by kernel_rfl) Tryz.func17
    (ChangeSpec.witness_shaped (enc := enc) (C := Tryz.checked) (os := os) (X := fun w _ => laidMetH Tryz.prog laidT w) false (worldS os) #[.agg #[.slice none 0 0], .int .i64 0, .string ⟨#[]⟩] 8 rfl (World.shaped_of_RefB (by kernel_rfl) (by kernel_rfl)) (by kernel_rfl) (by kernel_rfl) (by kernel_rfl) (door_metT os _)) ?_
  intro W base args ds gs before hval0 hW _ _ hL _
  have hval : ∀ (j : Nat) t v, Tryz.f17.params[j]? = some t → args[j]? = some v → Value.okWide Tryz.prog W .any base t v := hval0
  have hW' := hW
  obtain ⟨p, q, hA0, hV, rfl, hfz, hnd⟩ := hW
  have hA : DataW.TrodAll enc Tryz.prog W 0 (fun _ => true) true Tryz.f17.params.toList args.toList ds p := hA0
  rw [Tryz.params17] at hA hval
  obtain ⟨v0, v1, v2, d0, d1, d2, p0, p1, p2, rfl, rfl, rfl, h0, h1, h2⟩ := trodAll_three hA
  obtain ⟨rfl, rfl⟩ := trodVars_none hV
  obtain ⟨p, ⟨hp, hpc⟩, rep0⟩ := arg25 (hval 0 25 v0 rfl rfl) h0
  obtain ⟨n, rfl⟩ := arg3 (hval 1 3 v1 rfl rfl)
  obtain ⟨s, rfl⟩ := arg9 (hval 2 9 v2 rfl rfl)
  clear hA0 hval0
  simp only [List.append_nil] at hW'
  have hcall := callsIn_wide.1 (((Go.AL.f17 (Γ := Γ29S) rfl rfl rfl p n s (Nat.le_trans hp (by decide))) noB).2 W [v0, .int .i64 n, .string s] (rel_of_laidT hL) (.cons rep0 (.cons (.v _) (.cons (.v _) .nil))))
  refine hcall.mono fun e W' ⟨v, r, σ', he, hr, _, hx, hrr, hσ⟩ => ?_
  subst hrr; subst hσ; subst he
  have bel := below_of_ext hx
  have hlt : ∀ x ∈ p0 ++ (p1 ++ p2), x.block < W.heap.size := fun x hx => by simpa using hW'.lt x (by simpa using hx)
  cases hr
  refine ⟨_, rfl, ⟨_, _, _, [], p0 ++ (p1 ++ p2), [], hW', ?_, ?_, rfl, bel.frame _, fun h => by cases h⟩⟩
  · exact trodAll_mk1 (shut_bool us4 _)
  · exact trodAll_mk3 (Below.trod laidOut (by kernel_rfl) (of_decide_eq_true (by kernel_rfl)) h0 bel (fun x hx => hlt x (by simp [hx]))) (Below.trod laidOut (by kernel_rfl) (of_decide_eq_true (by kernel_rfl)) h1 bel (fun x hx => hlt x (by simp [hx]))) (Below.trod laidOut (by kernel_rfl) (of_decide_eq_true (by kernel_rfl)) h2 bel (fun x hx => hlt x (by simp [hx])))
theorem proveStrings_holds : Rows.ProveStringsSaid :=
  OpenClaim.holds_of_wide 17 Tryz.f17 rfl rfl rfl rfl rfl rfl rfl ⟨rfl, rfl, rfl, rfl, rfl⟩ rfl rfl rfl rfl rfl proveStrings_named Tryz.func17 proveStrings_closed proveStrings_instance proveStrings_wrapper
    (fun os started H enc _ => proveStrings_lifted os started H enc)
theorem proveStrings_card : Rows.ProveStringsCardSaid :=
  Claim7.holds_tied_plain_at .later [] [.data, .data, .data, .data, .data, .funcs, .pinned] true (true, "fd0a5496741cf13a563863e7cc9c9bf2af3894b6f91ceb4f6891ec9aa67d9dad") false
    proveStrings_holds (fun _ h => by cases h) proveStrings_byText (fun _ h => by cases h) proveStrings_row_tie rfl ⟨rfl, rfl⟩ main_is rfl
    (fun f fn hf hfn => by
      obtain rfl : f = 17 := Option.some.inj (proveStrings_named.symm.trans hf) |>.symm
      obtain rfl : fn = Tryz.f17 := (Option.some.inj (Tryz.func17.symm.trans hfn)).symm
      exact ⟨looks_is, fun j t ht => by
        rw [Tryz.params17] at ht
        exact proveStrings_wants t (by simpa using Array.mem_of_getElem? ht)⟩)
    proveStrings_goes
#print axioms proveStrings_card
end Go.Proofs.YtjimmpldofoimaaGreatDoor
