/- ProveNever: for every input the law returns true, and the arguments read as before. It has no condition of its own: the listed variables read as the program's text lays them, and that is tied here. -/
import Derived.Test.YtjimmpldofoimaaGreatDoorBq
import Derived.Test.YtjimmpldofoimaaGreatDoorJ17
import Derived.Test.YtjimmpldofoimaaGreatDoorSf
import Derived.Test.YtjimmpldofoimaaGreatDoorTie
import Derived.Test.YtjimmpldofoimaaGreatDoorCards
import Derived.SevenTiedAt
set_option linter.unusedVariables false
namespace Go.Proofs.YtjimmpldofoimaaGreatDoor
open Go.AL Go.ChangeShapes Go.WideShapes Go.ChangeAt Go.WideMaps Go.WideElems Go.RowKit
set_option maxRecDepth 100000 in
theorem proveNever_lifted (os : Os) (started : os.Started) (H : Type) (enc : TypeId × Value → H) :
  ReturnsInHanded {} Tryz.checked os 15 .any (fun w args => (Rows.proveNeverSpec.pre enc Tryz.prog Tryz.f15 [] false w args ∧ laidMetH Tryz.prog laidU w) ∧ sizedMet enc Tryz.prog Tryz.f15 (OpenSpec.ofChange Rows.proveNeverSpec) false w args)
   (Rows.proveNeverSpec.post enc Tryz.prog Tryz.f15 false true false false) := by
 refine returnsInHanded_of_change_and (C := Tryz.checked) (X := fun w _ => laidMetH Tryz.prog laidU w) (fun _ _ _ hh h => h.of_heap hh) own started (by kernel_rfl) Tryz.func15
  (ChangeSpec.witness_shaped (enc := enc) (C := Tryz.checked) (os := os) (X := fun w _ => laidMetH Tryz.prog laidU w) false (worldS os) #[.agg #[.int .i64 0, .slice none 0 0], .slice none 0 0, .agg #[.slice none 0 0]] 8 rfl (World.shaped_of_RefB (by kernel_rfl) (by kernel_rfl)) (by kernel_rfl) (by kernel_rfl) (by kernel_rfl) (door_metU os _)) ?_
 intro W base args ds gs before hval0 hW _ _ hL _
 have hval : ∀ (j : Nat) t v, Tryz.f15.params[j]? = some t → args[j]? = some v → Value.okWide Tryz.prog W .any base t v := hval0
 have hW' := hW
 obtain ⟨p, q, hA0, hV, rfl, hfz, hnd⟩ := hW
 have hA : DataW.TrodAll enc Tryz.prog W 0 (fun _ => true) true Tryz.f15.params.toList args.toList ds p := hA0
 rw [Tryz.params15] at hA hval
 obtain ⟨v0, v1, v2, d0, d1, d2, p0, p1, p2, rfl, rfl, rfl, h0, h1, h2⟩ := trodAll_three hA
 obtain ⟨rfl, rfl⟩ := trodVars_none hV
 obtain ⟨f, hf, rep0⟩ := arg60 (hval 0 60 v0 rfl rfl) h0
 obtain ⟨vs, hvs, rep1⟩ := arg46 (hval 1 46 v1 rfl rfl) h1
 obtain ⟨p, ⟨hp, hpc⟩, rep2⟩ := arg25 (hval 2 25 v2 rfl rfl) h2
 clear hA0 hval0
 simp only [List.append_nil] at hW'
 have hcall := callsIn_wide.1 (((Go.AL.f15 (Γ := ΓB) rfl rfl rfl rfl rfl f vs p (Nat.le_trans hf (by decide)) (Nat.le_trans hvs (by decide)) (Nat.le_trans hp (by decide))) noB).2 W [v0, v1, v2] (rel_of_laidU hL) (.cons rep0 (.cons rep1 (.cons rep2 .nil))))
 refine hcall.mono fun e W' ⟨v, r, σ', he, hr, _, hx, hrr, hσ⟩ => ?_
 subst hrr; subst hσ; subst he
 have bel := below_of_ext hx
 have hlt : ∀ x ∈ p0 ++ (p1 ++ p2), x.block < W.heap.size := fun x hx => by simpa using hW'.lt x (by simpa using hx)
 cases hr
 refine ⟨_, rfl, ⟨_, _, _, [], p0 ++ (p1 ++ p2), [], hW', ?_, ?_, rfl, bel.frame _, fun h => by cases h⟩⟩
 ·exact trodAll_mk1 (shut_bool us4 _)
 ·exact trodAll_mk3 (Below.trod laidOut (by kernel_rfl) (of_decide_eq_true (by kernel_rfl)) h0 bel (fun x hx => hlt x (by simp [hx]))) (Below.trod laidOut (by kernel_rfl) (of_decide_eq_true (by kernel_rfl)) h1 bel (fun x hx => hlt x (by simp [hx]))) (Below.trod laidOut (by kernel_rfl) (of_decide_eq_true (by kernel_rfl)) h2 bel (fun x hx => hlt x (by simp [hx])))
theorem proveNever_holds : Rows.ProveNeverSaid :=
 OpenClaim.holds_of_wide 15 Tryz.f15 rfl rfl rfl rfl rfl rfl rfl ⟨rfl, rfl, rfl, rfl, rfl⟩ rfl rfl rfl rfl rfl proveNever_named Tryz.func15 proveNever_closed proveNever_instance proveNever_wrapper
  (fun os started H enc _ => proveNever_lifted os started H enc)
theorem proveNever_card : Rows.ProveNeverCardSaid :=
 Claim7.holds_tied_plain_at .later [] [.data, .data, .data, .data, .funcs, .data, .data, .funcs, .pinned] true (true, "fd0a5496741cf13a563863e7cc9c9bf2af3894b6f91ceb4f6891ec9aa67d9dad") false
  proveNever_holds (fun _ h => by cases h) proveNever_byText (fun _ h => by cases h) proveNever_row_tie rfl ⟨rfl, rfl⟩ main_is rfl
  (fun f fn hf hfn => by
   obtain rfl : f = 15 := Option.some.inj (proveNever_named.symm.trans hf) |>.symm
   obtain rfl : fn = Tryz.f15 := (Option.some.inj (Tryz.func15.symm.trans hfn)).symm
   exact ⟨looks_is, fun j t ht => by
    rw [Tryz.params15] at ht
    exact proveNever_wants t (by simpa using Array.mem_of_getElem? ht)⟩)
  proveNever_goes
#print axioms proveNever_card
end Go.Proofs.YtjimmpldofoimaaGreatDoor
