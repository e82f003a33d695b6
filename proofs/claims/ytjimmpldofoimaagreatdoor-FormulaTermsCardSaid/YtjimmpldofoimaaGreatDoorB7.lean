/- The numbers of a question, as an argument, opened for the walks. -/
import Derived.Test.YtjimmpldofoimaaGreatDoorBa
import Derived.Test.YtjimmpldofoimaaGreatDoorXh
set_option linter.unusedVariables false
set_option linter.unusedSimpArgs false
namespace Go.AL
open Go.Proofs Go.Deep Go.ChangeShapes Go.WideShapes
section
variable {H : Type} {enc : TypeId × Value → H} {w : World} {base : Nat} {spare : Nat → Bool} {held : Bool}
set_option maxRecDepth 20000 in
theorem opn109 : Opn enc Tryz.prog w base spare held 109 nbC (fun x => x.vals.length ≤ maxLen) := by
  intro fuel cs x h
  obtain ⟨xs, n, rfl, rfl, hl, hxl, hf⟩ := DataW.trod_struct (fieldsOf_some fs109) h
  have hl3 : cs.length = 3 := hl.trans (by kernel_rfl)
  match cs, hl3 with
  | [c0, c1, c2], _ =>
    have f0 := hf 0 _ rfl
    have f1 := hf 1 _ rfl
    have f2 := hf 2 _ rfl
    have e0 : Tryz.prog.cellsOf 46 = 1 := by kernel_rfl
    have e1 : Tryz.prog.cellsOf 3 = 1 := by kernel_rfl
    simp only [List.size_toArray, List.length_cons, List.length_nil] at hxl
    match xs, hxl with
    | [x0, x1, x2], _ =>
      simp only [e0, e1, List.drop_zero, List.drop_succ_cons, List.take_succ_cons, List.take_zero, List.getElem?_cons_zero, List.getElem?_cons_succ] at f0 f1 f2
      obtain ⟨a, _, h1⟩ := opn_int us3 _ _ _ f0
      obtain ⟨l, h2, h3⟩ := opn46 _ _ _ f1
      obtain ⟨c, _, h4⟩ := opn_int us3 _ _ _ f2
      exact ⟨⟨a, l, c⟩, h2, h1.append (h3.append h4)⟩
variable {v : Value} {d : DataW H} {q : List MemPlace} {r : Reach} {b0 : Nat}
set_option maxRecDepth 20000 in
theorem arg109 (hval : Value.okWide Tryz.prog w r b0 109 v) (h : DataW.Trod enc Tryz.prog w base spare held 109 v d q) : ∃ x : Nb, x.vals.length ≤ maxLen ∧ Rep w noB (nbA x) v := by
  obtain ⟨cs, rfl, _⟩ := okWide_struct (fieldsOf_some fs109) hval
  obtain ⟨fuel, hf⟩ := h
  obtain ⟨t, h1, h2⟩ := opn109 _ _ _ hf
  have := Rep.agg h2
  simp only [Value.cells, Array.toArray_toList] at this
  exact ⟨t, h1, this⟩
end
end Go.AL
