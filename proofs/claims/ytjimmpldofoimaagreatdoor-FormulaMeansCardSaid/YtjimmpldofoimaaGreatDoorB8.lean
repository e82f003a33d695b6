/- A formula, as an argument, opened for the walks. -/
import Derived.Test.YtjimmpldofoimaaGreatDoorBa
import Derived.Test.YtjimmpldofoimaaGreatDoorXa
set_option linter.unusedVariables false
set_option linter.unusedSimpArgs false
namespace Go.AL
open Go.Proofs Go.Deep Go.ChangeShapes Go.WideShapes
section
variable {H : Type} {enc : TypeId × Value → H} {w : World} {base : Nat} {spare : Nat → Bool} {held : Bool}
set_option maxRecDepth 20000 in
theorem opn138 : Opn enc Tryz.prog w base spare held 138 ndC (fun _ => True) := by
  intro fuel cs x h
  obtain ⟨xs, n, rfl, rfl, hl, hxl, hf⟩ := DataW.trod_struct (fieldsOf_some fs138) h
  have hl4 : cs.length = 4 := hl.trans (by kernel_rfl)
  match cs, hl4 with
  | [c0, c1, c2, c3], _ =>
    have f0 := hf 0 _ rfl
    have f1 := hf 1 _ rfl
    have f2 := hf 2 _ rfl
    have e0 : Tryz.prog.cellsOf 46 = 1 := by kernel_rfl
    have e1 : Tryz.prog.cellsOf 3 = 1 := by kernel_rfl
    have e2 : Tryz.prog.cellsOf 88 = 2 := by kernel_rfl
    simp only [List.size_toArray, List.length_cons, List.length_nil] at hxl
    match xs, hxl with
    | [x0, x1, x2], _ =>
      simp only [e0, e1, e2, List.drop_zero, List.drop_succ_cons, List.take_succ_cons, List.take_zero, List.getElem?_cons_zero, List.getElem?_cons_succ] at f0 f1 f2
      obtain ⟨a, _, h1⟩ := opn_int us3 _ _ _ f0
      obtain ⟨t, _, h2⟩ := opn88 _ _ _ f1
      obtain ⟨l, _, h3⟩ := opn46 _ _ _ f2
      exact ⟨⟨a, t, l⟩, trivial, h1.append (h2.append h3)⟩
theorem opn58 : Opn enc Tryz.prog w base spare held 58 (fun l : List Nd => [slN l]) (fun l => l.length ≤ maxLen ∧ ∀ n ∈ l, True) :=
  opn_slice us58 (s := 4) (by kernel_rfl) ndC_len opn138
set_option maxRecDepth 20000 in
theorem opn60 : Opn enc Tryz.prog w base spare held 60 fmC (fun f => f.nodes.length ≤ maxLen) := by
  intro fuel cs x h
  obtain ⟨xs, n, rfl, rfl, hl, hxl, hf⟩ := DataW.trod_struct (fieldsOf_some fs60) h
  have hl2 : cs.length = 2 := hl.trans (by kernel_rfl)
  match cs, hl2 with
  | [c0, c1], _ =>
    have f0 := hf 0 _ rfl
    have f1 := hf 1 _ rfl
    have e0 : Tryz.prog.cellsOf 58 = 1 := by kernel_rfl
    have e1 : Tryz.prog.cellsOf 3 = 1 := by kernel_rfl
    simp only [List.size_toArray, List.length_cons, List.length_nil] at hxl
    match xs, hxl with
    | [x0, x1], _ =>
      simp only [e0, e1, List.drop_zero, List.drop_succ_cons, List.take_succ_cons, List.take_zero, List.getElem?_cons_zero, List.getElem?_cons_succ] at f0 f1
      obtain ⟨a, _, h1⟩ := opn_int us3 _ _ _ f0
      obtain ⟨l, h2, h3⟩ := opn58 _ _ _ f1
      exact ⟨⟨a, l⟩, h2.1, h1.append h3⟩
variable {v : Value} {d : DataW H} {q : List MemPlace} {r : Reach} {b0 : Nat}
set_option maxRecDepth 20000 in
theorem arg60 (hval : Value.okWide Tryz.prog w r b0 60 v) (h : DataW.Trod enc Tryz.prog w base spare held 60 v d q) : ∃ f : Fm, f.nodes.length ≤ maxLen ∧ Rep w noB (fmA f) v := by
  obtain ⟨cs, rfl, _⟩ := okWide_struct (fieldsOf_some fs60) hval
  obtain ⟨fuel, hf⟩ := h
  obtain ⟨t, h1, h2⟩ := opn60 _ _ _ hf
  have := Rep.agg h2
  simp only [Value.cells, Array.toArray_toList] at this
  exact ⟨t, h1, this⟩
end
end Go.AL
