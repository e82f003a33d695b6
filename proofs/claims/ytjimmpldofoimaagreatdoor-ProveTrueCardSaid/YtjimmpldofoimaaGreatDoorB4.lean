/- Further arguments of the laws, as data, opened for the walks. -/
import Derived.Test.YtjimmpldofoimaaGreatDoorBa
import Derived.Test.YtjimmpldofoimaaGreatDoorWe
set_option linter.unusedVariables false
set_option linter.unusedSimpArgs false
namespace Go.AL
open Go.Proofs Go.Deep Go.ChangeShapes Go.WideShapes
section
variable {H : Type} {enc : TypeId × Value → H} {w : World} {base : Nat} {spare : Nat → Bool} {held : Bool}
set_option maxRecDepth 20000 in
theorem opn97 : Opn enc Tryz.prog w base spare held 97 rgC (fun _ => True) := by
  intro fuel cs x h
  obtain ⟨xs, n, rfl, rfl, hl, hxl, hf⟩ := DataW.trod_struct (fieldsOf_some fs97) h
  have hl2 : cs.length = 2 := hl.trans (by kernel_rfl)
  match cs, hl2 with
  | [c0, c1], _ =>
    have f0 := hf 0 _ rfl
    have f1 := hf 1 _ rfl
    have e1 : Tryz.prog.cellsOf 3 = 1 := by kernel_rfl
    simp only [List.size_toArray, List.length_cons, List.length_nil] at hxl
    match xs, hxl with
    | [x0, x1], _ =>
      simp only [e1, List.drop_zero, List.drop_succ_cons, List.take_succ_cons, List.take_zero, List.getElem?_cons_zero, List.getElem?_cons_succ] at f0 f1
      obtain ⟨a, _, h1⟩ := opn_int us3 _ _ _ f0
      obtain ⟨b, _, h2⟩ := opn_int us3 _ _ _ f1
      exact ⟨⟨a, b⟩, trivial, h1.append h2⟩
theorem opn45 : Opn enc Tryz.prog w base spare held 45 (fun l : List Rg => [slR l]) (fun l => l.length ≤ maxLen ∧ ∀ t ∈ l, True) :=
  opn_slice us45 (s := 2) (by kernel_rfl) rgC_len opn97
variable {v : Value} {d : DataW H} {q : List MemPlace} {r : Reach} {b0 : Nat}
set_option maxRecDepth 20000 in
theorem arg45 (hval : Value.okWide Tryz.prog w r b0 45 v) (h : DataW.Trod enc Tryz.prog w base spare held 45 v d q) : ∃ l : List Rg, l.length ≤ maxLen ∧ Rep w noB (slR l) v := by
  obtain ⟨a, n, c, rfl⟩ := okWide_slice us45 hval
  obtain ⟨fuel, hf⟩ := h
  obtain ⟨l, h1, h2⟩ := opn45 _ _ _ hf
  cases h2 with
  | cons h3 _ => exact ⟨l, h1.1, h3⟩
set_option maxRecDepth 20000 in
theorem arg46 (hval : Value.okWide Tryz.prog w r b0 46 v) (h : DataW.Trod enc Tryz.prog w base spare held 46 v d q) : ∃ l : List Int, l.length ≤ maxLen ∧ Rep w noB (slI l) v := by
  obtain ⟨a, n, c, rfl⟩ := okWide_slice us46 hval
  obtain ⟨fuel, hf⟩ := h
  obtain ⟨l, h1, h2⟩ := opn46 _ _ _ hf
  cases h2 with
  | cons h3 _ => exact ⟨l, h1, h3⟩
end
end Go.AL
