/- Small and used of the reference. -/
import Derived.Test.YtjimmpldofoimaaGreatDoorLb
import Derived.Test.YtjimmpldofoimaaGreatDoorXq
set_option linter.unusedVariables false
set_option linter.unusedSimpArgs false
namespace Go.AL
open Go.Proofs
variable {Γ : Glob}
attribute [local irreducible] codeW opsW dopsW
/-! ### used -/
end Go.AL

/- FormulaMeans: the law holds at all formulas and all values. -/
set_option linter.unusedVariables false
set_option linter.unusedSimpArgs false
namespace Go.AL
open Go.Proofs
variable {Γ : Glob}
attribute [local irreducible] codeW opsW dopsW
theorem short_fitM {f : Fm} (h : shortFB f = true) : f.nodes.length ≤ 201 ∧ ∀ n ∈ f.nodes, NdFit n := by
  unfold shortFB at h
  rw [Bool.and_eq_true, Bool.or_eq_true, decide_eq_true_eq, decide_eq_true_eq, List.all_eq_true] at h
  refine ⟨by omega, fun n hn => ?_⟩
  have := h.1 n hn
  simp [shortNdB] at this
  exact ⟨by omega, by omega⟩
theorem f41ok (hG : Γ 0 = some sortsT) {f : Fm} {vs : List Int} (h : checkE f = 0) (hv : valuesE vs f.vars = 0) (hc : ∀ n ∈ f.nodes, NdFit n) : PCalls Tryz.prog Γ 41 [fmA f, slI vs] (.tup [.v (.bool (holdsB f vs)), int 0]) := by
  obtain ⟨hne, hl200, hv0, hv8, hN⟩ := check_ok h
  obtain ⟨hvl, _⟩ := values_okM hv
  have he : holdsE f vs = 0 := (firstE_zero _).2 fun x hx => by
    simp only [List.mem_cons, List.not_mem_nil, or_false] at hx
    rcases hx with rfl | rfl
    · exact h
    · exact hv
  have := f41 hG f vs (by omega) hc (by omega)
  rwa [he, if_pos rfl] at this
theorem fit_of {f : Fm} (h : checkE f = 0) : f.nodes.length ≤ 200 ∧ ∀ n ∈ f.nodes, NdFit n := by
  obtain ⟨hne, hl200, hv0, hv8, hN⟩ := check_ok h
  refine ⟨hl200, fun n hn => ?_⟩
  obtain ⟨i, hi, rfl⟩ := List.getElem_of_mem hn
  have hO := hN i _ (List.getElem?_eq_getElem hi)
  by_cases h1 : (f.nodes[i]).kind ≤ 1
  · obtain ⟨_, a, b⟩ := hO.term h1
    exact ⟨by omega, by rw [b]; exact Nat.zero_le _⟩
  · obtain ⟨a, b, _⟩ := hO.form (by omega)
    exact ⟨by rw [a]; exact Nat.zero_le _, by omega⟩
end Go.AL
