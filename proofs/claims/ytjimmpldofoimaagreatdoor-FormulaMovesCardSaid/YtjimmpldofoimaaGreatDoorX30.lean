/- FormulaPuts: the law holds at every formula and all terms. -/
import Derived.Test.YtjimmpldofoimaaGreatDoorX28
set_option linter.unusedVariables false
set_option linter.unusedSimpArgs false
namespace Go.AL
open Go.Proofs
variable {Γ : Glob}
attribute [local irreducible] codeW opsW dopsW
theorem shortTs_fits {l : List Tm} (h : shortTsB l = true) : l.length ≤ 10 ∧ ∀ t ∈ l, t.coeffs.length ≤ 10 := by
  unfold shortTsB at h
  rw [Bool.and_eq_true, decide_eq_true_eq, List.all_eq_true] at h
  exact ⟨by omega, fun t ht => by simpa using h.1 t ht⟩
theorem put_one {f : Fm} {l : List Tm} (h : checkE f = 0) : putE1 f l = if (l.length : Int) = f.vars then 0 else 2 := by
  rw [putE1, firstE_cons, if_pos h, firstE_cons, firstE_nil, whenE]
  by_cases h2 : (l.length : Int) = f.vars <;> simp [h2]
theorem put_good {f : Fm} {l : List Tm} (h : checkE f = 0) (h2 : checkTsE l f.vars = 0) : putR f l = put56 f l ∧ (l.length : Int) = f.vars ∧ varsT l ≤ 8 ∧ ∀ t ∈ l, t.coeffs.length = varsT l := by
  have e := put_one (l := l) h
  unfold checkTsE at h2
  by_cases h3 : (l.length : Int) = f.vars
  · rw [if_pos h3] at e h2
    refine ⟨?_, h3, vars_terms h2⟩
    rw [putR, if_pos e, if_pos (show putE2 l = 0 from h2)]; rfl
  · rw [if_neg h3] at h2
    cases h2
end Go.AL
