/- The reference's cases, told plainly, and that they are the library's. -/
import Derived.Test.YtjimmpldofoimaaGreatDoorXe
import Derived.Test.YtjimmpldofoimaaGreatDoorXq
set_option linter.unusedVariables false
set_option linter.unusedSimpArgs false
namespace Go.AL
/-! ### The lists of the reference -/
/-! ### What the loops come to, once the kids are known -/
/-! ### Terms -/
/-! ### The lists of the reference are the library's -/
/-! ### Which ways are used -/
def hit (l : List Nd) (M : List Bool × List Bool) (j : Nat) : Prop := ((M.1[j]?).getD false = true ∧ larW l ((j : Int), false) = true) ∨ ((M.2[j]?).getD false = true ∧ larW l ((j : Int), true) = true)
end Go.AL

/- What the cases mean: a node holds exactly if all terms of one of its cases are at least 0. -/
set_option linter.unusedVariables false
set_option linter.unusedSimpArgs false
namespace Go.AL
/-! ### Exact values -/
def dotZ : List Int → List Int → Int
  | c :: cs, v :: vs => c * v + dotZ cs vs
  | _, _ => 0
def valZ (t : Tm) (vs : List Int) : Int := t.const + dotZ t.coeffs vs
def ValZ (vs : List Int) : Prop := ∀ v ∈ vs, -4294967295 ≤ v ∧ v ≤ 4294967295
def CsZ (cs : List Int) : Prop := ∀ c ∈ cs, -1000000 ≤ c ∧ c ≤ 1000000
theorem mul_bdZ {c h : Int} (hc : -1000000 ≤ c ∧ c ≤ 1000000) (hh : -4294967295 ≤ h ∧ h ≤ 4294967295) : -4294967295000000 ≤ c * h ∧ c * h ≤ 4294967295000000 := by
  have h1 : (c * h).natAbs ≤ 1000000 * 4294967295 := by
    rw [Int.natAbs_mul]
    exact Nat.mul_le_mul (by omega) (by omega)
  omega
theorem valueF_Z : ∀ (cs vs : List Int) (n B : Int), -B ≤ n → n ≤ B → B + cs.length * 4294967295000000 ≤ 9000000000000000000 → CsZ cs → ValZ vs → valueF cs vs n = n + dotZ cs vs
  | [], _, n, _, _, _, _, _, _ => by simp [valueF, dotZ]
  | _ :: _, [], n, _, _, _, _, _, _ => by simp [valueF, dotZ]
  | c :: cs, v :: vs, n, B, h1, h2, hB, hc, hv => by
    have hcc := hc c List.mem_cons_self
    have hvv := hv v List.mem_cons_self
    have hp := mul_bdZ hcc hvv
    simp only [List.length_cons] at hB
    rw [valueF, dotZ, wrap_i64 (c * v) (by omega) (by omega), wrap_i64 (n + c * v) (by omega) (by omega)]
    rw [valueF_Z cs vs (n + c * v) (B + 4294967295000000) (by omega) (by omega) (by omega) (fun x hx => hc x (List.mem_cons_of_mem _ hx)) (fun x hx => hv x (List.mem_cons_of_mem _ hx))]
    omega
/-- A term whose numbers are near their ranges. -/
def Near (t : Tm) : Prop := t.coeffs.length ≤ 8 ∧ CsZ t.coeffs ∧ -2000000000000 ≤ t.const ∧ t.const ≤ 2000000000000
theorem Near.val {t : Tm} (h : Near t) {vs : List Int} (hv : ValZ vs) : valueR t vs = valZ t vs := by
  obtain ⟨h1, h2, h3, h4⟩ := h
  exact valueF_Z t.coeffs vs t.const 2000000000000 (by omega) h4 (by omega) h2 hv
theorem Near.less {t : Tm} (h : Near t) {c : Int} (h1 : -3 ≤ c) (h2 : c ≤ 3) (hb : -1100000000000 ≤ t.const ∧ t.const ≤ 1100000000000) : lessT t c = ⟨t.coeffs, t.const - c⟩ ∧ Near (lessT t c) := by
  obtain ⟨g1, g2, g3, g4⟩ := h
  have e : lessT t c = ⟨t.coeffs, t.const - c⟩ := by
    rw [lessT, plusT, plusC_nil]
    simp only
    rw [wrap_i64 (-1 * c) (by omega) (by omega), wrap_i64 _ (by omega) (by omega)]
    congr 1
    omega
  refine ⟨e, ?_⟩
  rw [e]
  exact ⟨g1, g2, by show -2000000000000 ≤ t.const - c; omega, by show t.const - c ≤ 2000000000000; omega⟩
/-! ### Truths -/
end Go.AL

/- Formulas joined, and turned: they are right, and what they mean. -/
set_option linter.unusedVariables false
set_option linter.unusedSimpArgs false
namespace Go.AL
open Go.Proofs
/-! ### What they mean -/
end Go.AL

/- What FormulaMeans asks of the plain laws: the terms of cases are right, their values are exact. -/
set_option linter.unusedVariables false
set_option linter.unusedSimpArgs false
namespace Go.AL
open Go.Proofs
end Go.AL
