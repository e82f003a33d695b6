/- The plain laws of the checks: the program's error is the reference's. -/
import Derived.Test.YtjimmpldofoimaaGreatDoorWb
set_option linter.unusedVariables false
set_option linter.unusedSimpArgs false
namespace Go.AL
theorem withinE_03 (n a b : Int) : withinE n a b = 0 ∨ withinE n a b = 3 := by unfold withinE; split <;> simp
theorem firstE_03 {α : Type} (g : α → Int) (hg : ∀ x, g x = 0 ∨ g x = 3) (l : List α) : firstE (l.map g) = whenE (!(l.all fun x => decide (g x = 0))) 3 := by
  induction l with
  | nil => simp [firstE_nil, whenE]
  | cons x l ih =>
    rw [List.map_cons, firstE_cons, List.all_cons]
    rcases hg x with h | h
    · rw [if_pos h, ih]; simp [h]
    · rw [if_neg (by omega), h]; simp [whenE]
theorem numbers_eq (t : Tm) : numbersE t = whenE (!inRangeB t) 3 := by
  unfold numbersE
  rw [inRangeB_eq, firstE_03 _ (fun x => withinE_03 _ _ _), firstE_cons, firstE_cons, firstE_nil]
  rcases withinE_03 t.const (-1000000000000) 1000000000000 with h | h
  · cases hb : t.coeffs.all fun n => decide (withinE n (-1000000) 1000000 = 0) <;> simp [h, hb, whenE]
  · cases hb : t.coeffs.all fun n => decide (withinE n (-1000000) 1000000 = 0) <;> simp [h, hb, whenE]
theorem checkTerm_eq (t : Tm) (n : Int) : checkTermE t n = checkTermR t n := by rw [checkTermE, checkTermR, numbers_eq]
theorem checkTerms_eq (l : List Tm) : checkTermsE l = checkTermsR l := by
  unfold checkTermsE checkTermsR
  simp only [checkTerm_eq]
theorem step_eq (s : St) (n vars : Int) : stepE s n vars = stepR s n vars := by
  unfold stepE stepR earlierE
  cases s.leaf with
  | true =>
    simp only [if_true]
    split
    · rfl
    · rw [firstE_cons, firstE_cons, firstE_nil]
      split
      · generalize whenE _ 1 = B
        by_cases hB : B = 0 <;> simp [hB]
      · rfl
  | false =>
    simp only [Bool.false_eq_true, if_false, firstE_cons, firstE_nil]
    generalize whenE (decide (0 < s.factors.length)) 1 = A
    generalize whenE (decide (s.var < 0) || decide (vars ≤ s.var)) 8 = B
    generalize withinE s.bound (-4294967295) 4294967295 = C
    by_cases hA : A = 0
    · by_cases hB : B = 0
      · by_cases hC : C = 0
        · by_cases a : s.k0 < 0 <;> by_cases b : n ≤ s.k0 <;> by_cases c : s.k1 < 0 <;> by_cases d : n ≤ s.k1 <;> simp [hA, hB, hC, whenE, a, b, c, d]
        · simp [hA, hB, hC]
      · simp [hA, hB]
    · simp [hA]
theorem steps_eq (vars : Int) (k : Nat) (l : List St) : stepsE vars k l = stepsR vars k l := by
  induction l generalizing k with
  | nil => rfl
  | cons s l ih => rw [stepsE, stepsR, step_eq, ih]
theorem checkForm_eq (l : List St) (vars : Int) : checkFormE l vars = checkFormR l vars := by
  unfold checkFormE checkFormR
  simp only [steps_eq]
end Go.AL
