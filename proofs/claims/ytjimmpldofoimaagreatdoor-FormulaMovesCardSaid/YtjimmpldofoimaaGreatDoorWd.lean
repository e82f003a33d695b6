/- The plain laws of the checks: the program's error is the reference's. -/
import Derived.Test.YtjimmpldofoimaaGreatDoorWb
set_option linter.unusedVariables false
set_option linter.unusedSimpArgs false
namespace Go.AL
theorem withinE_03 (n a b : Int) : withinE n a b = 0 ∨ withinE n a b = 3 := by unfold withinE; split <;> simp
theorem firstE_03 {α : Type} (g : α → Int) (hg : ∀ x, g x = 0 ∨ g x = 3) (l : List α) : firstE (l.map g) = whenE (!(l.all fun x => decide (g x = 0))) 3 := by
  induction l with
  | nil => simp [firstE_nil, whenE]
  | cons x l ih =>
    rw [List.map_cons, firstE_cons, List.all_cons]
    rcases hg x with h | h
    · rw [if_pos h, ih]; simp [h]
    · rw [if_neg (by omega), h]; simp [whenE]
theorem numbers_eq (t : Tm) : numbersE t = whenE (!inRangeB t) 3 := by
  unfold numbersE
  rw [inRangeB_eq, firstE_03 _ (fun x => withinE_03 _ _ _), firstE_cons, firstE_cons, firstE_nil]
  rcases withinE_03 t.const (-1000000000000) 1000000000000 with h | h
  · cases hb : t.coeffs.all fun n => decide (withinE n (-1000000) 1000000 = 0) <;> simp [h, hb, whenE]
  · cases hb : t.coeffs.all fun n => decide (withinE n (-1000000) 1000000 = 0) <;> simp [h, hb, whenE]
theorem checkTerm_eq (t : Tm) (n : Int) : checkTermE t n = checkTermR t n := by rw [checkTermE, checkTermR, numbers_eq]
end Go.AL
