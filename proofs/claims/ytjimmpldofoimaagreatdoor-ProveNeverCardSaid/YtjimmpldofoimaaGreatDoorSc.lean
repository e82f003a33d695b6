import Derived.Test.YtjimmpldofoimaaGreatDoorSa
import Derived.Test.YtjimmpldofoimaaGreatDoorSb
import Derived.Test.YtjimmpldofoimaaGreatDoorXc
set_option linter.unusedVariables false
set_option linter.unusedSimpArgs false
namespace Go.AL
open Go.Proofs
variable {Γ : Glob}
attribute [local irreducible] codeW opsW dopsW
theorem strs_take (W : List (List UInt8)) : (strs (W.map bts)).take W.length = strs (W.map bts) := List.take_of_length_le (by simp [strs])
theorem slW_cons (w : List UInt8) (W : List (List UInt8)) : slW (w :: W) = .sl (str (bts w) :: strs (W.map bts)) (W.length + 1) := by
 rw [slW, slStr, List.map_cons, List.length_cons, List.length_map]
 rfl
end Go.AL

namespace Go.AL
open Go.Proofs
theorem linesR_get : ∀ (rows : List (List UInt8)) (k : Nat) (x : List UInt8), (linesR rows)[k]? = some x → ∃ r rs, rows.drop k = r :: rs ∧ ((rs ≠ [] ∧ x = r ++ [10]) ∨ (rs = [] ∧ x = r ∧ r ≠ []))
 | [], k, x, h => by simp [linesR] at h
 | [r], k, x, h => by
  rw [linesR] at h
  split at h
  ·simp at h
  ·rename_i hr
   cases k with
   | zero =>
    simp at h
    subst h
    exact ⟨_, [], rfl, .inr ⟨rfl, rfl, hr⟩⟩
   | succ k => simp at h
 | r :: r' :: rs, k, x, h => by
  rw [linesR_two] at h
  cases k with
  | zero =>
   simp at h
   subst h
   exact ⟨r, r' :: rs, rfl, .inl ⟨by simp, rfl⟩⟩
  | succ k =>
   rw [List.getElem?_cons_succ] at h
   rw [List.drop_succ_cons]
   exact linesR_get (r' :: rs) k x h
theorem linesR_end : ∀ (rows : List (List UInt8)), rows.drop (linesR rows).length ≠ [] → rows.drop (linesR rows).length = [[]]
 | [], h => by simp [linesR] at h
 | [r], h => by
  rw [linesR] at h ⊢
  by_cases hr : r = []
  ·subst hr; rfl
  ·rw [if_neg hr] at h; simp at h
 | r :: r' :: rs, h => by
  rw [linesR_two, List.length_cons, List.drop_succ_cons] at h ⊢
  exact linesR_end (r' :: rs) h
variable {Γ : Glob}
attribute [local irreducible] codeW opsW dopsW
theorem linesR_len : ∀ rows : List (List UInt8), (linesR rows).length ≤ rows.length
 | [] => Nat.le_refl _
 | [r] => by
  rw [linesR]
  split <;> simp
 | r :: r' :: rs => by
  have := linesR_len (r' :: rs)
  rw [linesR_two, List.length_cons, List.length_cons]
  omega
def noLine (cs : List AV) (s : Nat) : Prop := s ≠ 1 ∨ ∃ n, cs = [int n]
theorem no_line {cs : List AV} {s c : Nat} (h : noLine cs s) : ¬ lineC (.row cs s c) := fun ⟨x, e⟩ => by
 cases e
 rcases h with h | ⟨n, h⟩
 ·exact h rfl
 ·cases h
theorem no_lineE {b b' : Nat} {cs : List AV} {s c : Nat} (h : noLine cs s) : ¬ lineE b b' (.row cs s c) := fun e => no_line h e.2
theorem no_lineK {cs : List AV} {s c : Nat} (h : noLine cs s) : ¬ KD lineC (.row cs s c) := fun e => e.elim (fun h => h) (no_line h)
theorem keep_app {σ0 σ σ2 : Sig} {s n : Nat} {a : AV} {cs : List AV} (hO : Others a σ σ2) (hG : Grow σ0 σ s a cs n) (hs : s ≠ 1) : Keep (KD lineC) σ σ2 := fun b x hb hx => by
 rw [hO b ?_ (by rw [hb]; simp)]
 ·exact hb
 ·intro s1 o m e
  rcases hG with ⟨h, _⟩ | ⟨b', c, h0, h1, h2, h3⟩
  ·rcases h with rfl | rfl <;> cases e
  ·rw [e] at h0
   cases h0
   rw [h2] at hb
   cases hb
   exact no_lineK (.inl hs) hx
theorem Grow.toNo2 {σ0 σ : Sig} {s n : Nat} {a : AV} {cs : List AV} (h : Grow σ0 σ s a cs n) : Fz σ noB a (.sl cs n) := by
 rcases h with ⟨h, rfl, rfl⟩ | ⟨b, c, rfl, h1, h2, h3⟩
 ·rcases h with rfl | rfl
  ·exact .nil
  ·exact .e0
 ·refine .own h2 rfl ?_
  have : (cs.drop (0 * s)).take (n * s) = cs := by simp [← h3]
  rw [this]
  exact .refl cs
end Go.AL
