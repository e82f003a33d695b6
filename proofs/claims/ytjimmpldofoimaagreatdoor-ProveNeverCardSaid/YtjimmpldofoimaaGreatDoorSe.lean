import Derived.Test.YtjimmpldofoimaaGreatDoorAlRules
import Derived.Test.YtjimmpldofoimaaGreatDoorSc
import Derived.Test.YtjimmpldofoimaaGreatDoorSd
import Derived.Test.YtjimmpldofoimaaGreatDoorXq
set_option linter.unusedVariables false
set_option linter.unusedSimpArgs false
namespace Go.AL
open Go.Proofs
def Off (a : AV) (i : Nat) : Prop := ∀ s o n, a ≠ .own i s o n
variable {Γ : Glob}
attribute [local irreducible] codeW opsW dopsW
def Apart (a b : AV) : Prop := ∀ i, Off a i ∨ Off b i
theorem Apart.symm {a b : AV} (h : Apart a b) : Apart b a := fun i => (h i).symm
theorem Grow.on {σ0 σ : Sig} {s n i : Nat} {a : AV} {cs : List AV} (h : Grow σ0 σ s a cs n) (hi : ¬ Off a i) : ∃ c, σ i = some (.row cs s c) := by
 rcases h with ⟨h, _⟩ | ⟨b, c, h0, h1, h2, h3⟩
 ·exact absurd (fun s o n e => by rcases h with h | h <;> rw [h] at e <;> cases e) hi
 ·by_cases e : i = b
  ·exact ⟨c, by rw [e]; exact h2⟩
  ·exact absurd (fun s o n e' => by rw [h0] at e'; cases e'; exact e rfl) hi
theorem Apart.new {σ0 σ : Sig} {s n : Nat} {a a' b : AV} {cs : List AV} (h : Apart a b) (hb : Grow σ0 σ s b cs n) (hn : ∀ i, σ i ≠ none → Off a i → Off a' i) : Apart a' b := fun i => by
 by_cases hi : Off b i
 ·exact .inr hi
 ·obtain ⟨c, hc⟩ := hb.on hi
  exact .inl (hn i (by rw [hc]; simp) ((h i).resolve_right hi))
theorem Grow.others {σ0 σ σ' : Sig} {s n : Nat} {a b : AV} {cs : List AV} (hb : Grow σ0 σ s b cs n) (h : Apart a b) (hO : Others a σ σ') : Grow σ0 σ' s b cs n := by
 rcases hb with h1 | ⟨b', c, h0, h1, h2, h3⟩
 ·exact .inl h1
 ·refine .inr ⟨b', c, h0, h1, ?_, h3⟩
  rw [hO b' ((h b').resolve_right fun hh => hh _ _ _ h0) (by rw [h2]; simp)]
  exact h2
theorem Apart.size {σ0 σ : Sig} {s s' n n' : Nat} {a b : AV} {cs cs' : List AV} (ha : Grow σ0 σ s a cs n) (hb : Grow σ0 σ s' b cs' n') (hs : s ≠ s') : Apart a b := fun i => by
 by_cases hi : Off a i
 ·exact .inl hi
 ·obtain ⟨c, hc⟩ := ha.on hi
  refine .inr fun s1 o m e => ?_
  have hi2 : ¬ Off b i := fun h => h _ _ _ e
  obtain ⟨c2, hc2⟩ := hb.on hi2
  rw [hc] at hc2
  cases hc2
  exact hs rfl
theorem Grow.mono {σ0 σ σ' : Sig} {s n : Nat} {a : AV} {cs : List AV} (h : Grow σ0 σ s a cs n) (hs : ∀ b x, σ b = some x → σ' b = some x) : Grow σ0 σ' s a cs n := by
 rcases h with h | ⟨b, c, h0, h1, h2, h3⟩
 ·exact .inl h
 ·exact .inr ⟨b, c, h0, h1, hs b _ h2, h3⟩
end Go.AL
