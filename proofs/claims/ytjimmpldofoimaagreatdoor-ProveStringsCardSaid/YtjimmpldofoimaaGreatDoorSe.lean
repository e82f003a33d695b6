/- FormulaMoves, plainly: terms put in, ranges and their ends, formulas printed and parsed. -/
import Derived.Test.YtjimmpldofoimaaGreatDoorAlRules
import Derived.Test.YtjimmpldofoimaaGreatDoorSc
import Derived.Test.YtjimmpldofoimaaGreatDoorSd
import Derived.Test.YtjimmpldofoimaaGreatDoorXq
set_option linter.unusedVariables false
set_option linter.unusedSimpArgs false
namespace Go.AL
open Go.Proofs
/-! ### Terms put in -/
/-! ### Ranges and their ends -/
end Go.AL

/- Appends whose result lies in no block that is there already and is not its own. -/
set_option linter.unusedVariables false
set_option linter.unusedSimpArgs false
namespace Go.AL
open Go.Proofs
/-- 'a' owns no such block. -/
def Off (a : AV) (i : Nat) : Prop := ∀ s o n, a ≠ .own i s o n
open Classical in
theorem appB_new {P : Program} {Γ : Glob} {σ0 σ : Sig} {t0 t1 : TypeId} {k : TK} {bytes : Nat} (hT : AppT P t0 t1 k bytes) {a : AV} {cs xs : List AV} {m n : Nat} (hd : Drop σ σ0) (hg : Grow σ0 σ k.size a cs m)
    (hone : xs.all AV.one = true) (hxl : xs.length = n * k.size) (hsum : (m + n) * bytes ≤ 140737488355328) {K : AV → Sig → Prop}
    (hk : ∀ a' σ', Drop σ' σ0 → Others a σ σ' → Grow σ0 σ' k.size a' (cs ++ xs) (m + n) → (∀ i, σ i ≠ none → Off a i → Off a' i) → K a' σ') : appB P Γ σ t0 t1 a (.sl xs n) K := by
  have hD : Drop σ (fun i => if Off a i then σ i else none) := fun i => by
    by_cases h : Off a i
    · exact .inr (if_pos h)
    · exact .inl (if_neg h)
  have hG : Grow (fun i => if Off a i then σ i else none) σ k.size a cs m := by
    rcases hg with h | ⟨b, c, h0, h1, h2, h3⟩
    · exact .inl h
    · exact .inr ⟨b, c, h0, if_neg (fun h => h _ _ _ h0), h2, h3⟩
  have hown : ∀ i, ¬ Off a i → σ0 i = none := fun i hi => by
    rcases hg with ⟨h, _⟩ | ⟨b, c, h0, h1, h2, h3⟩
    · exact absurd (fun s o n e => by rcases h with h | h <;> rw [h] at e <;> cases e) hi
    · by_cases e : i = b
      · rw [e]; exact h1
      · exact absurd (fun s o n e' => by rw [h0] at e'; cases e'; exact e rfl) hi
  refine appB_sl hT hD hG hone hxl hsum fun a' σ' hD' hO hG' => hk a' σ' (fun i => ?_) hO ?_ (fun i hi ho => ?_)
  · by_cases h : Off a i
    · rcases hd i with h0 | h0
      · exact .inl h0
      · rcases hD' i with h1 | h1
        · have h1 : σ i = none := by simpa [h] using h1
          left
          rw [h0, h1]
        · have h1 : σ i = σ' i := by simpa [h] using h1
          right
          rw [h0, h1]
    · exact .inl (hown i h)
  · rcases hG' with h | ⟨b, c, h0, h1, h2, h3⟩
    · exact .inl h
    · refine .inr ⟨b, c, h0, ?_, h2, h3⟩
      by_cases h : Off a b
      · have h1' : σ b = none := by simpa [h] using h1
        rcases hd b with h4 | h4
        · exact h4
        · rw [h4, h1']
      · exact hown b h
  · intro s o n e
    rcases hG' with ⟨h, _⟩ | ⟨b, c, h0, h1, h2, h3⟩
    · rcases h with h | h <;> rw [h] at e <;> cases e
    · rw [h0] at e
      cases e
      exact hi (by simpa [ho] using h1)
end Go.AL

/- FormulaMoves: the law holds at all formulas, terms and values. -/
set_option linter.unusedVariables false
set_option linter.unusedSimpArgs false
namespace Go.AL
open Go.Proofs
variable {Γ : Glob}
attribute [local irreducible] codeW opsW dopsW
/-! ### Rows beside each other -/
def Apart (a b : AV) : Prop := ∀ i, Off a i ∨ Off b i
theorem Apart.symm {a b : AV} (h : Apart a b) : Apart b a := fun i => (h i).symm
theorem Grow.on {σ0 σ : Sig} {s n i : Nat} {a : AV} {cs : List AV} (h : Grow σ0 σ s a cs n) (hi : ¬ Off a i) : ∃ c, σ i = some (.row cs s c) := by
  rcases h with ⟨h, _⟩ | ⟨b, c, h0, h1, h2, h3⟩
  · exact absurd (fun s o n e => by rcases h with h | h <;> rw [h] at e <;> cases e) hi
  · by_cases e : i = b
    · exact ⟨c, by rw [e]; exact h2⟩
    · exact absurd (fun s o n e' => by rw [h0] at e'; cases e'; exact e rfl) hi
theorem Apart.new {σ0 σ : Sig} {s n : Nat} {a a' b : AV} {cs : List AV} (h : Apart a b) (hb : Grow σ0 σ s b cs n) (hn : ∀ i, σ i ≠ none → Off a i → Off a' i) : Apart a' b := fun i => by
  by_cases hi : Off b i
  · exact .inr hi
  · obtain ⟨c, hc⟩ := hb.on hi
    exact .inl (hn i (by rw [hc]; simp) ((h i).resolve_right hi))
theorem Grow.others {σ0 σ σ' : Sig} {s n : Nat} {a b : AV} {cs : List AV} (hb : Grow σ0 σ s b cs n) (h : Apart a b) (hO : Others a σ σ') : Grow σ0 σ' s b cs n := by
  rcases hb with h1 | ⟨b', c, h0, h1, h2, h3⟩
  · exact .inl h1
  · refine .inr ⟨b', c, h0, h1, ?_, h3⟩
    rw [hO b' ((h b').resolve_right fun hh => hh _ _ _ h0) (by rw [h2]; simp)]
    exact h2
theorem Apart.size {σ0 σ : Sig} {s s' n n' : Nat} {a b : AV} {cs cs' : List AV} (ha : Grow σ0 σ s a cs n) (hb : Grow σ0 σ s' b cs' n') (hs : s ≠ s') : Apart a b := fun i => by
  by_cases hi : Off a i
  · exact .inl hi
  · obtain ⟨c, hc⟩ := ha.on hi
    refine .inr fun s1 o m e => ?_
    have hi2 : ¬ Off b i := fun h => h _ _ _ e
    obtain ⟨c2, hc2⟩ := hb.on hi2
    rw [hc] at hc2
    cases hc2
    exact hs rfl
/-! ### The spans of the law -/
end Go.AL

/- FormulaMoves: the walk of the law. -/
set_option linter.unusedVariables false
set_option linter.unusedSimpArgs false
namespace Go.AL
open Go.Proofs
variable {Γ : Glob}
attribute [local irreducible] codeW opsW dopsW
theorem Grow.mono {σ0 σ σ' : Sig} {s n : Nat} {a : AV} {cs : List AV} (h : Grow σ0 σ s a cs n) (hs : ∀ b x, σ b = some x → σ' b = some x) : Grow σ0 σ' s a cs n := by
  rcases h with h | ⟨b, c, h0, h1, h2, h3⟩
  · exact .inl h
  · exact .inr ⟨b, c, h0, h1, hs b _ h2, h3⟩
end Go.AL
