import Derived.Test.YtjimmpldofoimaaGreatDoorWa
open Nat renaming reduceEqDiff → xQ, reduceAdd → xA, reduceMul → xM, reduceLeDiff → xL
open Int renaming reduceLT → xT, reduceLE → xE, reduceToNat → xN
set_option linter.unusedVariables false
set_option linter.unusedSimpArgs false
namespace Go.AL
open Go.Proofs
variable {Γ : Glob}
attribute [local irreducible] codeW opsW dopsW
theorem retP_drop {σ σ' : Sig} {r x : AV} (hd : Drop σ' σ) (h : x = r) : retP σ r x σ' := ⟨h ▸ .refl x, hd⟩
def slS (l : List St) : AV := .sl (l.flatMap stC) l.length
def prA (l : List St) : AV := .agg [slS l]
attribute [go_sem] slS prA
end Go.AL

set_option linter.unusedVariables false
set_option linter.unusedSimpArgs false
namespace Go.AL
open Go.Proofs
variable {Γ : Glob}
attribute [local irreducible] codeW opsW dopsW
end Go.AL

set_option linter.unusedVariables false
set_option linter.unusedSimpArgs false
namespace Go.AL
open Go.Proofs
variable {Γ : Glob}
attribute [local irreducible] codeW opsW dopsW
end Go.AL

set_option linter.unusedVariables false
set_option linter.unusedSimpArgs false
namespace Go.AL
open Go.Proofs
variable {Γ : Glob}
attribute [local irreducible] codeW opsW dopsW
end Go.AL

set_option linter.unusedVariables false
set_option linter.unusedSimpArgs false
namespace Go.AL
open Go.Proofs
variable {Γ : Glob}
attribute [local irreducible] codeW opsW dopsW
structure Rg where
  lo : Int
  hi : Int
  deriving DecidableEq, Inhabited
def rgC (r : Rg) : List AV := [int r.lo, int r.hi]
def rgA (r : Rg) : AV := .agg (rgC r)
attribute [go_sem] rgC rgA
end Go.AL

set_option linter.unusedVariables false
set_option linter.unusedSimpArgs false
namespace Go.AL
open Go.Proofs
variable {Γ : Glob}
attribute [local irreducible] codeW opsW dopsW
theorem f38 (a b : List Int) (hl : Fits a.length) : PCalls Tryz.prog Γ 38 [slI a, slI b] (.v (.bool (decide (a = b)))) := by
  refine pcalls (ok38 Γ) fun σ => ?_
  by_cases hn : (a.length : Int) = b.length
  · have hn' : a.length = b.length := by omega
    simp only [go_sem, xQ, ↓reduceIte, xA, xM, xL, xT, xE, xN, Tryz.f38, hn]
    refine SemC.loopK mixed a.length (fun k ρ σ' ds => σ' = σ ∧ ds = [] ∧ ρ 0 = slI a ∧ ρ 1 = slI b ∧ ρ 5 = int k ∧ decide (a = b) = decide (a.drop k = b.drop k)) (by kernel_rfl) ⟨rfl, rfl, by rw [slI, hn']; rfl, rfl, rfl, by simp⟩ ?_
    rintro k ρ σ' ds hk ⟨rfl, rfl, h0, h1, h5, hz⟩
    rcases get_or_end a k hk with ⟨x, hx, hlt, hd⟩ | hk
    · rcases get_or_end b k (by omega) with ⟨y, hy, hlt2, hd2⟩ | hk2
      · rw [hd, hd2] at hz
        by_cases hxy : x = y
        · simp only [go_sem, xQ, ↓reduceIte, xA, xM, xL, xT, xE, xN, h0, h1, h5, hlt, hlt2, hx, hy, hxy]
          exact ⟨by rw [wrap_succ _ (by omega)], by rw [hz]; simp [hxy]⟩
        · simp only [go_sem, xQ, ↓reduceIte, xA, xM, xL, xT, xE, xN, h0, h1, h5, hlt, hlt2, hx, hy, hxy]
          exact retP_eq (by rw [hz]; simp [hxy])
      · omega
    · subst hk
      simp only [go_sem, xQ, ↓reduceIte, xA, xM, xL, xT, xE, xN, h0, h1, h5, Nat.lt_irrefl]
      exact retP_eq (by rw [hz]; simp [hn'])
  · have hne : a ≠ b := fun e => hn (by rw [e])
    simp only [go_sem, xQ, ↓reduceIte, xA, xM, xL, xT, xE, xN, Tryz.f38, hn]
    exact retP_eq (by simp [hne])
end Go.AL

set_option linter.unusedVariables false
set_option linter.unusedSimpArgs false
namespace Go.AL
open Go.Proofs
variable {Γ : Glob}
attribute [local irreducible] codeW opsW dopsW
theorem src_slI (σ : Sig) (l : List Int) : Src σ 1 (slI l) (ints l) l.length := ⟨rfl, rfl, by simp [ints]⟩
theorem f117 (t : Tm) (hl : Fits t.coeffs.length) : PCalls Tryz.prog Γ 117 [tmA t] (tmA t) := by
  refine pcalls (ok117 Γ) fun σ => ?_
  simp only [go_sem, xQ, ↓reduceIte, xA, xM, xL, xT, xE, xN, Tryz.f117]
  intro b hb
  simp only [go_sem, xQ, ↓reduceIte, xA, xM, xL, xT, xE, xN]
  refine appB_pure (appT_sl el46 tk3 by3 el46 (by decide) rfl (by decide)) (.inr rfl) (src_slI _ t.coeffs) (by simp [ints]) (by omega) ?_
  simp only [go_sem, xQ, ↓reduceIte, xA, xM, xL, xT, xE, xN]
  exact retP_drop (((Drop.refl σ).upd hb).upd hb) rfl
end Go.AL

set_option linter.unusedVariables false
set_option linter.unusedSimpArgs false
namespace Go.AL
open Go.Proofs
variable {Γ : Glob}
attribute [local irreducible] codeW opsW dopsW
end Go.AL

set_option linter.unusedVariables false
set_option linter.unusedSimpArgs false
namespace Go.AL
open Go.Proofs
variable {Γ : Glob}
attribute [local irreducible] codeW opsW dopsW
theorem Grow.ne {σ0 σ : Sig} {s n b s' c' : Nat} {a : AV} {cs cs' : List AV} (h : Grow σ0 σ s a cs n) (hb : σ b = some (.row cs' s' c')) (hs : s' ≠ s) : ∀ s1 o m, a ≠ .own b s1 o m := by
  intro s1 o m e
  rcases h with ⟨h | h, _⟩ | ⟨b0, c, h0, _, h2, _⟩
  · rw [h] at e; cases e
  · rw [h] at e; cases e
  · rw [h0] at e; cases e
    rw [h2] at hb
    cases hb
    exact hs rfl
theorem Grow.cells {σ0 σ : Sig} {s n : Nat} {a : AV} {cs : List AV} (h : Grow σ0 σ s a cs n) : a.cells? = some [a] := by
  rcases h with ⟨rfl | rfl, _⟩ | ⟨b0, c, rfl, _⟩ <;> rfl
theorem Grow.one {σ0 σ : Sig} {s n : Nat} {a : AV} {cs : List AV} (h : Grow σ0 σ s a cs n) : a.one = true := by
  rcases h with ⟨rfl | rfl, _⟩ | ⟨b0, c, rfl, _⟩ <;> rfl
end Go.AL

set_option linter.unusedVariables false
set_option linter.unusedSimpArgs false
namespace Go.AL
open Go.Proofs
variable {Γ : Glob}
attribute [local irreducible] codeW opsW dopsW
end Go.AL
