/- Negated and Sum, the library's and the reference's, and the law FormulaTerms. -/
import Derived.Test.YtjimmpldofoimaaGreatDoorWd
import Derived.Test.YtjimmpldofoimaaGreatDoorXf
open Nat renaming reduceEqDiff → xQ, reduceAdd → xA, reduceMul → xM, reduceLeDiff → xL
open Int renaming reduceLT → xT, reduceLE → xE, reduceToNat → xN
open Go.AL renaming retPost_one → xP, retPost_oneN → xR, ers_at' → xS
set_option linter.unusedVariables false
set_option linter.unusedSimpArgs false
namespace Go.AL
open Go.Proofs
variable {Γ : Glob}
attribute [local irreducible] codeW opsW dopsW
def timesT (t : Tm) (m c : Int) : Tm := ⟨t.coeffs.map fun x => IntKind.i64.wrap (m * x), IntKind.i64.wrap (IntKind.i64.wrap (m * t.const) + c)⟩
set_option maxHeartbeats 1000000 in
theorem f171 (t : Tm) (m c : Int) (hl : Fits t.coeffs.length) : PCalls Tryz.prog Γ 171 [tmA t, int m, int c] (tmA (timesT t m c)) := by
 refine pcalls (ok171 Γ) fun σ => ?_
 simp only [go_sem, xQ, ↓reduceIte, xA, xM, xL, xT, xE, xN, xP, xR, xS, Tryz.f171]
 intro b2 hb2
 simp only [go_sem, xQ, ↓reduceIte, xA, xM, xL, xT, xE, xN, xP, xR, xS]
 intro bo hbo
 obtain ⟨hne, hbo⟩ := un hbo
 have hne' : ¬ b2 = bo := fun e => hne e.symm
 simp only [go_sem, xQ, ↓reduceIte, xA, xM, xL, xT, xE, xN, xP, xR, xS, hne, hne']
 refine SemC.loopK mixed t.coeffs.length (fun k ρ σ' ds => (ds = [] ∧ ρ 3 = .pp (tmC t) 0 ∧ ρ 1 = int m ∧ ρ 2 = int c ∧ ρ 6 = .v (.pointer (some ⟨b2, 0, none⟩)) ∧ ρ 7 = .v (.pointer (some ⟨bo, 0, none⟩)) ∧ ρ 8 = int k ∧ σ' b2 = some (.row [.v (.slice none 0 0), int 0] 2 1)) ∧ Drop σ' σ ∧
  ∃ a, σ' bo = some (.row [a, int 0] 2 1) ∧ Grow σ σ' 1 a (ints ((t.coeffs.take k).map fun x => IntKind.i64.wrap (m * x))) k) (by kernel_rfl) ⟨by simp only [go_sem, xQ, ↓reduceIte, xA, xM, xL, xT, xE, xN, xP, xR, xS, hne, hne'], by repeat (first | exact Drop.refl _ | assumption | refine Drop.upd ?_ (by assumption)), _, by simp only [go_sem, xQ, ↓reduceIte, xA, xM, xL, xT, xE, xN, xP, xR, xS], .nil _ _ _⟩ ?_
 rintro k ρ σ' ds hk ⟨⟨rfl, h3, h1, h2, h6, h7, h8, hs2⟩, hD, a, hso, hG⟩
 rcases get_or_end t.coeffs k hk with ⟨x, hx, hlt, hd⟩ | hk
 ·simp only [go_sem, xQ, ↓reduceIte, xA, xM, xL, xT, xE, xN, xP, xR, xS, h3, h1, h2, h6, h7, h8, hlt, hx, hso]
  refine appB_sl (appT_sl el46 tk3 by3 el46 (by decide) rfl (by decide)) hD hG rfl rfl (by omega) (fun a' σ2 hD2 hO hG2 => ?_)
  have e2 : σ2 b2 = some (.row [.v (.slice none 0 0), int 0] 2 1) := by
   rw [hO b2 (hG.neS hs2 (by decide)) (by simp [hs2]), hs2]
  have eo : σ2 bo = some (.row [a, int 0] 2 1) := by
   rw [hO bo (hG.neS hso (by decide)) (by simp [hso]), hso]
  have hc2 := hG2.cellsX
  have ho2 := hG2.oneX
  simp only [go_sem, xQ, ↓reduceIte, xA, xM, xL, xT, xE, xN, xP, xR, xS, h3, h1, h2, h6, h7, h8, e2, eo, hc2, ho2, hne', hlt]
  refine ⟨by rw [wrap_succ _ (by omega)], hD2.upd hbo, a', by simp only [go_sem, xQ, ↓reduceIte, xA, xM, xL, xT, xE, xN, xP, xR, xS, upd_same], ?_⟩
  rw [take_succ hx]
  have := hG2.updW (hG2.neS eo (by decide)) (some (.row [a', int 0] 2 1))
  simpa [ints, int] using this
 ·subst hk
  have ho := hG.oneX
  rw [List.take_length] at hG
  simp only [go_sem, xQ, ↓reduceIte, xA, xM, xL, xT, xE, xN, xP, xR, xS, h3, h1, h2, h6, h7, h8, Nat.lt_irrefl, hs2, hso, hne, hne', ho]
  have hG' := (hG.updW (hG.neS hso (by decide)) (some (.row [a, int (timesT t m c).const] 2 1)))
  have hG' := hG'.updW (hG.neS hs2 (by decide)) (some (.row [a, int (timesT t m c).const] 2 1))
  have hml : (timesT t m c).coeffs.length = t.coeffs.length := by simp [timesT]
  rw [hml]
  exact ⟨.agg (.cons (hG'.retP ((hD.upd hbo).upd hb2)).1 (.cons (.refl _) .nil)), (hD.upd hbo).upd hb2⟩
end Go.AL

/- The question as the library gets it (given), and what a formula's nodes hold in the reference (Truths, Holds). -/
set_option linter.unusedVariables false
set_option linter.unusedSimpArgs false
namespace Go.AL
open Go.Proofs
variable {Γ : Glob}
attribute [local irreducible] codeW opsW dopsW
theorem Grow.own_of {σ0 σ : Sig} {s n : Nat} {a : AV} {cs : List AV} (h : Grow σ0 σ s a cs n) (hne : cs ≠ []) : ∃ b c, a = .own b s 0 n ∧ σ b = some (.row cs s c) := by
 rcases h with ⟨_, h, _⟩ | ⟨b, c, h, _, h2, _⟩
 ·exact absurd h hne
 ·exact ⟨b, c, h, h2⟩
theorem kids_nat {kids : List Int} {i : Nat} (h : ∀ k ∈ kids, 0 ≤ k ∧ k < (i : Int)) {j : Nat} {x : Int} (hx : kids[j]? = some x) : ∃ m : Nat, x = m ∧ m < i := by
 have := h x (mem_of_get hx)
 exact ⟨x.toNat, by omega, by omega⟩
end Go.AL

/- FormulaHolds: the law holds at every formula and all values. -/
set_option linter.unusedVariables false
set_option linter.unusedSimpArgs false
namespace Go.AL
open Go.Proofs
variable {Γ : Glob}
attribute [local irreducible] codeW opsW dopsW
end Go.AL

/- What FormulaPuts asks besides Put: short terms, trials, the check of terms, the comparison of the whole. -/
set_option linter.unusedVariables false
set_option linter.unusedSimpArgs false
namespace Go.AL
open Go.Proofs
variable {Γ : Glob}
attribute [local irreducible] codeW opsW dopsW
end Go.AL

/- What FormulaJoins asks: Always of the library. -/
set_option linter.unusedVariables false
set_option linter.unusedSimpArgs false
namespace Go.AL
open Go.Proofs
variable {Γ : Glob}
attribute [local irreducible] codeW opsW dopsW
end Go.AL
