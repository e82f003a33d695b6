/- Negated and Sum, the library's and the reference's, and the law FormulaTerms. -/
import Derived.Test.YtjimmpldofoimaaGreatDoorWd
import Derived.Test.YtjimmpldofoimaaGreatDoorXc
open Nat renaming reduceEqDiff → xQ, reduceAdd → xA, reduceMul → xM, reduceLeDiff → xL
open Int renaming reduceLT → xT, reduceLE → xE, reduceToNat → xN
open Go.AL renaming retPost_one → xP, retPost_oneN → xR, ers_at' → xS
set_option linter.unusedVariables false
set_option linter.unusedSimpArgs false
namespace Go.AL
open Go.Proofs
variable {Γ : Glob}
attribute [local irreducible] codeW opsW dopsW
def timesT (t : Tm) (m c : Int) : Tm := ⟨t.coeffs.map fun x => IntKind.i64.wrap (m * x), IntKind.i64.wrap (IntKind.i64.wrap (m * t.const) + c)⟩
set_option maxHeartbeats 1000000 in
theorem f171 (t : Tm) (m c : Int) (hl : Fits t.coeffs.length) : PCalls Tryz.prog Γ 171 [tmA t, int m, int c] (tmA (timesT t m c)) := by
  refine pcalls (ok171 Γ) fun σ => ?_
  simp only [go_sem, xQ, ↓reduceIte, xA, xM, xL, xT, xE, xN, xP, xR, xS, Tryz.f171]
  intro b2 hb2
  simp only [go_sem, xQ, ↓reduceIte, xA, xM, xL, xT, xE, xN, xP, xR, xS]
  intro bo hbo
  obtain ⟨hne, hbo⟩ := un hbo
  have hne' : ¬ b2 = bo := fun e => hne e.symm
  simp only [go_sem, xQ, ↓reduceIte, xA, xM, xL, xT, xE, xN, xP, xR, xS, hne, hne']
  refine SemC.loopK mixed t.coeffs.length (fun k ρ σ' ds => (ds = [] ∧ ρ 3 = .pp (tmC t) 0 ∧ ρ 1 = int m ∧ ρ 2 = int c ∧ ρ 6 = .v (.pointer (some ⟨b2, 0, none⟩)) ∧ ρ 7 = .v (.pointer (some ⟨bo, 0, none⟩)) ∧ ρ 8 = int k ∧ σ' b2 = some (.row [.v (.slice none 0 0), int 0] 2 1)) ∧ Drop σ' σ ∧
    ∃ a, σ' bo = some (.row [a, int 0] 2 1) ∧ Grow σ σ' 1 a (ints ((t.coeffs.take k).map fun x => IntKind.i64.wrap (m * x))) k) (by kernel_rfl) ⟨by simp only [go_sem, xQ, ↓reduceIte, xA, xM, xL, xT, xE, xN, xP, xR, xS, hne, hne'], by repeat (first | exact Drop.refl _ | assumption | refine Drop.upd ?_ (by assumption)), _, by simp only [go_sem, xQ, ↓reduceIte, xA, xM, xL, xT, xE, xN, xP, xR, xS], .nil _ _ _⟩ ?_
  rintro k ρ σ' ds hk ⟨⟨rfl, h3, h1, h2, h6, h7, h8, hs2⟩, hD, a, hso, hG⟩
  rcases get_or_end t.coeffs k hk with ⟨x, hx, hlt, hd⟩ | hk
  · simp only [go_sem, xQ, ↓reduceIte, xA, xM, xL, xT, xE, xN, xP, xR, xS, h3, h1, h2, h6, h7, h8, hlt, hx, hso]
    refine appB_sl (appT_sl el46 tk3 by3 el46 (by decide) rfl (by decide)) hD hG rfl rfl (by omega) (fun a' σ2 hD2 hO hG2 => ?_)
    have e2 : σ2 b2 = some (.row [.v (.slice none 0 0), int 0] 2 1) := by
      rw [hO b2 (hG.neS hs2 (by decide)) (by simp [hs2]), hs2]
    have eo : σ2 bo = some (.row [a, int 0] 2 1) := by
      rw [hO bo (hG.neS hso (by decide)) (by simp [hso]), hso]
    have hc2 := hG2.cellsX
    have ho2 := hG2.oneX
    simp only [go_sem, xQ, ↓reduceIte, xA, xM, xL, xT, xE, xN, xP, xR, xS, h3, h1, h2, h6, h7, h8, e2, eo, hc2, ho2, hne', hlt]
    refine ⟨by rw [wrap_succ _ (by omega)], hD2.upd hbo, a', by simp only [go_sem, xQ, ↓reduceIte, xA, xM, xL, xT, xE, xN, xP, xR, xS, upd_same], ?_⟩
    rw [take_succ hx]
    have := hG2.updW (hG2.neS eo (by decide)) (some (.row [a', int 0] 2 1))
    simpa [ints, int] using this
  · subst hk
    have ho := hG.oneX
    rw [List.take_length] at hG
    simp only [go_sem, xQ, ↓reduceIte, xA, xM, xL, xT, xE, xN, xP, xR, xS, h3, h1, h2, h6, h7, h8, Nat.lt_irrefl, hs2, hso, hne, hne', ho]
    have hG' := (hG.updW (hG.neS hso (by decide)) (some (.row [a, int (timesT t m c).const] 2 1)))
    have hG' := hG'.updW (hG.neS hs2 (by decide)) (some (.row [a, int (timesT t m c).const] 2 1))
    have hml : (timesT t m c).coeffs.length = t.coeffs.length := by simp [timesT]
    rw [hml]
    exact ⟨.agg (.cons (hG'.retP ((hD.upd hbo).upd hb2)).1 (.cons (.refl _) .nil)), (hD.upd hbo).upd hb2⟩
end Go.AL

/- The reference's cases, told plainly, and that they are the library's. -/
set_option linter.unusedVariables false
set_option linter.unusedSimpArgs false
namespace Go.AL
/-! ### The lists of the reference -/
/-! ### What the loops come to, once the kids are known -/
/-! ### Terms -/
/-! ### The lists of the reference are the library's -/
/-! ### Which ways are used -/
def hit (l : List Nd) (M : List Bool × List Bool) (j : Nat) : Prop := ((M.1[j]?).getD false = true ∧ larW l ((j : Int), false) = true) ∨ ((M.2[j]?).getD false = true ∧ larW l ((j : Int), true) = true)
end Go.AL

/- What the cases mean: a node holds exactly if all terms of one of its cases are at least 0. -/
set_option linter.unusedVariables false
set_option linter.unusedSimpArgs false
namespace Go.AL
/-! ### Exact values -/
def dotZ : List Int → List Int → Int
  | c :: cs, v :: vs => c * v + dotZ cs vs
  | _, _ => 0
def valZ (t : Tm) (vs : List Int) : Int := t.const + dotZ t.coeffs vs
def ValZ (vs : List Int) : Prop := ∀ v ∈ vs, -4294967295 ≤ v ∧ v ≤ 4294967295
def CsZ (cs : List Int) : Prop := ∀ c ∈ cs, -1000000 ≤ c ∧ c ≤ 1000000
theorem mul_bdZ {c h : Int} (hc : -1000000 ≤ c ∧ c ≤ 1000000) (hh : -4294967295 ≤ h ∧ h ≤ 4294967295) : -4294967295000000 ≤ c * h ∧ c * h ≤ 4294967295000000 := by
  have h1 : (c * h).natAbs ≤ 1000000 * 4294967295 := by
    rw [Int.natAbs_mul]
    exact Nat.mul_le_mul (by omega) (by omega)
  omega
theorem valueF_Z : ∀ (cs vs : List Int) (n B : Int), -B ≤ n → n ≤ B → B + cs.length * 4294967295000000 ≤ 9000000000000000000 → CsZ cs → ValZ vs → valueF cs vs n = n + dotZ cs vs
  | [], _, n, _, _, _, _, _, _ => by simp [valueF, dotZ]
  | _ :: _, [], n, _, _, _, _, _, _ => by simp [valueF, dotZ]
  | c :: cs, v :: vs, n, B, h1, h2, hB, hc, hv => by
    have hcc := hc c List.mem_cons_self
    have hvv := hv v List.mem_cons_self
    have hp := mul_bdZ hcc hvv
    simp only [List.length_cons] at hB
    rw [valueF, dotZ, wrap_i64 (c * v) (by omega) (by omega), wrap_i64 (n + c * v) (by omega) (by omega)]
    rw [valueF_Z cs vs (n + c * v) (B + 4294967295000000) (by omega) (by omega) (by omega) (fun x hx => hc x (List.mem_cons_of_mem _ hx)) (fun x hx => hv x (List.mem_cons_of_mem _ hx))]
    omega
/-- A term whose numbers are near their ranges. -/
def Near (t : Tm) : Prop := t.coeffs.length ≤ 8 ∧ CsZ t.coeffs ∧ -2000000000000 ≤ t.const ∧ t.const ≤ 2000000000000
theorem Near.val {t : Tm} (h : Near t) {vs : List Int} (hv : ValZ vs) : valueR t vs = valZ t vs := by
  obtain ⟨h1, h2, h3, h4⟩ := h
  exact valueF_Z t.coeffs vs t.const 2000000000000 (by omega) h4 (by omega) h2 hv
theorem Near.less {t : Tm} (h : Near t) {c : Int} (h1 : -3 ≤ c) (h2 : c ≤ 3) (hb : -1100000000000 ≤ t.const ∧ t.const ≤ 1100000000000) : lessT t c = ⟨t.coeffs, t.const - c⟩ ∧ Near (lessT t c) := by
  obtain ⟨g1, g2, g3, g4⟩ := h
  have e : lessT t c = ⟨t.coeffs, t.const - c⟩ := by
    rw [lessT, plusT, plusC_nil]
    simp only
    rw [wrap_i64 (-1 * c) (by omega) (by omega), wrap_i64 _ (by omega) (by omega)]
    congr 1
    omega
  refine ⟨e, ?_⟩
  rw [e]
  exact ⟨g1, g2, by show -2000000000000 ≤ t.const - c; omega, by show t.const - c ≤ 2000000000000; omega⟩
/-! ### Truths -/
end Go.AL

/- The question as the library gets it (given), and what a formula's nodes hold in the reference (Truths, Holds). -/
set_option linter.unusedVariables false
set_option linter.unusedSimpArgs false
namespace Go.AL
open Go.Proofs
variable {Γ : Glob}
attribute [local irreducible] codeW opsW dopsW
end Go.AL

/- FormulaHolds: the law holds at every formula and all values. -/
set_option linter.unusedVariables false
set_option linter.unusedSimpArgs false
namespace Go.AL
open Go.Proofs
variable {Γ : Glob}
attribute [local irreducible] codeW opsW dopsW
end Go.AL

/- What FormulaPuts asks besides Put: short terms, trials, the check of terms, the comparison of the whole. -/
set_option linter.unusedVariables false
set_option linter.unusedSimpArgs false
namespace Go.AL
open Go.Proofs
variable {Γ : Glob}
attribute [local irreducible] codeW opsW dopsW
end Go.AL

/- What FormulaJoins asks: Always of the library. -/
set_option linter.unusedVariables false
set_option linter.unusedSimpArgs false
namespace Go.AL
open Go.Proofs
variable {Γ : Glob}
attribute [local irreducible] codeW opsW dopsW
end Go.AL

/- Formulas joined, and turned: they are right, and what they mean. -/
set_option linter.unusedVariables false
set_option linter.unusedSimpArgs false
namespace Go.AL
open Go.Proofs
/-! ### What they mean -/
end Go.AL

/- What FormulaMeans asks of the plain laws: the terms of cases are right, their values are exact. -/
set_option linter.unusedVariables false
set_option linter.unusedSimpArgs false
namespace Go.AL
open Go.Proofs
end Go.AL

/- Small and used of the reference. -/
set_option linter.unusedVariables false
set_option linter.unusedSimpArgs false
namespace Go.AL
open Go.Proofs
variable {Γ : Glob}
attribute [local irreducible] codeW opsW dopsW
/-! ### used -/
end Go.AL

/- FormulaMeans: the law holds at all formulas and all values. -/
set_option linter.unusedVariables false
set_option linter.unusedSimpArgs false
namespace Go.AL
open Go.Proofs
variable {Γ : Glob}
attribute [local irreducible] codeW opsW dopsW
end Go.AL

/- Put of the reference: each term of a formula is made of the terms put in. -/
set_option linter.unusedVariables false
set_option linter.unusedSimpArgs false
namespace Go.AL
open Go.Proofs
variable {Γ : Glob}
attribute [local irreducible] codeW opsW dopsW
end Go.AL

/- FormulaPuts: the law holds at every formula and all terms. -/
set_option linter.unusedVariables false
set_option linter.unusedSimpArgs false
namespace Go.AL
open Go.Proofs
variable {Γ : Glob}
attribute [local irreducible] codeW opsW dopsW
end Go.AL
