/- Negated and Sum, the library's and the reference's, and the law FormulaTerms. -/
import Derived.Test.YtjimmpldofoimaaGreatDoorWd
import Derived.Test.YtjimmpldofoimaaGreatDoorXf
open Nat renaming reduceEqDiff → xQ, reduceAdd → xA, reduceMul → xM, reduceLeDiff → xL
open Int renaming reduceLT → xT, reduceLE → xE, reduceToNat → xN
open Go.AL renaming retPost_one → xP, retPost_oneN → xR, ers_at' → xS
set_option linter.unusedVariables false
set_option linter.unusedSimpArgs false
namespace Go.AL
open Go.Proofs
variable {Γ : Glob}
attribute [local irreducible] codeW opsW dopsW
def timesT (t : Tm) (m c : Int) : Tm := ⟨t.coeffs.map fun x => IntKind.i64.wrap (m * x), IntKind.i64.wrap (IntKind.i64.wrap (m * t.const) + c)⟩
set_option maxHeartbeats 1000000 in
theorem f171 (t : Tm) (m c : Int) (hl : Fits t.coeffs.length) : PCalls Tryz.prog Γ 171 [tmA t, int m, int c] (tmA (timesT t m c)) := by
  refine pcalls (ok171 Γ) fun σ => ?_
  simp only [go_sem, xQ, ↓reduceIte, xA, xM, xL, xT, xE, xN, xP, xR, xS, Tryz.f171]
  intro b2 hb2
  simp only [go_sem, xQ, ↓reduceIte, xA, xM, xL, xT, xE, xN, xP, xR, xS]
  intro bo hbo
  obtain ⟨hne, hbo⟩ := un hbo
  have hne' : ¬ b2 = bo := fun e => hne e.symm
  simp only [go_sem, xQ, ↓reduceIte, xA, xM, xL, xT, xE, xN, xP, xR, xS, hne, hne']
  refine SemC.loopK mixed t.coeffs.length (fun k ρ σ' ds => (ds = [] ∧ ρ 3 = .pp (tmC t) 0 ∧ ρ 1 = int m ∧ ρ 2 = int c ∧ ρ 6 = .v (.pointer (some ⟨b2, 0, none⟩)) ∧ ρ 7 = .v (.pointer (some ⟨bo, 0, none⟩)) ∧ ρ 8 = int k ∧ σ' b2 = some (.row [.v (.slice none 0 0), int 0] 2 1)) ∧ Drop σ' σ ∧
    ∃ a, σ' bo = some (.row [a, int 0] 2 1) ∧ Grow σ σ' 1 a (ints ((t.coeffs.take k).map fun x => IntKind.i64.wrap (m * x))) k) (by kernel_rfl) ⟨by simp only [go_sem, xQ, ↓reduceIte, xA, xM, xL, xT, xE, xN, xP, xR, xS, hne, hne'], by repeat (first | exact Drop.refl _ | assumption | refine Drop.upd ?_ (by assumption)), _, by simp only [go_sem, xQ, ↓reduceIte, xA, xM, xL, xT, xE, xN, xP, xR, xS], .nil _ _ _⟩ ?_
  rintro k ρ σ' ds hk ⟨⟨rfl, h3, h1, h2, h6, h7, h8, hs2⟩, hD, a, hso, hG⟩
  rcases get_or_end t.coeffs k hk with ⟨x, hx, hlt, hd⟩ | hk
  · simp only [go_sem, xQ, ↓reduceIte, xA, xM, xL, xT, xE, xN, xP, xR, xS, h3, h1, h2, h6, h7, h8, hlt, hx, hso]
    refine appB_sl (appT_sl el46 tk3 by3 el46 (by decide) rfl (by decide)) hD hG rfl rfl (by omega) (fun a' σ2 hD2 hO hG2 => ?_)
    have e2 : σ2 b2 = some (.row [.v (.slice none 0 0), int 0] 2 1) := by
      rw [hO b2 (hG.neS hs2 (by decide)) (by simp [hs2]), hs2]
    have eo : σ2 bo = some (.row [a, int 0] 2 1) := by
      rw [hO bo (hG.neS hso (by decide)) (by simp [hso]), hso]
    have hc2 := hG2.cellsX
    have ho2 := hG2.oneX
    simp only [go_sem, xQ, ↓reduceIte, xA, xM, xL, xT, xE, xN, xP, xR, xS, h3, h1, h2, h6, h7, h8, e2, eo, hc2, ho2, hne', hlt]
    refine ⟨by rw [wrap_succ _ (by omega)], hD2.upd hbo, a', by simp only [go_sem, xQ, ↓reduceIte, xA, xM, xL, xT, xE, xN, xP, xR, xS, upd_same], ?_⟩
    rw [take_succ hx]
    have := hG2.updW (hG2.neS eo (by decide)) (some (.row [a', int 0] 2 1))
    simpa [ints, int] using this
  · subst hk
    have ho := hG.oneX
    rw [List.take_length] at hG
    simp only [go_sem, xQ, ↓reduceIte, xA, xM, xL, xT, xE, xN, xP, xR, xS, h3, h1, h2, h6, h7, h8, Nat.lt_irrefl, hs2, hso, hne, hne', ho]
    have hG' := (hG.updW (hG.neS hso (by decide)) (some (.row [a, int (timesT t m c).const] 2 1)))
    have hG' := hG'.updW (hG.neS hs2 (by decide)) (some (.row [a, int (timesT t m c).const] 2 1))
    have hml : (timesT t m c).coeffs.length = t.coeffs.length := by simp [timesT]
    rw [hml]
    exact ⟨.agg (.cons (hG'.retP ((hD.upd hbo).upd hb2)).1 (.cons (.refl _) .nil)), (hD.upd hbo).upd hb2⟩
end Go.AL

/- The question as the library gets it (given), and what a formula's nodes hold in the reference (Truths, Holds). -/
set_option linter.unusedVariables false
set_option linter.unusedSimpArgs false
namespace Go.AL
open Go.Proofs
variable {Γ : Glob}
attribute [local irreducible] codeW opsW dopsW
@[reducible] noncomputable def p42z (Γ : Glob) : Par := par Γ [2, 3, 5] [(5, [false, false, false, false, false, false, true, false, false, false, true])] [(5, [0, 1, 0, 4, 0, 16, 48, 0, 0, 256, 1008, 2044, 4092, 8191, 16383, 32767])]
theorem ok42z (Γ : Glob) : FnOk (p42z Γ) 42 33 (Tryz.f42.body.getD .skip) Tryz.f42.results.toList 1 := fnOk (par_mixed _ _ _ _) Tryz.func42 rfl rfl rfl (by kernel_rfl) (Nat.le_of_ble_eq_true rfl) (by kernel_rfl)
set_option maxHeartbeats 1000000 in
theorem f42 (f : Fm) (hl : Fits f.nodes.length) (hc : ∀ n ∈ f.nodes, NdFit n) : PCalls Tryz.prog Γ 42 [fmA f] (fmA f) := by
  refine pcalls (ok42z Γ) fun σ => ?_
  simp only [go_sem, xQ, ↓reduceIte, xA, xM, xL, xT, xE, xN, xP, xR, xS, Tryz.f42]
  intro b2 hb2
  simp only [go_sem, xQ, ↓reduceIte, xA, xM, xL, xT, xE, xN, xP, xR, xS]
  intro bo hbo
  obtain ⟨hne, hbo⟩ := un hbo
  have hne' : ¬ b2 = bo := fun e => hne e.symm
  simp only [go_sem, xQ, ↓reduceIte, xA, xM, xL, xT, xE, xN, xP, xR, xS, hne, hne']
  refine SemC.loopK mixed f.nodes.length (fun k ρ σ' ds => (ds = [] ∧ ρ 10 = slN f.nodes ∧ ρ 11 = int f.nodes.length ∧ ρ 2 = .v (.pointer (some ⟨b2, 0, none⟩)) ∧ ρ 3 = .v (.pointer (some ⟨bo, 0, none⟩)) ∧ ρ 12 = int k ∧ σ' b2 = some (.row [int 0, .v (.slice none 0 0)] 2 1)) ∧ Drop σ' σ ∧
    ∃ a, σ' bo = some (.row [int f.vars, a] 2 1) ∧ Grow σ σ' 4 a ((f.nodes.take k).flatMap ndC) k) (by kernel_rfl) ⟨by simp only [go_sem, xQ, ↓reduceIte, xA, xM, xL, xT, xE, xN, xP, xR, xS, hne, hne'], by repeat (first | exact Drop.refl _ | assumption | refine Drop.upd ?_ (by assumption)), _, by simp only [go_sem, xQ, ↓reduceIte, xA, xM, xL, xT, xE, xN, xP, xR, xS], .nil _ _ _⟩ ?_
  rintro k ρ σ' ds hk ⟨⟨rfl, h10, h11, h2, h3, h12, hs2⟩, hD, a, hso, hG⟩
  rcases get_or_end f.nodes k hk with ⟨x, hx, hlt, hd⟩ | hk
  · obtain ⟨hx1, hx2⟩ := hc x (mem_of_get hx)
    simp only [go_sem, xQ, ↓reduceIte, xA, xM, xL, xT, xE, xN, xP, xR, xS, h10, h11, h2, h3, h12, hlt, ↓nd_part hx]
    intro b hb
    have n2 := nn hb hs2
    have no := nn hb hso
    have n2' : ¬ b = b2 := fun e => n2 e.symm
    have no' : ¬ b = bo := fun e => no e.symm
    simp only [go_sem, xQ, ↓reduceIte, xA, xM, xL, xT, xE, xN, xP, xR, xS, h10, h11, h2, h3, h12, hlt, ↓nd_part hx, n2, no, n2', no', hs2, hso]
    refine dcallB_use (f60 x.term hx1) rfl ?_
    simp only [go_sem, xQ, ↓reduceIte, xA, xM, xL, xT, xE, xN, xP, xR, xS, n2, no, n2', no', hs2, hso, h10, h11, h2, h3, h12]
    refine ⟨slI x.kids, fun σ' _ K hK => appB_pure (appT_sl el46 tk3 by3 el46 (by decide) rfl (by decide)) (.inr rfl) (src_slI _ x.kids) (by simp [ints]) (by omega) hK, ?_⟩
    simp only [go_sem, xQ, ↓reduceIte, xA, xM, xL, xT, xE, xN, xP, xR, xS, n2, no, n2', no', hs2, hso, h10, h11, h2, h3, h12]
    refine appB_sl (appT_sl el64 tk216 by216 el64 (by decide) rfl (by decide)) (hD.upd (hD.free hb)) (hG.upd hb) rfl rfl (by omega) (fun a' σ2 hD2 hO hG2 => ?_)
    have e2 : σ2 b2 = some (.row [int 0, .v (.slice none 0 0)] 2 1) := by
      rw [hO b2 (hG.neS hs2 (by decide)) (by simp [upd, n2, hs2])]; simp [upd, n2, hs2]
    have eo : σ2 bo = some (.row [int f.vars, a] 2 1) := by
      rw [hO bo (hG.neS hso (by decide)) (by simp [upd, no, hso])]; simp [upd, no, hso]
    have hc2 := hG2.cellsX
    have ho2 := hG2.oneX
    simp only [go_sem, xQ, ↓reduceIte, xA, xM, xL, xT, xE, xN, xP, xR, xS, h10, h11, h2, h3, h12, e2, eo, hc2, ho2, hne', hlt]
    refine ⟨by rw [wrap_succ _ (by omega)], hD2.upd hbo, a', by simp only [go_sem, xQ, ↓reduceIte, xA, xM, xL, xT, xE, xN, xP, xR, xS, upd_same], ?_⟩
    rw [take_succ hx, List.flatMap_append]
    have := hG2.updW (hG2.neS eo (by decide)) (some (.row [int f.vars, a'] 2 1))
    simpa [ndC, slI, int] using this
  · subst hk
    have ho := hG.oneX
    rw [List.take_length] at hG
    simp only [go_sem, xQ, ↓reduceIte, xA, xM, xL, xT, xE, xN, xP, xR, xS, h10, h11, h2, h3, h12, Nat.lt_irrefl, hs2, hso, hne, ho]
    have hG' := hG.updW (hG.neS hs2 (by decide)) (some (.row [int f.vars, a] 2 1))
    exact ⟨.agg (.cons (.refl _) (.cons (hG'.retP (hD.upd hb2)).1 .nil)), hD.upd hb2⟩
end Go.AL

/- FormulaHolds: the law holds at every formula and all values. -/
set_option linter.unusedVariables false
set_option linter.unusedSimpArgs false
namespace Go.AL
open Go.Proofs
variable {Γ : Glob}
attribute [local irreducible] codeW opsW dopsW
end Go.AL

/- What FormulaPuts asks besides Put: short terms, trials, the check of terms, the comparison of the whole. -/
set_option linter.unusedVariables false
set_option linter.unusedSimpArgs false
namespace Go.AL
open Go.Proofs
variable {Γ : Glob}
attribute [local irreducible] codeW opsW dopsW
def shortTsB (l : List Tm) : Bool := l.all (fun t => decide (t.coeffs.length ≤ 10)) && decide ((l.length : Int) ≤ 10)
theorem f52 (l : List Tm) (hl : l.length ≤ 9223372036854775807) : PCalls Tryz.prog Γ 52 [slT l] (.v (.bool (shortTsB l))) := by
  refine pcalls (ok52 Γ) fun σ => ?_
  simp only [go_sem, xQ, ↓reduceIte, xA, xM, xL, xT, xE, xN, xP, xR, xS, Tryz.f52]
  refine SemC.loopK mixed l.length (fun k ρ σ' ds => σ' = σ ∧ ds = [] ∧ ρ 0 = slT l ∧ ρ 3 = int k ∧ l.all (fun t => decide (t.coeffs.length ≤ 10)) = (l.drop k).all (fun t => decide (t.coeffs.length ≤ 10))) (by kernel_rfl) ⟨rfl, rfl, rfl, rfl, rfl⟩ ?_
  rintro k ρ σ' ds hk ⟨rfl, rfl, h0, h3, hz⟩
  rcases get_or_end l k hk with ⟨x, hx, hlt, hd⟩ | hk
  · rw [hd, List.all_cons] at hz
    simp only [go_sem, xQ, ↓reduceIte, xA, xM, xL, xT, xE, xN, xP, xR, xS, h0, h3, hlt, ↓tm_part hx]
    refine callB_use (f58 x) rfl ?_
    simp only [go_sem, xQ, ↓reduceIte, xA, xM, xL, xT, xE, xN, xP, xR, xS]
    by_cases c1 : x.coeffs.length ≤ 10
    · simp only [go_sem, xQ, ↓reduceIte, xA, xM, xL, xT, xE, xN, xP, xR, xS, c1, h0, h3]
      exact ⟨hlt, by rw [wrap_succ _ (by omega)], by rw [hz]; simp only [c1, decide_true, Bool.true_and]⟩
    · simp only [go_sem, xQ, ↓reduceIte, xA, xM, xL, xT, xE, xN, xP, xR, xS, c1, h0, h3]
      exact retP_eq (by rw [shortTsB, hz]; simp only [c1, decide_false, Bool.false_and])
  · subst hk
    rw [List.drop_length, List.all_nil] at hz
    simp only [go_sem, xQ, ↓reduceIte, xA, xM, xL, xT, xE, xN, xP, xR, xS, h0, h3, Nat.lt_irrefl]
    exact retP_eq (by rw [shortTsB, hz, Bool.true_and])
theorem f54 (l : List Tm) (hl : Fits l.length) (hc : ∀ t ∈ l, Fits t.coeffs.length) : PCalls Tryz.prog Γ 54 [slT l] (slT l) := by
  refine pcalls (ok54 Γ) fun σ => ?_
  simp only [go_sem, xQ, ↓reduceIte, xA, xM, xL, xT, xE, xN, xP, xR, xS, Tryz.f54]
  refine SemC.loopK mixed l.length (fun k ρ σ' ds => Drop σ' σ ∧ ds = [] ∧ ρ 6 = slT l ∧ ρ 7 = int l.length ∧ ρ 8 = int k ∧ Grow σ σ' 2 (ρ 3) ((l.take k).flatMap tmC) k) (by kernel_rfl) ⟨.refl _, rfl, rfl, rfl, rfl, .nil _ _ _⟩ ?_
  rintro k ρ σ' ds hk ⟨hD, rfl, h6, h7, h8, hG⟩
  rcases get_or_end l k hk with ⟨x, hx, hlt, hd⟩ | hk
  · simp only [go_sem, xQ, ↓reduceIte, xA, xM, xL, xT, xE, xN, xP, xR, xS, h6, h7, h8, hlt, ↓tm_part hx]
    intro b hb
    simp only [go_sem, xQ, ↓reduceIte, xA, xM, xL, xT, xE, xN, xP, xR, xS, h6, h7, h8, hlt, ↓tm_part hx]
    refine callB_use (f60 x (hc x (mem_of_get hx))) rfl ?_
    simp only [go_sem, xQ, ↓reduceIte, xA, xM, xL, xT, xE, xN, xP, xR, xS]
    refine appB_sl (appT_sl el32 tk94 by94 el32 (by decide) rfl (by decide)) (hD.upd (hD.free hb)) (hG.upd hb) rfl rfl (by omega) (fun a' σ2 hD2 hO hG2 => ?_)
    simp only [go_sem, xQ, ↓reduceIte, xA, xM, xL, xT, xE, xN, xP, xR, xS, h6, h7, h8, hlt]
    refine ⟨hD2, by rw [wrap_succ _ (by omega)], ?_⟩
    rw [take_succ hx, List.flatMap_append]
    simpa [tmC, slI, int] using hG2
  · subst hk
    rw [List.take_length] at hG
    simp only [go_sem, xQ, ↓reduceIte, xA, xM, xL, xT, xE, xN, xP, xR, xS, h6, h7, h8, Nat.lt_irrefl]
    exact hG.retP hD
def checkTsE (l : List Tm) (n : Int) : Int := if (l.length : Int) = n then firstE (l.map fun t => checkTermE t (varsT l)) else 2
set_option maxHeartbeats 1000000 in
theorem f55 (l : List Tm) (n : Int) (hl : Fits l.length) (hc : ∀ t ∈ l, Fits t.coeffs.length) : PCalls Tryz.prog Γ 55 [slT l, int n] (int (checkTsE l n)) := by
  refine pcalls (ok55 Γ) fun σ => ?_
  by_cases h : (l.length : Int) = n
  · simp only [go_sem, xQ, ↓reduceIte, xA, xM, xL, xT, xE, xN, xP, xR, xS, Tryz.f55, h]
    refine SemC.loopK mixed l.length (fun k ρ σ' ds => σ' = σ ∧ ds = [] ∧ ρ 0 = slT l ∧ ρ 5 = int k ∧ checkTsE l n = firstE ((l.drop k).map fun t => checkTermE t (varsT l))) (by kernel_rfl) ⟨rfl, rfl, rfl, rfl, by rw [checkTsE, if_pos h]; rfl⟩ ?_
    rintro k ρ σ' ds hk ⟨rfl, rfl, h0, h5, hz⟩
    rcases get_or_end l k hk with ⟨x, hx, hlt, hd⟩ | hk
    · rw [hd, List.map_cons, firstE_cons] at hz
      obtain ⟨t0, l', hl0⟩ : ∃ t0 l', l = t0 :: l' := by
        cases l with
        | nil => simp at hlt
        | cons a b => exact ⟨a, b, rfl⟩
      have hx0 : l[0]? = some t0 := by rw [hl0]; rfl
      have hv : varsT l = t0.coeffs.length := by rw [hl0]; rfl
      have hpos : (0 : Int) < l.length := by omega
      have hg0 : (l.flatMap tmC)[0]? = some (slI t0.coeffs) := by have := tm_get0 hx0; simpa using this
      rw [checkTerm_eq, hv] at hz
      simp only [go_sem, xQ, ↓reduceIte, xA, xM, xL, xT, xE, xN, xP, xR, xS, h0, h5, hlt, hpos, ↓tm_part hx, hg0]
      refine callB_use (f76 x t0.coeffs.length (hc x (mem_of_get hx))) rfl ?_
      simp only [go_sem, xQ, ↓reduceIte, xA, xM, xL, xT, xE, xN, xP, xR, xS, h0, h5]
      by_cases h6 : checkTermR x t0.coeffs.length = 0
      · rw [if_pos h6] at hz
        simp only [go_sem, xQ, ↓reduceIte, xA, xM, xL, xT, xE, xN, xP, xR, xS, h0, h5, h6]
        exact ⟨hlt, by rw [wrap_succ _ (by omega)], by rw [hz, hv]⟩
      · rw [if_neg h6] at hz
        simp only [go_sem, xQ, ↓reduceIte, xA, xM, xL, xT, xE, xN, xP, xR, xS, h0, h5, h6]
        exact retP_eq (by rw [hz])
    · subst hk
      rw [List.drop_length, List.map_nil, firstE_nil] at hz
      simp only [go_sem, xQ, ↓reduceIte, xA, xM, xL, xT, xE, xN, xP, xR, xS, h0, h5, Nat.lt_irrefl]
      exact retP_eq (by rw [hz])
  · simp only [go_sem, xQ, ↓reduceIte, xA, xM, xL, xT, xE, xN, xP, xR, xS, Tryz.f55, h]
    exact retP_eq (by rw [checkTsE, if_neg h])
end Go.AL

/- What FormulaJoins asks: Always of the library. -/
set_option linter.unusedVariables false
set_option linter.unusedSimpArgs false
namespace Go.AL
open Go.Proofs
variable {Γ : Glob}
attribute [local irreducible] codeW opsW dopsW
end Go.AL
