/- The question as the library gets it (given), and what a formula's nodes hold in the reference (Truths, Holds). -/
import Derived.Test.YtjimmpldofoimaaGreatDoorXg
open Nat renaming reduceEqDiff → xQ, reduceAdd → xA, reduceMul → xM, reduceLeDiff → xL
open Int renaming reduceLT → xT, reduceLE → xE, reduceToNat → xN
open Go.AL renaming retPost_one → xP, retPost_oneN → xR, ers_at' → xS
set_option linter.unusedVariables false
set_option linter.unusedSimpArgs false
namespace Go.AL
open Go.Proofs
@[reducible] noncomputable def p46 (Γ : Glob) : Par := par Γ [] [(1, [false, false, true])] [(1, [0, 0, 3, 0, 8, 24, 56, 127, 255, 511])]
theorem ok46 (Γ : Glob) : FnOk (p46 Γ) 46 14 (Tryz.f46.body.getD .skip) Tryz.f46.results.toList 2 := fnOk (par_mixed _ _ _ _) Tryz.func46 rfl rfl rfl (by kernel_rfl) (Nat.le_of_ble_eq_true rfl) (by kernel_rfl)
@[reducible] noncomputable def p142 (Γ : Glob) : Par := par Γ [7] [] []
theorem ok142 (Γ : Glob) : FnOk (p142 Γ) 142 92 (Tryz.f142.body.getD .skip) Tryz.f142.results.toList 2 := fnOk (par_mixed _ _ _ _) Tryz.func142 rfl rfl rfl (by kernel_rfl) (Nat.le_of_ble_eq_true rfl) (by kernel_rfl)
variable {Γ : Glob}
attribute [local irreducible] codeW opsW dopsW
@[reducible] noncomputable def p42z (Γ : Glob) : Par := par Γ [2, 3, 5] [(5, [false, false, false, false, false, false, true, false, false, false, true])] [(5, [0, 1, 0, 4, 0, 16, 48, 0, 0, 256, 1008, 2044, 4092, 8191, 16383, 32767])]
theorem ok42z (Γ : Glob) : FnOk (p42z Γ) 42 33 (Tryz.f42.body.getD .skip) Tryz.f42.results.toList 1 := fnOk (par_mixed _ _ _ _) Tryz.func42 rfl rfl rfl (by kernel_rfl) (Nat.le_of_ble_eq_true rfl) (by kernel_rfl)
set_option maxHeartbeats 1000000 in
theorem f42 (f : Fm) (hl : Fits f.nodes.length) (hc : ∀ n ∈ f.nodes, NdFit n) : PCalls Tryz.prog Γ 42 [fmA f] (fmA f) := by
  refine pcalls (ok42z Γ) fun σ => ?_
  simp only [go_sem, xQ, ↓reduceIte, xA, xM, xL, xT, xE, xN, xP, xR, xS, Tryz.f42]
  intro b2 hb2
  simp only [go_sem, xQ, ↓reduceIte, xA, xM, xL, xT, xE, xN, xP, xR, xS]
  intro bo hbo
  obtain ⟨hne, hbo⟩ := un hbo
  have hne' : ¬ b2 = bo := fun e => hne e.symm
  simp only [go_sem, xQ, ↓reduceIte, xA, xM, xL, xT, xE, xN, xP, xR, xS, hne, hne']
  refine SemC.loopK mixed f.nodes.length (fun k ρ σ' ds => (ds = [] ∧ ρ 10 = slN f.nodes ∧ ρ 11 = int f.nodes.length ∧ ρ 2 = .v (.pointer (some ⟨b2, 0, none⟩)) ∧ ρ 3 = .v (.pointer (some ⟨bo, 0, none⟩)) ∧ ρ 12 = int k ∧ σ' b2 = some (.row [int 0, .v (.slice none 0 0)] 2 1)) ∧ Drop σ' σ ∧
    ∃ a, σ' bo = some (.row [int f.vars, a] 2 1) ∧ Grow σ σ' 4 a ((f.nodes.take k).flatMap ndC) k) (by kernel_rfl) ⟨by simp only [go_sem, xQ, ↓reduceIte, xA, xM, xL, xT, xE, xN, xP, xR, xS, hne, hne'], by repeat (first | exact Drop.refl _ | assumption | refine Drop.upd ?_ (by assumption)), _, by simp only [go_sem, xQ, ↓reduceIte, xA, xM, xL, xT, xE, xN, xP, xR, xS], .nil _ _ _⟩ ?_
  rintro k ρ σ' ds hk ⟨⟨rfl, h10, h11, h2, h3, h12, hs2⟩, hD, a, hso, hG⟩
  rcases get_or_end f.nodes k hk with ⟨x, hx, hlt, hd⟩ | hk
  · obtain ⟨hx1, hx2⟩ := hc x (mem_of_get hx)
    simp only [go_sem, xQ, ↓reduceIte, xA, xM, xL, xT, xE, xN, xP, xR, xS, h10, h11, h2, h3, h12, hlt, ↓nd_part hx]
    intro b hb
    have n2 := nn hb hs2
    have no := nn hb hso
    have n2' : ¬ b = b2 := fun e => n2 e.symm
    have no' : ¬ b = bo := fun e => no e.symm
    simp only [go_sem, xQ, ↓reduceIte, xA, xM, xL, xT, xE, xN, xP, xR, xS, h10, h11, h2, h3, h12, hlt, ↓nd_part hx, n2, no, n2', no', hs2, hso]
    refine dcallB_use (f60 x.term hx1) rfl ?_
    simp only [go_sem, xQ, ↓reduceIte, xA, xM, xL, xT, xE, xN, xP, xR, xS, n2, no, n2', no', hs2, hso, h10, h11, h2, h3, h12]
    refine ⟨slI x.kids, fun σ' _ K hK => appB_pure (appT_sl el46 tk3 by3 el46 (by decide) rfl (by decide)) (.inr rfl) (src_slI _ x.kids) (by simp [ints]) (by omega) hK, ?_⟩
    simp only [go_sem, xQ, ↓reduceIte, xA, xM, xL, xT, xE, xN, xP, xR, xS, n2, no, n2', no', hs2, hso, h10, h11, h2, h3, h12]
    refine appB_sl (appT_sl el64 tk216 by216 el64 (by decide) rfl (by decide)) (hD.upd (hD.free hb)) (hG.upd hb) rfl rfl (by omega) (fun a' σ2 hD2 hO hG2 => ?_)
    have e2 : σ2 b2 = some (.row [int 0, .v (.slice none 0 0)] 2 1) := by
      rw [hO b2 (hG.neS hs2 (by decide)) (by simp [upd, n2, hs2])]; simp [upd, n2, hs2]
    have eo : σ2 bo = some (.row [int f.vars, a] 2 1) := by
      rw [hO bo (hG.neS hso (by decide)) (by simp [upd, no, hso])]; simp [upd, no, hso]
    have hc2 := hG2.cellsX
    have ho2 := hG2.oneX
    simp only [go_sem, xQ, ↓reduceIte, xA, xM, xL, xT, xE, xN, xP, xR, xS, h10, h11, h2, h3, h12, e2, eo, hc2, ho2, hne', hlt]
    refine ⟨by rw [wrap_succ _ (by omega)], hD2.upd hbo, a', by simp only [go_sem, xQ, ↓reduceIte, xA, xM, xL, xT, xE, xN, xP, xR, xS, upd_same], ?_⟩
    rw [take_succ hx, List.flatMap_append]
    have := hG2.updW (hG2.neS eo (by decide)) (some (.row [int f.vars, a'] 2 1))
    simpa [ndC, slI, int] using this
  · subst hk
    have ho := hG.oneX
    rw [List.take_length] at hG
    simp only [go_sem, xQ, ↓reduceIte, xA, xM, xL, xT, xE, xN, xP, xR, xS, h10, h11, h2, h3, h12, Nat.lt_irrefl, hs2, hso, hne, ho]
    have hG' := hG.updW (hG.neS hs2 (by decide)) (some (.row [int f.vars, a] 2 1))
    exact ⟨.agg (.cons (.refl _) (.cons (hG'.retP (hD.upd hb2)).1 .nil)), hD.upd hb2⟩
theorem Grow.own_of {σ0 σ : Sig} {s n : Nat} {a : AV} {cs : List AV} (h : Grow σ0 σ s a cs n) (hne : cs ≠ []) : ∃ b c, a = .own b s 0 n ∧ σ b = some (.row cs s c) := by
  rcases h with ⟨_, h, _⟩ | ⟨b, c, h, _, h2, _⟩
  · exact absurd h hne
  · exact ⟨b, c, h, h2⟩
theorem kids_nat {kids : List Int} {i : Nat} (h : ∀ k ∈ kids, 0 ≤ k ∧ k < (i : Int)) {j : Nat} {x : Int} (hx : kids[j]? = some x) : ∃ m : Nat, x = m ∧ m < i := by
  have := h x (mem_of_get hx)
  exact ⟨x.toNat, by omega, by omega⟩
end Go.AL

/- FormulaHolds: the law holds at every formula and all values. -/
set_option linter.unusedVariables false
set_option linter.unusedSimpArgs false
namespace Go.AL
open Go.Proofs
variable {Γ : Glob}
attribute [local irreducible] codeW opsW dopsW
end Go.AL
