/- The reference's checks; own copies; ranges. -/
import Derived.Test.YtjimmpldofoimaaGreatDoorWd
import Derived.Test.YtjimmpldofoimaaGreatDoorXa
open Nat renaming reduceEqDiff → xQ, reduceAdd → xA, reduceMul → xM, reduceLeDiff → xL
open Int renaming reduceLT → xT, reduceLE → xE, reduceToNat → xN
open Go.AL renaming retPost_one → xP, retPost_oneN → xR, ers_at' → xS
set_option linter.unusedVariables false
set_option linter.unusedSimpArgs false
namespace Go.AL
open Go.Proofs
variable {Γ : Glob}
attribute [local irreducible] codeW opsW dopsW
def kidsE (i : Int) (l : List Int) : Int := firstE (l.map fun k => earlierE k i)
theorem kidsE_cons (i k : Int) (l : List Int) : kidsE i (k :: l) = if k < 0 ∨ i ≤ k then 9 else kidsE i l := by
  rw [kidsE, List.map_cons, firstE_cons, earlierE]
  by_cases h : k < 0
  · simp [h, whenE]
  · by_cases h2 : i ≤ k
    · simp [h, h2, whenE]
    · simp [h, h2, whenE, kidsE]
theorem firstE_two (a b : Int) : firstE [a, b] = if a = 0 then b else a := by
  rw [firstE_cons]
  split
  · rw [firstE_cons]
    split
    · rename_i h; rw [h]; rfl
    · rfl
  · rfl
set_option maxHeartbeats 1000000 in
theorem f141 (f : Fm) (i : Nat) (n : Nd) (hn : f.nodes[i]? = some n) (hl : Fits n.term.coeffs.length) (hl2 : Fits n.kids.length) : PCalls Tryz.prog Γ 141 [fmA f, int i] (int (nodeE n i f.vars)) := by
  have hlt : i < f.nodes.length := lt_of_getElem? hn
  have e22 : ((2 : Int) = 2) = True := eq_true rfl
  have e32 : ((3 : Int) = 2) = False := eq_false (by decide)
  have e42 : ((4 : Int) = 2) = False := eq_false (by decide)
  refine pcalls (ok141 Γ) fun σ => ?_
  by_cases h0 : n.kind < 0
  · simp only [go_sem, xQ, ↓reduceIte, xA, xM, xL, xT, xE, xN, xP, xR, xS, Tryz.f141, hn, hlt, h0, ↓nd_part hn]
    intro b5 hb5
    simp only [go_sem, xQ, ↓reduceIte, xA, xM, xL, xT, xE, xN, xP, xR, xS, h0]
    exact retP_drop (by repeat (first | exact Drop.refl _ | assumption | refine Drop.upd ?_ (by assumption))) (by rw [nodeE, if_pos (.inl h0)])
  · by_cases h4 : (4 : Int) < n.kind
    · simp only [go_sem, xQ, ↓reduceIte, xA, xM, xL, xT, xE, xN, xP, xR, xS, Tryz.f141, hn, hlt, h0, h4, ↓nd_part hn]
      intro b5 hb5
      simp only [go_sem, xQ, ↓reduceIte, xA, xM, xL, xT, xE, xN, xP, xR, xS, h0, h4]
      exact retP_drop (by repeat (first | exact Drop.refl _ | assumption | refine Drop.upd ?_ (by assumption))) (by rw [nodeE, if_pos (.inr h4)])
    · have hr : nodeE n i f.vars = if n.kind ≤ 1 then firstE [checkTermE n.term f.vars, whenE (decide ((0 : Int) < n.kids.length)) 2] else firstE [formE n, kidsE i n.kids] := by
        rw [nodeE, if_neg (by omega)]; rfl
      by_cases h01 : n.kind ≤ 1
      · simp only [go_sem, xQ, ↓reduceIte, xA, xM, xL, xT, xE, xN, xP, xR, xS, Tryz.f141, hn, hlt, ↓nd_part hn, h0, h4, h01]
        intro b5 hb5
        simp only [go_sem, xQ, ↓reduceIte, xA, xM, xL, xT, xE, xN, xP, xR, xS, h0, h4, h01]
        refine dcallB_use (f76 n.term f.vars hl) rfl ?_
        simp only [go_sem, xQ, ↓reduceIte, xA, xM, xL, xT, xE, xN, xP, xR, xS]
        refine callB_use (f67 _ _) rfl ?_
        simp only [go_sem, xQ, ↓reduceIte, xA, xM, xL, xT, xE, xN, xP, xR, xS]
        refine callB_use (f33 [_, _] (by simp)) rfl ?_
        simp only [go_sem, xQ, ↓reduceIte, xA, xM, xL, xT, xE, xN, xP, xR, xS]
        exact retP_drop (by repeat (first | exact Drop.refl _ | assumption | refine Drop.upd ?_ (by assumption))) (by rw [hr, if_pos (by omega), checkTerm_eq])
      · have h3 : n.kind = 2 ∨ n.kind = 3 ∨ n.kind = 4 := by omega
        rcases h3 with hk | hk | hk
        · have h01' : ¬ (2 : Int) ≤ 1 := by omega
          by_cases h1 : (0 : Int) < n.term.coeffs.length
          · simp only [go_sem, xQ, ↓reduceIte, xA, xM, xL, xT, xE, xN, xP, xR, xS, Tryz.f141, hn, hlt, ↓nd_part hn, h0, h4, hk, h01', e22, e32, e42]
            intro b5 hb5
            simp only [go_sem, xQ, ↓reduceIte, xA, xM, xL, xT, xE, xN, xP, xR, xS, hn, hlt, ↓nd_part hn, h0, h4, hk, h01', e22, e32, e42, h1]
            refine dcallB_use (f67 _ _) rfl ?_
            simp only [go_sem, xQ, ↓reduceIte, xA, xM, xL, xT, xE, xN, xP, xR, xS, e32, e42, e22, hk]
            refine dcallB_use (f67 _ _) rfl ?_
            simp only [go_sem, xQ, ↓reduceIte, xA, xM, xL, xT, xE, xN, xP, xR, xS, e32, e42, e22, hk]
            refine callB_use (f67 _ _) rfl ?_
            simp only [go_sem, xQ, ↓reduceIte, xA, xM, xL, xT, xE, xN, xP, xR, xS, e32, e42, e22, hk]
            refine callB_use (f33 [_, _, _] (by simp)) rfl ?_
            generalize hg : firstE [whenE _ 1, whenE _ 5, whenE _ 2] = e
            have hF : formE n = e := by
              rw [← hg, formE]
              simp only [h1, hk, e32, e42, e22, decide_true, decide_false, Bool.true_or, Bool.false_or, Bool.not_true, Bool.not_false, Bool.true_and, Bool.false_and, eq_self_iff_true]
            rw [if_neg (by omega), hF, firstE_two] at hr
            by_cases he : e = 0
            · rw [if_pos he] at hr
              simp only [go_sem, xQ, ↓reduceIte, xA, xM, xL, xT, xE, xN, xP, xR, xS, he, h1, hk]
              refine SemC.loopK mixed n.kids.length (fun k ρ σ' ds => (ds = [] ∧ ρ 1 = int i ∧ ρ 5 = .v (.pointer (some ⟨b5, 0, none⟩)) ∧ ρ 7 = int k ∧ σ' b5 = some (.row [int 2, slI n.term.coeffs, int n.term.const, slI n.kids] 4 1)) ∧ Drop σ' σ ∧ kidsE i n.kids = kidsE i (n.kids.drop k)) (by kernel_rfl)
                ⟨by simp only [go_sem, xQ, ↓reduceIte, xA, xM, xL, xT, xE, xN, xP, xR, xS, h1], by repeat (first | exact Drop.refl _ | assumption | refine Drop.upd ?_ (by assumption)), rfl⟩ ?_
              rintro k ρ σ' ds hkl ⟨⟨rfl, h1', h5, h7, hs5⟩, hD, hz⟩
              rcases get_or_end n.kids k hkl with ⟨x, hx, hltk, hd⟩ | hkl
              · rw [hd, kidsE_cons] at hz
                by_cases hx0 : x < 0
                · simp only [go_sem, xQ, ↓reduceIte, xA, xM, xL, xT, xE, xN, xP, xR, xS, h1', h5, h7, hs5, hx, hltk, hx0]
                  exact retP_drop hD (by rw [hr, hz, if_pos (.inl hx0)])
                · by_cases hxi : (i : Int) ≤ x
                  · simp only [go_sem, xQ, ↓reduceIte, xA, xM, xL, xT, xE, xN, xP, xR, xS, h1', h5, h7, hs5, hx, hltk, hx0, hxi]
                    exact retP_drop hD (by rw [hr, hz, if_pos (.inr hxi)])
                  · rw [if_neg (by omega)] at hz
                    simp only [go_sem, xQ, ↓reduceIte, xA, xM, xL, xT, xE, xN, xP, xR, xS, h1', h5, h7, hs5, hx, hltk, hx0, hxi]
                    exact ⟨by rw [wrap_succ _ (by omega)], hD, hz⟩
              · subst hkl
                rw [List.drop_length] at hz
                simp only [go_sem, xQ, ↓reduceIte, xA, xM, xL, xT, xE, xN, xP, xR, xS, h1', h5, h7, hs5, Nat.lt_irrefl]
                exact retP_drop hD (by rw [hr, hz]; rfl)
            · rw [if_neg he] at hr
              simp only [go_sem, xQ, ↓reduceIte, xA, xM, xL, xT, xE, xN, xP, xR, xS, he]
              exact retP_drop (by repeat (first | exact Drop.refl _ | assumption | refine Drop.upd ?_ (by assumption))) (by rw [hr])
          · by_cases h2 : n.term.const = 0
            · simp only [go_sem, xQ, ↓reduceIte, xA, xM, xL, xT, xE, xN, xP, xR, xS, Tryz.f141, hn, hlt, ↓nd_part hn, h0, h4, hk, h01', e22, e32, e42]
              intro b5 hb5
              simp only [go_sem, xQ, ↓reduceIte, xA, xM, xL, xT, xE, xN, xP, xR, xS, hn, hlt, ↓nd_part hn, h0, h4, hk, h01', e22, e32, e42, h1, h2]
              refine dcallB_use (f67 _ _) rfl ?_
              simp only [go_sem, xQ, ↓reduceIte, xA, xM, xL, xT, xE, xN, xP, xR, xS, e32, e42, e22, hk]
              refine dcallB_use (f67 _ _) rfl ?_
              simp only [go_sem, xQ, ↓reduceIte, xA, xM, xL, xT, xE, xN, xP, xR, xS, e32, e42, e22, hk]
              refine callB_use (f67 _ _) rfl ?_
              simp only [go_sem, xQ, ↓reduceIte, xA, xM, xL, xT, xE, xN, xP, xR, xS, e32, e42, e22, hk]
              refine callB_use (f33 [_, _, _] (by simp)) rfl ?_
              generalize hg : firstE [whenE _ 1, whenE _ 5, whenE _ 2] = e
              have hF : formE n = e := by
                rw [← hg, formE]
                simp only [h1, h2, hk, e32, e42, e22, decide_true, decide_false, Bool.true_or, Bool.false_or, Bool.not_true, Bool.not_false, Bool.true_and, Bool.false_and, eq_self_iff_true]
              rw [if_neg (by omega), hF, firstE_two] at hr
              by_cases he : e = 0
              · rw [if_pos he] at hr
                simp only [go_sem, xQ, ↓reduceIte, xA, xM, xL, xT, xE, xN, xP, xR, xS, he, h1, h2, hk]
                refine SemC.loopK mixed n.kids.length (fun k ρ σ' ds => (ds = [] ∧ ρ 1 = int i ∧ ρ 5 = .v (.pointer (some ⟨b5, 0, none⟩)) ∧ ρ 7 = int k ∧ σ' b5 = some (.row [int 2, slI n.term.coeffs, int 0, slI n.kids] 4 1)) ∧ Drop σ' σ ∧ kidsE i n.kids = kidsE i (n.kids.drop k)) (by kernel_rfl)
                  ⟨by simp only [go_sem, xQ, ↓reduceIte, xA, xM, xL, xT, xE, xN, xP, xR, xS, h1, h2], by repeat (first | exact Drop.refl _ | assumption | refine Drop.upd ?_ (by assumption)), rfl⟩ ?_
                rintro k ρ σ' ds hkl ⟨⟨rfl, h1', h5, h7, hs5⟩, hD, hz⟩
                rcases get_or_end n.kids k hkl with ⟨x, hx, hltk, hd⟩ | hkl
                · rw [hd, kidsE_cons] at hz
                  by_cases hx0 : x < 0
                  · simp only [go_sem, xQ, ↓reduceIte, xA, xM, xL, xT, xE, xN, xP, xR, xS, h1', h5, h7, hs5, hx, hltk, hx0]
                    exact retP_drop hD (by rw [hr, hz, if_pos (.inl hx0)])
                  · by_cases hxi : (i : Int) ≤ x
                    · simp only [go_sem, xQ, ↓reduceIte, xA, xM, xL, xT, xE, xN, xP, xR, xS, h1', h5, h7, hs5, hx, hltk, hx0, hxi]
                      exact retP_drop hD (by rw [hr, hz, if_pos (.inr hxi)])
                    · rw [if_neg (by omega)] at hz
                      simp only [go_sem, xQ, ↓reduceIte, xA, xM, xL, xT, xE, xN, xP, xR, xS, h1', h5, h7, hs5, hx, hltk, hx0, hxi]
                      exact ⟨by rw [wrap_succ _ (by omega)], hD, hz⟩
                · subst hkl
                  rw [List.drop_length] at hz
                  simp only [go_sem, xQ, ↓reduceIte, xA, xM, xL, xT, xE, xN, xP, xR, xS, h1', h5, h7, hs5, Nat.lt_irrefl]
                  exact retP_drop hD (by rw [hr, hz]; rfl)
              · rw [if_neg he] at hr
                simp only [go_sem, xQ, ↓reduceIte, xA, xM, xL, xT, xE, xN, xP, xR, xS, he]
                exact retP_drop (by repeat (first | exact Drop.refl _ | assumption | refine Drop.upd ?_ (by assumption))) (by rw [hr])
            · simp only [go_sem, xQ, ↓reduceIte, xA, xM, xL, xT, xE, xN, xP, xR, xS, Tryz.f141, hn, hlt, ↓nd_part hn, h0, h4, hk, h01', e22, e32, e42]
              intro b5 hb5
              simp only [go_sem, xQ, ↓reduceIte, xA, xM, xL, xT, xE, xN, xP, xR, xS, hn, hlt, ↓nd_part hn, h0, h4, hk, h01', e22, e32, e42, h1, h2]
              refine dcallB_use (f67 _ _) rfl ?_
              simp only [go_sem, xQ, ↓reduceIte, xA, xM, xL, xT, xE, xN, xP, xR, xS, e32, e42, e22, hk]
              refine dcallB_use (f67 _ _) rfl ?_
              simp only [go_sem, xQ, ↓reduceIte, xA, xM, xL, xT, xE, xN, xP, xR, xS, e32, e42, e22, hk]
              refine callB_use (f67 _ _) rfl ?_
              simp only [go_sem, xQ, ↓reduceIte, xA, xM, xL, xT, xE, xN, xP, xR, xS, e32, e42, e22, hk]
              refine callB_use (f33 [_, _, _] (by simp)) rfl ?_
              generalize hg : firstE [whenE _ 1, whenE _ 5, whenE _ 2] = e
              have hF : formE n = e := by
                rw [← hg, formE]
                simp only [h1, h2, hk, e32, e42, e22, decide_true, decide_false, Bool.true_or, Bool.false_or, Bool.not_true, Bool.not_false, Bool.true_and, Bool.false_and, eq_self_iff_true]
              rw [if_neg (by omega), hF, firstE_two] at hr
              by_cases he : e = 0
              · rw [if_pos he] at hr
                simp only [go_sem, xQ, ↓reduceIte, xA, xM, xL, xT, xE, xN, xP, xR, xS, he, h1, h2, hk]
                refine SemC.loopK mixed n.kids.length (fun k ρ σ' ds => (ds = [] ∧ ρ 1 = int i ∧ ρ 5 = .v (.pointer (some ⟨b5, 0, none⟩)) ∧ ρ 7 = int k ∧ σ' b5 = some (.row [int 2, slI n.term.coeffs, int n.term.const, slI n.kids] 4 1)) ∧ Drop σ' σ ∧ kidsE i n.kids = kidsE i (n.kids.drop k)) (by kernel_rfl)
                  ⟨by simp only [go_sem, xQ, ↓reduceIte, xA, xM, xL, xT, xE, xN, xP, xR, xS, h1, h2], by repeat (first | exact Drop.refl _ | assumption | refine Drop.upd ?_ (by assumption)), rfl⟩ ?_
                rintro k ρ σ' ds hkl ⟨⟨rfl, h1', h5, h7, hs5⟩, hD, hz⟩
                rcases get_or_end n.kids k hkl with ⟨x, hx, hltk, hd⟩ | hkl
                · rw [hd, kidsE_cons] at hz
                  by_cases hx0 : x < 0
                  · simp only [go_sem, xQ, ↓reduceIte, xA, xM, xL, xT, xE, xN, xP, xR, xS, h1', h5, h7, hs5, hx, hltk, hx0]
                    exact retP_drop hD (by rw [hr, hz, if_pos (.inl hx0)])
                  · by_cases hxi : (i : Int) ≤ x
                    · simp only [go_sem, xQ, ↓reduceIte, xA, xM, xL, xT, xE, xN, xP, xR, xS, h1', h5, h7, hs5, hx, hltk, hx0, hxi]
                      exact retP_drop hD (by rw [hr, hz, if_pos (.inr hxi)])
                    · rw [if_neg (by omega)] at hz
                      simp only [go_sem, xQ, ↓reduceIte, xA, xM, xL, xT, xE, xN, xP, xR, xS, h1', h5, h7, hs5, hx, hltk, hx0, hxi]
                      exact ⟨by rw [wrap_succ _ (by omega)], hD, hz⟩
                · subst hkl
                  rw [List.drop_length] at hz
                  simp only [go_sem, xQ, ↓reduceIte, xA, xM, xL, xT, xE, xN, xP, xR, xS, h1', h5, h7, hs5, Nat.lt_irrefl]
                  exact retP_drop hD (by rw [hr, hz]; rfl)
              · rw [if_neg he] at hr
                simp only [go_sem, xQ, ↓reduceIte, xA, xM, xL, xT, xE, xN, xP, xR, xS, he]
                exact retP_drop (by repeat (first | exact Drop.refl _ | assumption | refine Drop.upd ?_ (by assumption))) (by rw [hr])
        · have h01' : ¬ (3 : Int) ≤ 1 := by omega
          by_cases h1 : (0 : Int) < n.term.coeffs.length
          · simp only [go_sem, xQ, ↓reduceIte, xA, xM, xL, xT, xE, xN, xP, xR, xS, Tryz.f141, hn, hlt, ↓nd_part hn, h0, h4, hk, h01', e22, e32, e42]
            intro b5 hb5
            simp only [go_sem, xQ, ↓reduceIte, xA, xM, xL, xT, xE, xN, xP, xR, xS, hn, hlt, ↓nd_part hn, h0, h4, hk, h01', e22, e32, e42, h1]
            refine dcallB_use (f67 _ _) rfl ?_
            simp only [go_sem, xQ, ↓reduceIte, xA, xM, xL, xT, xE, xN, xP, xR, xS, e32, e42, e22, hk]
            refine dcallB_use (f67 _ _) rfl ?_
            simp only [go_sem, xQ, ↓reduceIte, xA, xM, xL, xT, xE, xN, xP, xR, xS, e32, e42, e22, hk]
            refine callB_use (f67 _ _) rfl ?_
            simp only [go_sem, xQ, ↓reduceIte, xA, xM, xL, xT, xE, xN, xP, xR, xS, e32, e42, e22, hk]
            refine callB_use (f33 [_, _, _] (by simp)) rfl ?_
            generalize hg : firstE [whenE _ 1, whenE _ 5, whenE _ 2] = e
            have hF : formE n = e := by
              rw [← hg, formE]
              simp only [h1, hk, e32, e42, e22, decide_true, decide_false, Bool.true_or, Bool.false_or, Bool.not_true, Bool.not_false, Bool.true_and, Bool.false_and, eq_self_iff_true]
            rw [if_neg (by omega), hF, firstE_two] at hr
            by_cases he : e = 0
            · rw [if_pos he] at hr
              simp only [go_sem, xQ, ↓reduceIte, xA, xM, xL, xT, xE, xN, xP, xR, xS, he, h1, hk]
              refine SemC.loopK mixed n.kids.length (fun k ρ σ' ds => (ds = [] ∧ ρ 1 = int i ∧ ρ 5 = .v (.pointer (some ⟨b5, 0, none⟩)) ∧ ρ 7 = int k ∧ σ' b5 = some (.row [int 3, slI n.term.coeffs, int n.term.const, slI n.kids] 4 1)) ∧ Drop σ' σ ∧ kidsE i n.kids = kidsE i (n.kids.drop k)) (by kernel_rfl)
                ⟨by simp only [go_sem, xQ, ↓reduceIte, xA, xM, xL, xT, xE, xN, xP, xR, xS, h1], by repeat (first | exact Drop.refl _ | assumption | refine Drop.upd ?_ (by assumption)), rfl⟩ ?_
              rintro k ρ σ' ds hkl ⟨⟨rfl, h1', h5, h7, hs5⟩, hD, hz⟩
              rcases get_or_end n.kids k hkl with ⟨x, hx, hltk, hd⟩ | hkl
              · rw [hd, kidsE_cons] at hz
                by_cases hx0 : x < 0
                · simp only [go_sem, xQ, ↓reduceIte, xA, xM, xL, xT, xE, xN, xP, xR, xS, h1', h5, h7, hs5, hx, hltk, hx0]
                  exact retP_drop hD (by rw [hr, hz, if_pos (.inl hx0)])
                · by_cases hxi : (i : Int) ≤ x
                  · simp only [go_sem, xQ, ↓reduceIte, xA, xM, xL, xT, xE, xN, xP, xR, xS, h1', h5, h7, hs5, hx, hltk, hx0, hxi]
                    exact retP_drop hD (by rw [hr, hz, if_pos (.inr hxi)])
                  · rw [if_neg (by omega)] at hz
                    simp only [go_sem, xQ, ↓reduceIte, xA, xM, xL, xT, xE, xN, xP, xR, xS, h1', h5, h7, hs5, hx, hltk, hx0, hxi]
                    exact ⟨by rw [wrap_succ _ (by omega)], hD, hz⟩
              · subst hkl
                rw [List.drop_length] at hz
                simp only [go_sem, xQ, ↓reduceIte, xA, xM, xL, xT, xE, xN, xP, xR, xS, h1', h5, h7, hs5, Nat.lt_irrefl]
                exact retP_drop hD (by rw [hr, hz]; rfl)
            · rw [if_neg he] at hr
              simp only [go_sem, xQ, ↓reduceIte, xA, xM, xL, xT, xE, xN, xP, xR, xS, he]
              exact retP_drop (by repeat (first | exact Drop.refl _ | assumption | refine Drop.upd ?_ (by assumption))) (by rw [hr])
          · by_cases h2 : n.term.const = 0
            · simp only [go_sem, xQ, ↓reduceIte, xA, xM, xL, xT, xE, xN, xP, xR, xS, Tryz.f141, hn, hlt, ↓nd_part hn, h0, h4, hk, h01', e22, e32, e42]
              intro b5 hb5
              simp only [go_sem, xQ, ↓reduceIte, xA, xM, xL, xT, xE, xN, xP, xR, xS, hn, hlt, ↓nd_part hn, h0, h4, hk, h01', e22, e32, e42, h1, h2]
              refine dcallB_use (f67 _ _) rfl ?_
              simp only [go_sem, xQ, ↓reduceIte, xA, xM, xL, xT, xE, xN, xP, xR, xS, e32, e42, e22, hk]
              refine dcallB_use (f67 _ _) rfl ?_
              simp only [go_sem, xQ, ↓reduceIte, xA, xM, xL, xT, xE, xN, xP, xR, xS, e32, e42, e22, hk]
              refine callB_use (f67 _ _) rfl ?_
              simp only [go_sem, xQ, ↓reduceIte, xA, xM, xL, xT, xE, xN, xP, xR, xS, e32, e42, e22, hk]
              refine callB_use (f33 [_, _, _] (by simp)) rfl ?_
              generalize hg : firstE [whenE _ 1, whenE _ 5, whenE _ 2] = e
              have hF : formE n = e := by
                rw [← hg, formE]
                simp only [h1, h2, hk, e32, e42, e22, decide_true, decide_false, Bool.true_or, Bool.false_or, Bool.not_true, Bool.not_false, Bool.true_and, Bool.false_and, eq_self_iff_true]
              rw [if_neg (by omega), hF, firstE_two] at hr
              by_cases he : e = 0
              · rw [if_pos he] at hr
                simp only [go_sem, xQ, ↓reduceIte, xA, xM, xL, xT, xE, xN, xP, xR, xS, he, h1, h2, hk]
                refine SemC.loopK mixed n.kids.length (fun k ρ σ' ds => (ds = [] ∧ ρ 1 = int i ∧ ρ 5 = .v (.pointer (some ⟨b5, 0, none⟩)) ∧ ρ 7 = int k ∧ σ' b5 = some (.row [int 3, slI n.term.coeffs, int 0, slI n.kids] 4 1)) ∧ Drop σ' σ ∧ kidsE i n.kids = kidsE i (n.kids.drop k)) (by kernel_rfl)
                  ⟨by simp only [go_sem, xQ, ↓reduceIte, xA, xM, xL, xT, xE, xN, xP, xR, xS, h1, h2], by repeat (first | exact Drop.refl _ | assumption | refine Drop.upd ?_ (by assumption)), rfl⟩ ?_
                rintro k ρ σ' ds hkl ⟨⟨rfl, h1', h5, h7, hs5⟩, hD, hz⟩
                rcases get_or_end n.kids k hkl with ⟨x, hx, hltk, hd⟩ | hkl
                · rw [hd, kidsE_cons] at hz
                  by_cases hx0 : x < 0
                  · simp only [go_sem, xQ, ↓reduceIte, xA, xM, xL, xT, xE, xN, xP, xR, xS, h1', h5, h7, hs5, hx, hltk, hx0]
                    exact retP_drop hD (by rw [hr, hz, if_pos (.inl hx0)])
                  · by_cases hxi : (i : Int) ≤ x
                    · simp only [go_sem, xQ, ↓reduceIte, xA, xM, xL, xT, xE, xN, xP, xR, xS, h1', h5, h7, hs5, hx, hltk, hx0, hxi]
                      exact retP_drop hD (by rw [hr, hz, if_pos (.inr hxi)])
                    · rw [if_neg (by omega)] at hz
                      simp only [go_sem, xQ, ↓reduceIte, xA, xM, xL, xT, xE, xN, xP, xR, xS, h1', h5, h7, hs5, hx, hltk, hx0, hxi]
                      exact ⟨by rw [wrap_succ _ (by omega)], hD, hz⟩
                · subst hkl
                  rw [List.drop_length] at hz
                  simp only [go_sem, xQ, ↓reduceIte, xA, xM, xL, xT, xE, xN, xP, xR, xS, h1', h5, h7, hs5, Nat.lt_irrefl]
                  exact retP_drop hD (by rw [hr, hz]; rfl)
              · rw [if_neg he] at hr
                simp only [go_sem, xQ, ↓reduceIte, xA, xM, xL, xT, xE, xN, xP, xR, xS, he]
                exact retP_drop (by repeat (first | exact Drop.refl _ | assumption | refine Drop.upd ?_ (by assumption))) (by rw [hr])
            · simp only [go_sem, xQ, ↓reduceIte, xA, xM, xL, xT, xE, xN, xP, xR, xS, Tryz.f141, hn, hlt, ↓nd_part hn, h0, h4, hk, h01', e22, e32, e42]
              intro b5 hb5
              simp only [go_sem, xQ, ↓reduceIte, xA, xM, xL, xT, xE, xN, xP, xR, xS, hn, hlt, ↓nd_part hn, h0, h4, hk, h01', e22, e32, e42, h1, h2]
              refine dcallB_use (f67 _ _) rfl ?_
              simp only [go_sem, xQ, ↓reduceIte, xA, xM, xL, xT, xE, xN, xP, xR, xS, e32, e42, e22, hk]
              refine dcallB_use (f67 _ _) rfl ?_
              simp only [go_sem, xQ, ↓reduceIte, xA, xM, xL, xT, xE, xN, xP, xR, xS, e32, e42, e22, hk]
              refine callB_use (f67 _ _) rfl ?_
              simp only [go_sem, xQ, ↓reduceIte, xA, xM, xL, xT, xE, xN, xP, xR, xS, e32, e42, e22, hk]
              refine callB_use (f33 [_, _, _] (by simp)) rfl ?_
              generalize hg : firstE [whenE _ 1, whenE _ 5, whenE _ 2] = e
              have hF : formE n = e := by
                rw [← hg, formE]
                simp only [h1, h2, hk, e32, e42, e22, decide_true, decide_false, Bool.true_or, Bool.false_or, Bool.not_true, Bool.not_false, Bool.true_and, Bool.false_and, eq_self_iff_true]
              rw [if_neg (by omega), hF, firstE_two] at hr
              by_cases he : e = 0
              · rw [if_pos he] at hr
                simp only [go_sem, xQ, ↓reduceIte, xA, xM, xL, xT, xE, xN, xP, xR, xS, he, h1, h2, hk]
                refine SemC.loopK mixed n.kids.length (fun k ρ σ' ds => (ds = [] ∧ ρ 1 = int i ∧ ρ 5 = .v (.pointer (some ⟨b5, 0, none⟩)) ∧ ρ 7 = int k ∧ σ' b5 = some (.row [int 3, slI n.term.coeffs, int n.term.const, slI n.kids] 4 1)) ∧ Drop σ' σ ∧ kidsE i n.kids = kidsE i (n.kids.drop k)) (by kernel_rfl)
                  ⟨by simp only [go_sem, xQ, ↓reduceIte, xA, xM, xL, xT, xE, xN, xP, xR, xS, h1, h2], by repeat (first | exact Drop.refl _ | assumption | refine Drop.upd ?_ (by assumption)), rfl⟩ ?_
                rintro k ρ σ' ds hkl ⟨⟨rfl, h1', h5, h7, hs5⟩, hD, hz⟩
                rcases get_or_end n.kids k hkl with ⟨x, hx, hltk, hd⟩ | hkl
                · rw [hd, kidsE_cons] at hz
                  by_cases hx0 : x < 0
                  · simp only [go_sem, xQ, ↓reduceIte, xA, xM, xL, xT, xE, xN, xP, xR, xS, h1', h5, h7, hs5, hx, hltk, hx0]
                    exact retP_drop hD (by rw [hr, hz, if_pos (.inl hx0)])
                  · by_cases hxi : (i : Int) ≤ x
                    · simp only [go_sem, xQ, ↓reduceIte, xA, xM, xL, xT, xE, xN, xP, xR, xS, h1', h5, h7, hs5, hx, hltk, hx0, hxi]
                      exact retP_drop hD (by rw [hr, hz, if_pos (.inr hxi)])
                    · rw [if_neg (by omega)] at hz
                      simp only [go_sem, xQ, ↓reduceIte, xA, xM, xL, xT, xE, xN, xP, xR, xS, h1', h5, h7, hs5, hx, hltk, hx0, hxi]
                      exact ⟨by rw [wrap_succ _ (by omega)], hD, hz⟩
                · subst hkl
                  rw [List.drop_length] at hz
                  simp only [go_sem, xQ, ↓reduceIte, xA, xM, xL, xT, xE, xN, xP, xR, xS, h1', h5, h7, hs5, Nat.lt_irrefl]
                  exact retP_drop hD (by rw [hr, hz]; rfl)
              · rw [if_neg he] at hr
                simp only [go_sem, xQ, ↓reduceIte, xA, xM, xL, xT, xE, xN, xP, xR, xS, he]
                exact retP_drop (by repeat (first | exact Drop.refl _ | assumption | refine Drop.upd ?_ (by assumption))) (by rw [hr])
        · have h01' : ¬ (4 : Int) ≤ 1 := by omega
          by_cases h1 : (0 : Int) < n.term.coeffs.length
          · simp only [go_sem, xQ, ↓reduceIte, xA, xM, xL, xT, xE, xN, xP, xR, xS, Tryz.f141, hn, hlt, ↓nd_part hn, h0, h4, hk, h01', e22, e32, e42]
            intro b5 hb5
            simp only [go_sem, xQ, ↓reduceIte, xA, xM, xL, xT, xE, xN, xP, xR, xS, hn, hlt, ↓nd_part hn, h0, h4, hk, h01', e22, e32, e42, h1]
            refine dcallB_use (f67 _ _) rfl ?_
            simp only [go_sem, xQ, ↓reduceIte, xA, xM, xL, xT, xE, xN, xP, xR, xS, e32, e42, e22, hk]
            refine dcallB_use (f67 _ _) rfl ?_
            simp only [go_sem, xQ, ↓reduceIte, xA, xM, xL, xT, xE, xN, xP, xR, xS, e32, e42, e22, hk]
            refine callB_use (f67 _ _) rfl ?_
            simp only [go_sem, xQ, ↓reduceIte, xA, xM, xL, xT, xE, xN, xP, xR, xS, e32, e42, e22, hk]
            refine callB_use (f33 [_, _, _] (by simp)) rfl ?_
            generalize hg : firstE [whenE _ 1, whenE _ 5, whenE _ 2] = e
            have hF : formE n = e := by
              rw [← hg, formE]
              simp only [h1, hk, e32, e42, e22, decide_true, decide_false, Bool.true_or, Bool.false_or, Bool.not_true, Bool.not_false, Bool.true_and, Bool.false_and, eq_self_iff_true]
            rw [if_neg (by omega), hF, firstE_two] at hr
            by_cases he : e = 0
            · rw [if_pos he] at hr
              simp only [go_sem, xQ, ↓reduceIte, xA, xM, xL, xT, xE, xN, xP, xR, xS, he, h1, hk]
              refine SemC.loopK mixed n.kids.length (fun k ρ σ' ds => (ds = [] ∧ ρ 1 = int i ∧ ρ 5 = .v (.pointer (some ⟨b5, 0, none⟩)) ∧ ρ 7 = int k ∧ σ' b5 = some (.row [int 4, slI n.term.coeffs, int n.term.const, slI n.kids] 4 1)) ∧ Drop σ' σ ∧ kidsE i n.kids = kidsE i (n.kids.drop k)) (by kernel_rfl)
                ⟨by simp only [go_sem, xQ, ↓reduceIte, xA, xM, xL, xT, xE, xN, xP, xR, xS, h1], by repeat (first | exact Drop.refl _ | assumption | refine Drop.upd ?_ (by assumption)), rfl⟩ ?_
              rintro k ρ σ' ds hkl ⟨⟨rfl, h1', h5, h7, hs5⟩, hD, hz⟩
              rcases get_or_end n.kids k hkl with ⟨x, hx, hltk, hd⟩ | hkl
              · rw [hd, kidsE_cons] at hz
                by_cases hx0 : x < 0
                · simp only [go_sem, xQ, ↓reduceIte, xA, xM, xL, xT, xE, xN, xP, xR, xS, h1', h5, h7, hs5, hx, hltk, hx0]
                  exact retP_drop hD (by rw [hr, hz, if_pos (.inl hx0)])
                · by_cases hxi : (i : Int) ≤ x
                  · simp only [go_sem, xQ, ↓reduceIte, xA, xM, xL, xT, xE, xN, xP, xR, xS, h1', h5, h7, hs5, hx, hltk, hx0, hxi]
                    exact retP_drop hD (by rw [hr, hz, if_pos (.inr hxi)])
                  · rw [if_neg (by omega)] at hz
                    simp only [go_sem, xQ, ↓reduceIte, xA, xM, xL, xT, xE, xN, xP, xR, xS, h1', h5, h7, hs5, hx, hltk, hx0, hxi]
                    exact ⟨by rw [wrap_succ _ (by omega)], hD, hz⟩
              · subst hkl
                rw [List.drop_length] at hz
                simp only [go_sem, xQ, ↓reduceIte, xA, xM, xL, xT, xE, xN, xP, xR, xS, h1', h5, h7, hs5, Nat.lt_irrefl]
                exact retP_drop hD (by rw [hr, hz]; rfl)
            · rw [if_neg he] at hr
              simp only [go_sem, xQ, ↓reduceIte, xA, xM, xL, xT, xE, xN, xP, xR, xS, he]
              exact retP_drop (by repeat (first | exact Drop.refl _ | assumption | refine Drop.upd ?_ (by assumption))) (by rw [hr])
          · by_cases h2 : n.term.const = 0
            · simp only [go_sem, xQ, ↓reduceIte, xA, xM, xL, xT, xE, xN, xP, xR, xS, Tryz.f141, hn, hlt, ↓nd_part hn, h0, h4, hk, h01', e22, e32, e42]
              intro b5 hb5
              simp only [go_sem, xQ, ↓reduceIte, xA, xM, xL, xT, xE, xN, xP, xR, xS, hn, hlt, ↓nd_part hn, h0, h4, hk, h01', e22, e32, e42, h1, h2]
              refine dcallB_use (f67 _ _) rfl ?_
              simp only [go_sem, xQ, ↓reduceIte, xA, xM, xL, xT, xE, xN, xP, xR, xS, e32, e42, e22, hk]
              refine dcallB_use (f67 _ _) rfl ?_
              simp only [go_sem, xQ, ↓reduceIte, xA, xM, xL, xT, xE, xN, xP, xR, xS, e32, e42, e22, hk]
              refine callB_use (f67 _ _) rfl ?_
              simp only [go_sem, xQ, ↓reduceIte, xA, xM, xL, xT, xE, xN, xP, xR, xS, e32, e42, e22, hk]
              refine callB_use (f33 [_, _, _] (by simp)) rfl ?_
              generalize hg : firstE [whenE _ 1, whenE _ 5, whenE _ 2] = e
              have hF : formE n = e := by
                rw [← hg, formE]
                simp only [h1, h2, hk, e32, e42, e22, decide_true, decide_false, Bool.true_or, Bool.false_or, Bool.not_true, Bool.not_false, Bool.true_and, Bool.false_and, eq_self_iff_true]
              rw [if_neg (by omega), hF, firstE_two] at hr
              by_cases he : e = 0
              · rw [if_pos he] at hr
                simp only [go_sem, xQ, ↓reduceIte, xA, xM, xL, xT, xE, xN, xP, xR, xS, he, h1, h2, hk]
                refine SemC.loopK mixed n.kids.length (fun k ρ σ' ds => (ds = [] ∧ ρ 1 = int i ∧ ρ 5 = .v (.pointer (some ⟨b5, 0, none⟩)) ∧ ρ 7 = int k ∧ σ' b5 = some (.row [int 4, slI n.term.coeffs, int 0, slI n.kids] 4 1)) ∧ Drop σ' σ ∧ kidsE i n.kids = kidsE i (n.kids.drop k)) (by kernel_rfl)
                  ⟨by simp only [go_sem, xQ, ↓reduceIte, xA, xM, xL, xT, xE, xN, xP, xR, xS, h1, h2], by repeat (first | exact Drop.refl _ | assumption | refine Drop.upd ?_ (by assumption)), rfl⟩ ?_
                rintro k ρ σ' ds hkl ⟨⟨rfl, h1', h5, h7, hs5⟩, hD, hz⟩
                rcases get_or_end n.kids k hkl with ⟨x, hx, hltk, hd⟩ | hkl
                · rw [hd, kidsE_cons] at hz
                  by_cases hx0 : x < 0
                  · simp only [go_sem, xQ, ↓reduceIte, xA, xM, xL, xT, xE, xN, xP, xR, xS, h1', h5, h7, hs5, hx, hltk, hx0]
                    exact retP_drop hD (by rw [hr, hz, if_pos (.inl hx0)])
                  · by_cases hxi : (i : Int) ≤ x
                    · simp only [go_sem, xQ, ↓reduceIte, xA, xM, xL, xT, xE, xN, xP, xR, xS, h1', h5, h7, hs5, hx, hltk, hx0, hxi]
                      exact retP_drop hD (by rw [hr, hz, if_pos (.inr hxi)])
                    · rw [if_neg (by omega)] at hz
                      simp only [go_sem, xQ, ↓reduceIte, xA, xM, xL, xT, xE, xN, xP, xR, xS, h1', h5, h7, hs5, hx, hltk, hx0, hxi]
                      exact ⟨by rw [wrap_succ _ (by omega)], hD, hz⟩
                · subst hkl
                  rw [List.drop_length] at hz
                  simp only [go_sem, xQ, ↓reduceIte, xA, xM, xL, xT, xE, xN, xP, xR, xS, h1', h5, h7, hs5, Nat.lt_irrefl]
                  exact retP_drop hD (by rw [hr, hz]; rfl)
              · rw [if_neg he] at hr
                simp only [go_sem, xQ, ↓reduceIte, xA, xM, xL, xT, xE, xN, xP, xR, xS, he]
                exact retP_drop (by repeat (first | exact Drop.refl _ | assumption | refine Drop.upd ?_ (by assumption))) (by rw [hr])
            · simp only [go_sem, xQ, ↓reduceIte, xA, xM, xL, xT, xE, xN, xP, xR, xS, Tryz.f141, hn, hlt, ↓nd_part hn, h0, h4, hk, h01', e22, e32, e42]
              intro b5 hb5
              simp only [go_sem, xQ, ↓reduceIte, xA, xM, xL, xT, xE, xN, xP, xR, xS, hn, hlt, ↓nd_part hn, h0, h4, hk, h01', e22, e32, e42, h1, h2]
              refine dcallB_use (f67 _ _) rfl ?_
              simp only [go_sem, xQ, ↓reduceIte, xA, xM, xL, xT, xE, xN, xP, xR, xS, e32, e42, e22, hk]
              refine dcallB_use (f67 _ _) rfl ?_
              simp only [go_sem, xQ, ↓reduceIte, xA, xM, xL, xT, xE, xN, xP, xR, xS, e32, e42, e22, hk]
              refine callB_use (f67 _ _) rfl ?_
              simp only [go_sem, xQ, ↓reduceIte, xA, xM, xL, xT, xE, xN, xP, xR, xS, e32, e42, e22, hk]
              refine callB_use (f33 [_, _, _] (by simp)) rfl ?_
              generalize hg : firstE [whenE _ 1, whenE _ 5, whenE _ 2] = e
              have hF : formE n = e := by
                rw [← hg, formE]
                simp only [h1, h2, hk, e32, e42, e22, decide_true, decide_false, Bool.true_or, Bool.false_or, Bool.not_true, Bool.not_false, Bool.true_and, Bool.false_and, eq_self_iff_true]
              rw [if_neg (by omega), hF, firstE_two] at hr
              by_cases he : e = 0
              · rw [if_pos he] at hr
                simp only [go_sem, xQ, ↓reduceIte, xA, xM, xL, xT, xE, xN, xP, xR, xS, he, h1, h2, hk]
                refine SemC.loopK mixed n.kids.length (fun k ρ σ' ds => (ds = [] ∧ ρ 1 = int i ∧ ρ 5 = .v (.pointer (some ⟨b5, 0, none⟩)) ∧ ρ 7 = int k ∧ σ' b5 = some (.row [int 4, slI n.term.coeffs, int n.term.const, slI n.kids] 4 1)) ∧ Drop σ' σ ∧ kidsE i n.kids = kidsE i (n.kids.drop k)) (by kernel_rfl)
                  ⟨by simp only [go_sem, xQ, ↓reduceIte, xA, xM, xL, xT, xE, xN, xP, xR, xS, h1, h2], by repeat (first | exact Drop.refl _ | assumption | refine Drop.upd ?_ (by assumption)), rfl⟩ ?_
                rintro k ρ σ' ds hkl ⟨⟨rfl, h1', h5, h7, hs5⟩, hD, hz⟩
                rcases get_or_end n.kids k hkl with ⟨x, hx, hltk, hd⟩ | hkl
                · rw [hd, kidsE_cons] at hz
                  by_cases hx0 : x < 0
                  · simp only [go_sem, xQ, ↓reduceIte, xA, xM, xL, xT, xE, xN, xP, xR, xS, h1', h5, h7, hs5, hx, hltk, hx0]
                    exact retP_drop hD (by rw [hr, hz, if_pos (.inl hx0)])
                  · by_cases hxi : (i : Int) ≤ x
                    · simp only [go_sem, xQ, ↓reduceIte, xA, xM, xL, xT, xE, xN, xP, xR, xS, h1', h5, h7, hs5, hx, hltk, hx0, hxi]
                      exact retP_drop hD (by rw [hr, hz, if_pos (.inr hxi)])
                    · rw [if_neg (by omega)] at hz
                      simp only [go_sem, xQ, ↓reduceIte, xA, xM, xL, xT, xE, xN, xP, xR, xS, h1', h5, h7, hs5, hx, hltk, hx0, hxi]
                      exact ⟨by rw [wrap_succ _ (by omega)], hD, hz⟩
                · subst hkl
                  rw [List.drop_length] at hz
                  simp only [go_sem, xQ, ↓reduceIte, xA, xM, xL, xT, xE, xN, xP, xR, xS, h1', h5, h7, hs5, Nat.lt_irrefl]
                  exact retP_drop hD (by rw [hr, hz]; rfl)
              · rw [if_neg he] at hr
                simp only [go_sem, xQ, ↓reduceIte, xA, xM, xL, xT, xE, xN, xP, xR, xS, he]
                exact retP_drop (by repeat (first | exact Drop.refl _ | assumption | refine Drop.upd ?_ (by assumption))) (by rw [hr])
end Go.AL

/- The reference's Check, Short; own copies; ranges. -/
set_option linter.unusedVariables false
set_option linter.unusedSimpArgs false
namespace Go.AL
open Go.Proofs
variable {Γ : Glob}
attribute [local irreducible] codeW opsW dopsW
theorem f44 (f : Fm) (hl : Fits f.nodes.length) (hc : ∀ n ∈ f.nodes, NdFit n) : PCalls Tryz.prog Γ 44 [fmA f] (int (checkE f)) := by
  refine pcalls (ok44 Γ) fun σ => ?_
  simp only [go_sem, xQ, ↓reduceIte, xA, xM, xL, xT, xE, xN, xP, xR, xS, Tryz.f44]
  refine dcallB_use (f68 _) rfl ?_
  simp only [go_sem, xQ, ↓reduceIte, xA, xM, xL, xT, xE, xN, xP, xR, xS]
  refine dcallB_use (f67 _ _) rfl ?_
  simp only [go_sem, xQ, ↓reduceIte, xA, xM, xL, xT, xE, xN, xP, xR, xS]
  refine callB_use (f67 _ _) rfl ?_
  simp only [go_sem, xQ, ↓reduceIte, xA, xM, xL, xT, xE, xN, xP, xR, xS]
  refine callB_use (f33 [_, _, _] (by simp)) rfl ?_
  by_cases h : headE f = 0
  · have hr : checkE f = nodesE f.vars 0 f.nodes := by rw [checkE, if_pos h]
    have h' := h
    unfold headE at h'
    simp only [go_sem, xQ, ↓reduceIte, xA, xM, xL, xT, xE, xN, xP, xR, xS, h']
    refine SemC.loopK mixed f.nodes.length (fun k ρ σ' ds => σ' = σ ∧ ds = [] ∧ ρ 1 = .pp (fmC f) 0 ∧ ρ 4 = int k ∧ checkE f = nodesE f.vars k (f.nodes.drop k)) (by kernel_rfl) ⟨rfl, rfl, rfl, rfl, by simpa using hr⟩ ?_
    rintro k ρ σ' ds hk ⟨rfl, rfl, h1, h4, hz⟩
    rcases get_or_end f.nodes k hk with ⟨n, hn, hlt, hd⟩ | hk
    · rw [hd, nodesE] at hz
      simp only [go_sem, xQ, ↓reduceIte, xA, xM, xL, xT, xE, xN, xP, xR, xS, h1, h4, hlt]
      refine callB_use (f141 f k n hn (hc n (mem_of_get hn)).1 (hc n (mem_of_get hn)).2) rfl ?_
      by_cases hE : nodeE n k f.vars = 0
      · rw [if_pos hE] at hz
        simp only [go_sem, xQ, ↓reduceIte, xA, xM, xL, xT, xE, xN, xP, xR, xS, h1, h4, hE]
        exact ⟨hlt, by rw [wrap_succ _ (by omega)], hz⟩
      · rw [if_neg hE] at hz
        simp only [go_sem, xQ, ↓reduceIte, xA, xM, xL, xT, xE, xN, xP, xR, xS, h1, h4, hE]
        exact retP_eq (by rw [hz])
    · subst hk
      rw [List.drop_length, nodesE] at hz
      simp only [go_sem, xQ, ↓reduceIte, xA, xM, xL, xT, xE, xN, xP, xR, xS, h1, h4, Nat.lt_irrefl]
      exact retP_eq (by rw [hz])
  · have h' := h
    unfold headE at h'
    simp only [go_sem, xQ, ↓reduceIte, xA, xM, xL, xT, xE, xN, xP, xR, xS, h']
    exact retP_eq (by rw [checkE, if_neg h, headE])
def shortNdB (n : Nd) : Bool := decide (n.term.coeffs.length ≤ 10) && (!decide ((4 : Int) < n.kids.length) || decide ((n.kids.length : Int) = 201))
def shortFB (f : Fm) : Bool := f.nodes.all shortNdB && (decide ((f.nodes.length : Int) ≤ 12) || decide ((f.nodes.length : Int) = 201))
theorem f39 (f : Fm) (hl : f.nodes.length ≤ 9223372036854775807) : PCalls Tryz.prog Γ 39 [fmA f] (.v (.bool (shortFB f))) := by
  refine pcalls (ok39 Γ) fun σ => ?_
  simp only [go_sem, xQ, ↓reduceIte, xA, xM, xL, xT, xE, xN, xP, xR, xS, Tryz.f39]
  refine SemC.loopK mixed f.nodes.length (fun k ρ σ' ds => (ds = [] ∧ ρ 1 = .pp (fmC f) 0 ∧ ρ 3 = int k) ∧ Drop σ' σ ∧ f.nodes.all shortNdB = (f.nodes.drop k).all shortNdB) (by kernel_rfl) ⟨⟨rfl, rfl, rfl⟩, Drop.refl _, rfl⟩ ?_
  rintro k ρ σ' ds hk ⟨⟨rfl, h1, h3⟩, hD, hz⟩
  rcases get_or_end f.nodes k hk with ⟨n, hn, hlt, hd⟩ | hk
  · rw [hd, List.all_cons] at hz
    have hw : IntKind.i64.wrap ((k : Int) + 1) = ((k + 1 : Nat) : Int) := wrap_succ _ (by omega)
    simp only [go_sem, xQ, ↓reduceIte, xA, xM, xL, xT, xE, xN, xP, xR, xS, h1, h3, hlt, ↓nd_part hn]
    intro b4 hb4
    simp only [go_sem, xQ, ↓reduceIte, xA, xM, xL, xT, xE, xN, xP, xR, xS, h1, h3, hlt, ↓nd_part hn]
    refine callB_use (f58 n.term) rfl ?_
    by_cases c1 : n.term.coeffs.length ≤ 10
    · by_cases c2 : (4 : Int) < n.kids.length
      · by_cases c3 : (n.kids.length : Int) = 201
        · simp only [go_sem, xQ, ↓reduceIte, xA, xM, xL, xT, xE, xN, xP, xR, xS, c1, c2, c3, h1, h3]
          exact ⟨hlt, by rw [hw], hD.upd (hD.free hb4), by rw [hz, shortNdB]; simp only [c1, c3, decide_true, Bool.or_true, Bool.true_and]⟩
        · simp only [go_sem, xQ, ↓reduceIte, xA, xM, xL, xT, xE, xN, xP, xR, xS, c1, c2, c3, h1, h3]
          exact retP_drop (hD.upd (hD.free hb4)) (by rw [shortFB, hz, shortNdB]; simp only [c1, c2, c3, decide_true, decide_false, Bool.not_true, Bool.false_or, Bool.and_false, Bool.false_and])
      · simp only [go_sem, xQ, ↓reduceIte, xA, xM, xL, xT, xE, xN, xP, xR, xS, c1, c2, h1, h3]
        exact ⟨hlt, by rw [hw], hD.upd (hD.free hb4), by rw [hz, shortNdB]; simp only [c1, c2, decide_true, decide_false, Bool.not_false, Bool.true_or, Bool.true_and]⟩
    · simp only [go_sem, xQ, ↓reduceIte, xA, xM, xL, xT, xE, xN, xP, xR, xS, c1, h1, h3]
      exact retP_drop (hD.upd (hD.free hb4)) (by rw [shortFB, hz, shortNdB]; simp only [c1, decide_false, Bool.false_and])
  · subst hk
    rw [List.drop_length, List.all_nil] at hz
    by_cases c1 : (f.nodes.length : Int) ≤ 12
    · simp only [go_sem, xQ, ↓reduceIte, xA, xM, xL, xT, xE, xN, xP, xR, xS, h1, h3, Nat.lt_irrefl, c1]
      exact retP_drop hD (by rw [shortFB, hz]; simp only [c1, decide_true, Bool.true_or, Bool.true_and])
    · simp only [go_sem, xQ, ↓reduceIte, xA, xM, xL, xT, xE, xN, xP, xR, xS, h1, h3, Nat.lt_irrefl, c1]
      exact retP_drop hD (by rw [shortFB, hz]; simp only [c1, decide_false, Bool.false_or, Bool.true_and])
theorem f60 (t : Tm) (hl : Fits t.coeffs.length) : PCalls Tryz.prog Γ 60 [tmA t] (tmA t) := by
  refine pcalls (ok60 Γ) fun σ => ?_
  simp only [go_sem, xQ, ↓reduceIte, xA, xM, xL, xT, xE, xN, xP, xR, xS, Tryz.f60]
  intro b hb
  simp only [go_sem, xQ, ↓reduceIte, xA, xM, xL, xT, xE, xN, xP, xR, xS]
  refine callB_use (f117 t hl) rfl ?_
  simp only [go_sem, xQ, ↓reduceIte, xA, xM, xL, xT, xE, xN, xP, xR, xS]
  exact retP_drop (by repeat (first | exact Drop.refl _ | assumption | refine Drop.upd ?_ (by assumption))) (rfl)
theorem f43 (l : List Int) (hl : Fits l.length) : PCalls Tryz.prog Γ 43 [slI l] (slI l) := by
  refine pcalls (ok43 Γ) fun σ => ?_
  simp only [go_sem, xQ, ↓reduceIte, xA, xM, xL, xT, xE, xN, xP, xR, xS, Tryz.f43]
  refine appB_pure (appT_sl el46 tk3 by3 el46 (by decide) rfl (by decide)) (.inr rfl) (src_slI _ l) (by simp [ints]) (by omega) ?_
  simp only [go_sem, xQ, ↓reduceIte, xA, xM, xL, xT, xE, xN, xP, xR, xS]
theorem f162 (r : Rg) : PCalls Tryz.prog Γ 162 [rgA r] (int (spanE r)) := by
  refine pcalls (ok162 Γ) fun σ => ?_
  by_cases h : r.lo = 0
  · by_cases h' : r.hi = 0
    · simp only [go_sem, xQ, ↓reduceIte, xA, xM, xL, xT, xE, xN, xP, xR, xS, Tryz.f162, h, h', Bool.and_self]
      exact retP_eq (by cases r; simp only at h h'; subst h; subst h'; rfl)
    · simp only [go_sem, xQ, ↓reduceIte, xA, xM, xL, xT, xE, xN, xP, xR, xS, Tryz.f162, h, h', Bool.true_and, Bool.and_false]
      refine dcallB_use (f219 _) rfl ?_
      simp only [go_sem, xQ, ↓reduceIte, xA, xM, xL, xT, xE, xN, xP, xR, xS]
      refine dcallB_use (f219 _) rfl ?_
      simp only [go_sem, xQ, ↓reduceIte, xA, xM, xL, xT, xE, xN, xP, xR, xS]
      refine callB_use (f144 _ _) rfl ?_
      simp only [go_sem, xQ, ↓reduceIte, xA, xM, xL, xT, xE, xN, xP, xR, xS]
      refine callB_use (f135 [_, _, _] (by simp)) rfl ?_
      simp only [go_sem, xQ, ↓reduceIte, xA, xM, xL, xT, xE, xN, xP, xR, xS]
      exact retP_eq (by cases r; simp only at h h'; subst h; rfl)
  · simp only [go_sem, xQ, ↓reduceIte, xA, xM, xL, xT, xE, xN, xP, xR, xS, Tryz.f162, h, Bool.false_and]
    refine dcallB_use (f219 _) rfl ?_
    simp only [go_sem, xQ, ↓reduceIte, xA, xM, xL, xT, xE, xN, xP, xR, xS]
    refine dcallB_use (f219 _) rfl ?_
    simp only [go_sem, xQ, ↓reduceIte, xA, xM, xL, xT, xE, xN, xP, xR, xS]
    refine callB_use (f144 _ _) rfl ?_
    simp only [go_sem, xQ, ↓reduceIte, xA, xM, xL, xT, xE, xN, xP, xR, xS]
    refine callB_use (f135 [_, _, _] (by simp)) rfl ?_
    simp only [go_sem, xQ, ↓reduceIte, xA, xM, xL, xT, xE, xN, xP, xR, xS]
    exact retP_eq rfl
theorem f161 (l : List Rg) (hl : Fits l.length) (fv : AV) (g : Rg → Int) (hg : ∀ x ∈ l, DCall Tryz.prog Γ fv [rgA x] (int (g x))) : PCalls Tryz.prog Γ 161 [slR l, fv] (slI (l.map g)) := by
  refine pcalls (ok161 Γ) fun σ => ?_
  simp only [go_sem, xQ, ↓reduceIte, xA, xM, xL, xT, xE, xN, xP, xR, xS, Tryz.f161]
  refine SemC.loopK mixed l.length (fun k ρ σ' ds => Drop σ' σ ∧ ds = [] ∧ ρ 1 = fv ∧ ρ 8 = slR l ∧ ρ 9 = int l.length ∧ ρ 10 = int k ∧ Grow σ σ' 1 (ρ 5) (ints ((l.take k).map g)) k) (by kernel_rfl) ⟨.refl _, rfl, rfl, rfl, rfl, rfl, .nil _ _ _⟩ ?_
  rintro k ρ σ' ds hk ⟨hD, rfl, h1, h8, h9, h10, hG⟩
  rcases get_or_end l k hk with ⟨x, hx, hlt, hd⟩ | rfl
  · simp only [go_sem, xQ, ↓reduceIte, xA, xM, xL, xT, xE, xN, xP, xR, xS, h1, h8, h9, h10, hlt, hx, ↓rg_part hx]
    intro b hb
    simp only [go_sem, xQ, ↓reduceIte, xA, xM, xL, xT, xE, xN, xP, xR, xS, h1, h8, h9, h10, hlt, hx, ↓rg_part hx]
    refine callB_d (hg x (mem_of_get hx)) ?_
    simp only [go_sem, xQ, ↓reduceIte, xA, xM, xL, xT, xE, xN, xP, xR, xS]
    have hb0 : σ b = none := hD.free hb
    refine appB_sl (appT_sl el191 tk29 by29 el191 (by decide) rfl (by decide)) (hD.upd hb0) (hG.upd hb) rfl rfl (by omega) (fun a' σ2 hD2 hO hG2 => ?_)
    simp only [go_sem, xQ, ↓reduceIte, xA, xM, xL, xT, xE, xN, xP, xR, xS, h1, h8, h9, h10]
    refine ⟨hD2, by rw [wrap_succ _ (by omega)], ?_⟩
    rw [take_succ hx]
    simpa [ints, int] using hG2
  · simp only [go_sem, xQ, ↓reduceIte, xA, xM, xL, xT, xE, xN, xP, xR, xS, h8, h9, h10, Nat.lt_irrefl]
    have := hG.retP hD
    simpa [slI] using this
def rangedE (t : Tm) (sp : List Rg) : Int := firstE [checkTermE t t.coeffs.length, whenE (!decide ((sp.length : Int) = t.coeffs.length)) 2, firstE (sp.map spanE)]
def rangedP (t : Tm) (sp : List Rg) : Rg := if rangedE t sp = 0 then rangedR t sp else ⟨0, 0⟩
theorem f59 (t : Tm) (sp : List Rg) (hl : Fits t.coeffs.length) (hs : Fits sp.length) : PCalls Tryz.prog Γ 59 [tmA t, slR sp] (.tup [rgA (rangedP t sp), int (rangedE t sp)]) := by
  refine pcalls (ok59 Γ) fun σ => ?_
  simp only [go_sem, xQ, ↓reduceIte, xA, xM, xL, xT, xE, xN, xP, xR, xS, Tryz.f59]
  intro b4 hb4
  simp only [go_sem, xQ, ↓reduceIte, xA, xM, xL, xT, xE, xN, xP, xR, xS]
  refine dcallB_use (f160 t hl) rfl ?_
  simp only [go_sem, xQ, ↓reduceIte, xA, xM, xL, xT, xE, xN, xP, xR, xS]
  refine callB_use (f144 _ _) rfl ?_
  simp only [go_sem, xQ, ↓reduceIte, xA, xM, xL, xT, xE, xN, xP, xR, xS]
  refine callB_use (f161 sp hs _ spanE (fun r _ => dcall_of (f162 r) rfl)) rfl ?_
  simp only [go_sem, xQ, ↓reduceIte, xA, xM, xL, xT, xE, xN, xP, xR, xS]
  refine callB_use (f135 _ (by simpa using hs)) rfl ?_
  simp only [go_sem, xQ, ↓reduceIte, xA, xM, xL, xT, xE, xN, xP, xR, xS]
  refine callB_use (f135 [_, _, _] (by simp)) rfl ?_
  by_cases h : rangedE t sp = 0
  · have h' := h
    unfold rangedE at h'
    have hr : rangedP t sp = rangedR t sp := if_pos h
    have hsl := (whenE_zero (by decide)).1 ((firstE_zero _).1 h' (whenE (!decide ((sp.length : Int) = t.coeffs.length)) 2) (by simp))
    simp at hsl
    rw [hr, h]
    simp only [go_sem, xQ, ↓reduceIte, xA, xM, xL, xT, xE, xN, xP, xR, xS, h']
    intro b7 hb7
    obtain ⟨n7, hb7⟩ := un hb7
    have n7' : ¬ b4 = b7 := fun e => n7 e.symm
    simp only [go_sem, xQ, ↓reduceIte, xA, xM, xL, xT, xE, xN, xP, xR, xS, n7, n7']
    refine SemC.loopK mixed sp.length (fun k ρ σ' ds => (ds = [] ∧ ρ 1 = slR sp ∧ ρ 2 = .pp (tmC t) 0 ∧ ρ 4 = .v (.pointer (some ⟨b4, 0, none⟩)) ∧ ρ 7 = .v (.pointer (some ⟨b7, 0, none⟩)) ∧ ρ 34 = slR sp ∧ ρ 35 = int sp.length ∧ ρ 36 = int k ∧ σ' b4 = some (.row (rgC ⟨0, 0⟩) 2 1)) ∧ Drop σ' σ ∧ ∃ o, σ' b7 = some (.row (rgC o) 2 1) ∧ rangedR t sp = rangedF (t.coeffs.drop k) (sp.drop k) o) (by kernel_rfl)
      ⟨by simp only [go_sem, xQ, ↓reduceIte, xA, xM, xL, xT, xE, xN, xP, xR, xS, n7', rgC], by repeat (first | exact Drop.refl _ | assumption | refine Drop.upd ?_ (by assumption)), ⟨t.const, t.const⟩, by simp only [go_sem, xQ, ↓reduceIte, xA, xM, xL, xT, xE, xN, xP, xR, xS, rgC], rfl⟩ ?_
    rintro k ρ σ' ds hk ⟨⟨rfl, h1, h2, h4, h7, h34, h35, h36, hs4⟩, hD, o, hs7, hz⟩
    rcases get_or_end sp k hk with ⟨r, hr', hlt, hd⟩ | hk
    · rcases get_or_end t.coeffs k (by omega) with ⟨c, hc, hlts, hds⟩ | hk2
      · rw [hd, hds, rangedF] at hz
        simp only [go_sem, xQ, ↓reduceIte, xA, xM, xL, xT, xE, xN, xP, xR, xS, h1, h2, h4, h7, h34, h35, h36, hlt, hlts, hc, hs4, hs7, ↓rg_get0 hr', ↓rg_get1 hr', n7, n7']
        exact ⟨by rw [wrap_succ _ (by omega)], hD.upd hb7, _, rfl, hz⟩
      · omega
    · subst hk
      simp only [go_sem, xQ, ↓reduceIte, xA, xM, xL, xT, xE, xN, xP, xR, xS, h1, h2, h4, h7, h34, h35, h36, Nat.lt_irrefl, hs4, hs7, n7, n7']
      have ho : o = rangedR t sp := by rw [hz]; simp [rangedF]
      subst ho
      exact retP_drop (hD.upd hb4) rfl
  · have h' := h
    unfold rangedE at h'
    have hr : rangedP t sp = ⟨0, 0⟩ := if_neg h
    rw [hr]
    simp only [go_sem, xQ, ↓reduceIte, xA, xM, xL, xT, xE, xN, xP, xR, xS, h']
    exact retP_drop (by repeat (first | exact Drop.refl _ | assumption | refine Drop.upd ?_ (by assumption))) rfl
end Go.AL
