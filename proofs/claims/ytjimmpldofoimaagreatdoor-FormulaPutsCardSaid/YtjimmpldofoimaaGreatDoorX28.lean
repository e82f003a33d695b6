/- Put of the reference: each term of a formula is made of the terms put in. -/
import Derived.Test.YtjimmpldofoimaaGreatDoorLb
import Derived.Test.YtjimmpldofoimaaGreatDoorXk
open Nat renaming reduceEqDiff → xQ, reduceAdd → xA, reduceMul → xM, reduceLeDiff → xL
open Int renaming reduceLT → xT, reduceLE → xE, reduceToNat → xN
open Go.AL renaming retPost_one → xP, retPost_oneN → xR, ers_at' → xS
set_option linter.unusedVariables false
set_option linter.unusedSimpArgs false
namespace Go.AL
open Go.Proofs
variable {Γ : Glob}
attribute [local irreducible] codeW opsW dopsW
set_option maxHeartbeats 1000000 in
theorem f79o (t u : Tm) (m : Int) (hl : Fits t.coeffs.length) (hu : u.coeffs.length = t.coeffs.length) (bt ct : Nat) (σ : Sig) (hbt : σ bt = some (.row (ints t.coeffs) 1 ct)) : ACalls Tryz.prog Γ 79 [.agg [.own bt 1 0 t.coeffs.length, int t.const], tmA u, int m] σ fun r σ' => r = .tup [tmA (sumRT t u m), int (sumRE t u m)] ∧ σ' = σ := by
  refine pcallsAt (ok79z Γ) ?_
  simp only [go_sem, xQ, ↓reduceIte, xA, xM, xL, xT, xE, xN, xP, xR, xS, Tryz.f79]
  intro b2 hb2
  simp only [go_sem, xQ, ↓reduceIte, xA, xM, xL, xT, xE, xN, xP, xR, xS]
  intro bo hbo
  obtain ⟨hne, hbo⟩ := un hbo
  have hne' : ¬ b2 = bo := fun e => hne e.symm
  have ntbo := nn hbo hbt
  have ntb2 := nn hb2 hbt
  have ntbo' : ¬ bo = bt := fun e => ntbo e.symm
  have ntb2' : ¬ b2 = bt := fun e => ntb2 e.symm
  simp only [go_sem, xQ, ↓reduceIte, xA, xM, xL, xT, xE, xN, xP, xR, xS, hne, hne', ntb2, ntbo, hbt]
  refine SemC.loopK mixed t.coeffs.length (fun k ρ σ' ds => (ds = [] ∧ ρ 3 = .pp [.own bt 1 0 t.coeffs.length, int t.const] 0 ∧ ρ 4 = .pp (tmC u) 0 ∧ ρ 2 = int m ∧ ρ 6 = .v (.pointer (some ⟨b2, 0, none⟩)) ∧ ρ 7 = int 0 ∧ ρ 8 = .v (.pointer (some ⟨bo, 0, none⟩)) ∧ ρ 9 = int k ∧ σ' b2 = some (.row [.v (.slice none 0 0), int 0] 2 1) ∧ σ' bt = some (.row (ints t.coeffs) 1 ct)) ∧ Drop σ' σ ∧
    ∃ a, σ' bo = some (.row [a, int 0] 2 1) ∧ Grow σ σ' 1 a (ints ((plusT t u m).coeffs.take k)) k) (by kernel_rfl) ⟨by simp only [go_sem, xQ, ↓reduceIte, xA, xM, xL, xT, xE, xN, xP, xR, xS, hne, hne', ntb2, ntbo, ntb2', ntbo', hbt], by repeat (first | exact Drop.refl _ | assumption | refine Drop.upd ?_ (by assumption)), _, by simp only [go_sem, xQ, ↓reduceIte, xA, xM, xL, xT, xE, xN, xP, xR, xS], .nil _ _ _⟩ ?_
  rintro k ρ σ' ds hk ⟨⟨rfl, h3, h4, h2, h6, h7, h8, h9, hs2, hst⟩, hD, a, hso, hG⟩
  have hpl : (plusT t u m).coeffs.length = t.coeffs.length := plusC_len m t.coeffs u.coeffs
  rcases get_or_end t.coeffs k hk with ⟨x, hx, hlt, hd⟩ | hk
  · have hltu : k < u.coeffs.length := by omega
    obtain ⟨y, hy⟩ : ∃ y, u.coeffs[k]? = some y := ⟨u.coeffs[k], List.getElem?_eq_getElem _⟩
    simp only [go_sem, xQ, ↓reduceIte, xA, xM, xL, xT, xE, xN, xP, xR, xS, h3, h4, h2, h6, h7, h8, h9, hlt, hltu, hx, hy, hso, hst]
    refine appB_sl (appT_sl el46 tk3 by3 el46 (by decide) rfl (by decide)) hD hG rfl rfl (by omega) (fun a' σ2 hD2 hO hG2 => ?_)
    have e2 : σ2 b2 = some (.row [.v (.slice none 0 0), int 0] 2 1) := by
      rw [hO b2 (hG.neS hs2 (by decide)) (by simp [hs2]), hs2]
    have et : σ2 bt = some (.row (ints t.coeffs) 1 ct) := by
      rw [hO bt (hG.neB (by rw [hbt]; exact fun e => by cases e)) (by simp [hst]), hst]
    have eo : σ2 bo = some (.row [a, int 0] 2 1) := by
      rw [hO bo (hG.neS hso (by decide)) (by simp [hso]), hso]
    have hc2 := hG2.cellsX
    have ho2 := hG2.oneX
    simp only [go_sem, xQ, ↓reduceIte, xA, xM, xL, xT, xE, xN, xP, xR, xS, h3, h4, h2, h6, h7, h8, h9, e2, eo, et, hc2, ho2, hne', hlt, ntbo, ntb2]
    refine ⟨by rw [wrap_succ _ (by omega)], hD2.upd hbo, a', by simp only [go_sem, xQ, ↓reduceIte, xA, xM, xL, xT, xE, xN, xP, xR, xS, upd_same], ?_⟩
    have htk : (plusT t u m).coeffs.take (k + 1) = (plusT t u m).coeffs.take k ++ [IntKind.i64.wrap (x + IntKind.i64.wrap (m * y))] := plusC_take m _ _ k x y hx hy
    rw [htk]
    have := hG2.updW (hG2.neS eo (by decide)) (some (.row [a', int 0] 2 1))
    simpa [ints, int] using this
  · subst hk
    have ho := hG.oneX
    rw [← hpl, List.take_length] at hG
    simp only [go_sem, xQ, ↓reduceIte, xA, xM, xL, xT, xE, xN, xP, xR, xS, h3, h4, h2, h6, h7, h8, h9, Nat.lt_irrefl, hs2, hso, hne, hne', ho, hst, ntbo, ntb2]
    refine frzB_term (σ0 := σ) (y := int (plusT t u m).const) 8 bo (by simp only [go_sem, xQ, ↓reduceIte, xA, xM, xL, xT, xE, xN, xP, xR, xS, h8]) (by rw [upd_same]; rfl) (hG.updW (hG.neS hso (by decide)) _) (by decide) (hD.upd hbo) hbo (fun σ3 hD3 hO3 => ?_)
    have e3 : σ3 b2 = some (.row [.v (.slice none 0 0), int 0] 2 1) := by
      rw [hO3 b2 hne' (hG.neS hs2 (by decide)), upd_ne _ _ _ _ hne', hs2]
    simp only [go_sem, xQ, ↓reduceIte, xA, xM, xL, xT, xE, xN, xP, xR, xS, h3, h4, h2, h6, h7, h8, h9, e3]
    refine callB_fz (f172 (plusT t u m) (by rw [hpl]; exact hl)) (.cons (.refl _) .nil) ?_
    simp only [go_sem, xQ, ↓reduceIte, xA, xM, xL, xT, xE, xN, xP, xR, xS, h6, e3]
    by_cases h : inRangeB (plusT t u m) = true
    · simp only [go_sem, xQ, ↓reduceIte, xA, xM, xL, xT, xE, xN, xP, xR, xS, h, h6, h7, e3]
      rw [show sumRT t u m = plusT t u m from if_pos h, show sumRE t u m = 0 from if_pos h]
      exact retP_drop (by repeat (first | exact Drop.refl _ | assumption | refine Drop.upd ?_ (by assumption))) rfl
    · simp only [go_sem, xQ, ↓reduceIte, xA, xM, xL, xT, xE, xN, xP, xR, xS, h, h6, h7, e3]
      rw [show sumRT t u m = noT from if_neg h, show sumRE t u m = 4 from if_neg h]
      exact ⟨noT_fz, by repeat (first | exact Drop.refl _ | assumption | refine Drop.upd ?_ (by assumption))⟩
@[reducible] noncomputable def p56z (Γ : Glob) : Par := par Γ [4, 7, 9, 10, 12, 81] [(8, [false, false, false, false, false, false, false, false, false, false, false, false, false, true]), (10, [false, false, false, true, false, false, false, false, true]), (14, [false, false, false, false, false, false, false, false, false, false, false, false, false, false, false, true]), (1000019, [true])] [(8, [0, 1, 0, 7, 15, 31, 0, 0, 128, 0, 896, 1920, 3968, 8128, 16383, 0, 65535]), (10, [0, 1, 0, 4, 0, 28, 60, 124, 252, 511, 0, 2047]), (14, [0, 0, 0, 6, 14, 0, 32, 0, 224, 480, 992, 2016, 0, 8160, 16352, 32767, 65535, 131071, 131071, 0, 786431, 2097151])]
theorem ok56z (Γ : Glob) : FnOk (p56z Γ) 56 98 (Tryz.f56.body.getD .skip) Tryz.f56.results.toList 2 := fnOk (par_mixed _ _ _ _) Tryz.func56 rfl rfl rfl (by kernel_rfl) (Nat.le_of_ble_eq_true rfl) (by kernel_rfl)
def put56 (f : Fm) (terms : List Tm) : Fm × Int := match putNs terms (varsT terms) f.nodes [] with
  | some l => (⟨varsT terms, l⟩, 0)
  | none => (fm0, 4)
theorem range_large (t : Tm) : largeE t = if inRangeB t = true then 0 else 4 := by
  unfold largeE
  rw [numbers_eq]
  cases inRangeB t <;> simp [whenE]
set_option maxHeartbeats 2000000 in
set_option maxRecDepth 20000 in
theorem f56 (f : Fm) (terms : List Tm) (hl : f.nodes.length ≤ 200) (hc : ∀ n ∈ f.nodes, NdFit n) (hN : ∀ i n, f.nodes[i]? = some n → NodeOk n i f.vars) (htn : (terms.length : Int) = f.vars) (hv8 : f.vars ≤ 8) (htc : ∀ t ∈ terms, t.coeffs.length = varsT terms) (hv : varsT terms ≤ 8) : PCalls Tryz.prog Γ 56 [fmA f, slT terms] (.tup [fmA (put56 f terms).1, int (put56 f terms).2]) := by
  have hA8 : (8 : Int) * varsT terms ≤ 140737488355328 := by omega
  have hA9 : (varsT terms : Int) ≤ 9223372036854775807 := by omega
  refine pcalls (ok56z Γ) fun σ => ?_
  simp only [go_sem, xQ, ↓reduceIte, xA, xM, xL, xT, xE, xN, xP, xR, xS, Tryz.f56]
  intro b4 hb4
  by_cases ht0 : (0 : Int) < terms.length
  · obtain ⟨t0, htq, hvq⟩ : ∃ t0, terms[0]? = some t0 ∧ varsT terms = t0.coeffs.length := by
      cases terms with
      | nil => simp at ht0
      | cons t l => exact ⟨t, rfl, rfl⟩
    have hg0 := tm_get0 htq
    rw [Nat.zero_mul] at hg0
    simp only [go_sem, xQ, ↓reduceIte, xA, xM, xL, xT, xE, xN, xP, xR, xS, ht0, hg0]
    intro b7 hb7
    obtain ⟨n74, hb7⟩ := un hb7
    have n74' : ¬ b4 = b7 := fun e => n74 e.symm
    simp only [go_sem, xQ, ↓reduceIte, xA, xM, xL, xT, xE, xN, xP, xR, xS, n74, n74']
    refine SemC.loopK mixed f.nodes.length (fun k ρ σ' ds => ds = [] ∧ (ρ 1 = slT terms ∧ ρ 2 = .pp (fmC f) 0 ∧ ρ 4 = .v (.pointer (some ⟨b4, 0, none⟩)) ∧ ρ 5 = int 0 ∧ ρ 6 = int (varsT terms) ∧ ρ 7 = .v (.pointer (some ⟨b7, 0, none⟩))) ∧ ρ 8 = int k ∧ σ' b4 = some (.row [int 0, .v (.slice none 0 0)] 2 1) ∧ Drop σ' σ ∧
      ∃ acc, (putNs terms (varsT terms) f.nodes [] = putNs terms (varsT terms) (f.nodes.drop k) acc ∧ acc.length = k) ∧ ∃ a, σ' b7 = some (.row [int (varsT terms), a] 2 1) ∧ Grow σ σ' 4 a (acc.flatMap ndC) k) (by kernel_rfl) ⟨rfl, by simp only [go_sem, xQ, ↓reduceIte, xA, xM, xL, xT, xE, xN, xP, xR, xS, hvq], rfl, by simp only [go_sem, xQ, ↓reduceIte, xA, xM, xL, xT, xE, xN, xP, xR, xS, n74, n74'], by repeat (first | exact Drop.refl _ | assumption | refine Drop.upd ?_ (by assumption)), [], ⟨rfl, rfl⟩, _, by simp only [go_sem, xQ, ↓reduceIte, xA, xM, xL, xT, xE, xN, xP, xR, xS, hvq], .nil _ _ _⟩ ?_
    rintro k ρ σ' ds hkk ⟨rfl, H0, h8, hs4, hD, acc, ⟨hz, hacc⟩, a, hs7, hG⟩
    have n47 := n74
    have n47' := n74'
    rcases get_or_end f.nodes k hkk with ⟨x, hx, hlt, hd⟩ | hkk
    · have hok := hN k x hx
      obtain ⟨hx1, hx2⟩ := hc x (mem_of_get hx)
      have hki : k ≤ 1000 := by omega
      have hsz : shiftN 0 x = x := shift_zero hok hki
      have g0 : (f.nodes.flatMap ndC)[k * 4]? = some (int x.kind) := nd_get0 hx
      have g1 : (f.nodes.flatMap ndC)[k * 4 + 1]? = some (slI x.term.coeffs) := nd_get hx 1 (by decide)
      have g2 : (f.nodes.flatMap ndC)[k * 4 + 2]? = some (int x.term.const) := nd_get hx 2 (by decide)
      have g3 : (f.nodes.flatMap ndC)[k * 4 + 3]? = some (slI x.kids) := nd_get hx 3 (by decide)
      simp only [go_sem, xQ, ↓reduceIte, xA, xM, xL, xT, xE, xN, xP, xR, xS, H0, h8, hlt, g0, g3]
      refine ⟨slI x.kids, fun σ' _ K hK => appB_pure (appT_sl el46 tk3 by3 el46 (by decide) rfl (by decide)) (.inr rfl) (src_slI _ x.kids) (by simp [ints]) (by omega) hK, ?_⟩
      simp only [go_sem, xQ, ↓reduceIte, xA, xM, xL, xT, xE, xN, xP, xR, xS, H0, h8, hlt, g0, g1, g2, g3]
      intro b9 hb9
      have n94 := nn hb9 hs4
      have n97 := nn hb9 hs7
      have n94' : ¬ b9 = b4 := fun e => n94 e.symm
      have n97' : ¬ b9 = b7 := fun e => n97 e.symm
      have z9 : σ b9 = none := hD.free hb9
      have hne9 := hG.neN hb9
      by_cases hk : x.kind ≤ 1
      · have ht1 := (hok.term hk).2.1
        simp only [go_sem, xQ, ↓reduceIte, xA, xM, xL, xT, xE, xN, xP, xR, xS, H0, h8, hlt, g0, g1, g2, g3, n94, n97, n94', n97', hs4, hs7, hk, hA8, hA9, ints_zeros', upd_upd, putL]
        intro bs hbs
        obtain ⟨ns9, hbs⟩ := un hbs
        have ns4 := nn hbs hs4
        have ns7 := nn hbs hs7
        have ns9' : ¬ b9 = bs := fun e => ns9 e.symm
        have zs : σ bs = none := hD.free hbs
        have hnes := hG.neN hbs
        simp only [go_sem, xQ, ↓reduceIte, xA, xM, xL, xT, xE, xN, xP, xR, xS, H0, h8, hlt, g0, g1, g2, g3, n94, n97, n94', n97', hs4, hs7, hk, hA8, hA9, ints_zeros', ns9, ns9', ns4, ns7, upd_upd, putL]
        intro b10 hb10
        obtain ⟨n10s, hb10⟩ := un hb10
        obtain ⟨n109, hb10⟩ := un hb10
        have n410' := nn hb10 hs4
        have n710' := nn hb10 hs7
        have n910' : ¬ b9 = b10 := fun e => n109 e.symm
        have ns10' : ¬ bs = b10 := fun e => n10s e.symm
        have z10 : σ b10 = none := hD.free hb10
        have hne10 := hG.neN hb10
        simp only [go_sem, xQ, ↓reduceIte, xA, xM, xL, xT, xE, xN, xP, xR, xS, H0, h8, n94, n97, n94', n97', hs4, hs7, ns9, ns9', ns4, ns7, n10s, n109, n410', n710', n910', ns10', upd_upd, putL]
        refine SemC.loopK mixed terms.length (fun j ρ σ2 ds => ds = [] ∧ (ρ 1 = slT terms ∧ ρ 2 = .pp (fmC f) 0 ∧ ρ 4 = .v (.pointer (some ⟨b4, 0, none⟩)) ∧ ρ 5 = int 0 ∧ ρ 6 = int (varsT terms) ∧ ρ 7 = .v (.pointer (some ⟨b7, 0, none⟩)) ∧ ρ 8 = int k ∧ ρ 9 = .v (.pointer (some ⟨b9, 0, none⟩)) ∧ ρ 10 = .v (.pointer (some ⟨b10, 0, none⟩))) ∧ ρ 11 = int j ∧ (σ2 b4 = some (.row [int 0, .v (.slice none 0 0)] 2 1) ∧ σ2 b7 = some (.row [int (varsT terms), a] 2 1) ∧ σ2 b9 = some (.row [int x.kind, .v (.slice none 0 0), int 0, slI x.kids] 4 1) ∧ σ2 bs = some (.row (ints (List.replicate (varsT terms) 0)) 1 (varsT terms))) ∧ Drop σ2 σ ∧ Grow σ σ2 4 a (acc.flatMap ndC) k ∧
          ∃ t ca, t.coeffs.length = varsT terms ∧ putT terms x.term.coeffs 0 ⟨List.replicate (varsT terms) 0, x.term.const⟩ = putT terms (x.term.coeffs.drop j) j t ∧ (ca = slI t.coeffs ∨ (ca = .own bs 1 0 (varsT terms) ∧ t.coeffs = List.replicate (varsT terms) 0)) ∧ σ2 b10 = some (.row [ca, int t.const] 2 1)) (by kernel_rfl) ?_ ?_
        · refine ⟨rfl, by simp only [go_sem, xQ, ↓reduceIte, xA, xM, xL, xT, xE, xN, xP, xR, xS, H0, h8], rfl, ?_, ?_, ?_, ⟨List.replicate (varsT terms) 0, x.term.const⟩, .own bs 1 0 (varsT terms), List.length_replicate, rfl, .inr ⟨rfl, rfl⟩, ?_⟩
          · simp only [go_sem, xQ, ↓reduceIte, xA, xM, xL, xT, xE, xN, xP, xR, xS, n94, n97, n94', n97', hs4, hs7, ns9, ns9', ns4, ns7, n10s, n109, n410', n710', n910', ns10', slI, Int.toNat_natCast, ints_zeros']
          · repeat (first | exact hD | refine Drop.upd ?_ z10 | refine Drop.upd ?_ zs | refine Drop.upd ?_ z9)
          · repeat (first | exact hG | refine Grow.updW ?_ hne10 _ | refine Grow.updW ?_ hnes _ | refine Grow.updW ?_ hne9 _)
          · simp only [go_sem, xQ, ↓reduceIte, xA, xM, xL, xT, xE, xN, xP, xR, xS, upd_same, Int.toNat_natCast]
        rintro j ρ σ2 ds hj ⟨rfl, H, hj', ⟨hs4', hs7', hb9', hbs'⟩, hD2, hG2, t, ca, htl2, hz2, hca, hb10'⟩
        have htt : (terms.length : Int) = x.term.coeffs.length := by omega
        rcases get_or_end terms j hj with ⟨y, hy, hlt2, hdd⟩ | hjj
        · obtain ⟨c, hc0⟩ : ∃ c, x.term.coeffs[j]? = some c := ⟨_, List.getElem?_eq_getElem (by omega)⟩
          have hdj := drop_of_get hc0
          have hy' := lt_of_getElem? hc0
          have hyl := htc y (mem_of_get hy)
          rcases hca with rfl | ⟨rfl, htz⟩
          · simp only [go_sem, xQ, ↓reduceIte, xA, xM, xL, xT, xE, xN, xP, xR, xS, H, hb10', hbs', hs4', hs7', hlt2, ↓tm_part hy, hc0, hy', hj', g0, g1, g2, g3, hlt]
            refine ⟨.tup [tmA (sumRT t y c), int (sumRE t y c)], fun τ heτ K hK => callB_use (f79 t y c (by omega) (by omega)) rfl hK, ?_⟩
            simp only [go_sem, xQ, ↓reduceIte, xA, xM, xL, xT, xE, xN, xP, xR, xS, H]
            intro b12 hb12
            have m4 := nn hb12 hs4'
            have m7 := nn hb12 hs7'
            have m9 := nn hb12 hb9'
            have m10 := nn hb12 hb10'
            have ms := nn hb12 hbs'
            have m10' : ¬ b12 = b10 := fun e => m10 e.symm
            have m4' : ¬ b12 = b4 := fun e => m4 e.symm
            have z12 : σ b12 = none := hD2.free hb12
            have hne12 := hG2.neN hb12
            by_cases hR : inRangeB (plusT t y c) = true
            · have e1 : sumRE t y c = 0 := by rw [sumRE, if_pos hR]
              have e2 : sumRT t y c = plusT t y c := by rw [sumRT, if_pos hR]
              rw [e1, e2]
              rw [hdj, putT, hy] at hz2
              simp only [range_large, hR, if_true] at hz2
              simp only [go_sem, xQ, ↓reduceIte, xA, xM, xL, xT, xE, xN, xP, xR, xS, H, m4, m7, m9, m10, ms, m10', hb10', hlt2, hj', n410', n710', n910', ns10', hs4', hs7', hb9', hbs']
              refine ⟨by rw [wrap_succ _ (by omega)], by repeat (first | exact hD2 | refine Drop.upd ?_ z10 | refine Drop.upd ?_ z12), by repeat (first | exact hG2 | refine Grow.updW ?_ hne10 _ | refine Grow.updW ?_ hne12 _), plusT t y c, slI (plusT t y c).coeffs, by rw [plusT]; simp only [plusC_len]; exact htl2, hz2, .inl rfl, ?_⟩
              simp only [go_sem, xQ, ↓reduceIte, xA, xM, xL, xT, xE, xN, xP, xR, xS, upd_same, slI, int]
            · have e1 : sumRE t y c = 4 := by rw [sumRE, if_neg hR]
              rw [hdj, putT, hy] at hz2
              simp only [range_large, hR, if_false, show ((4 : Int) = 0) = False from eq_false (by decide)] at hz2
              rw [hd, putNs, putNd, if_pos hk, hz2] at hz
              rw [put56, hz, e1]
              have e40 : ((4 : Int) = 0) = False := eq_false (by decide)
              simp only [go_sem, xQ, ↓reduceIte, xA, xM, xL, xT, xE, xN, xP, xR, xS, H, m4, m4', e40, hs4', fm0]
              exact ⟨.tup (.cons (.agg (.cons (.refl _) (.cons .nil .nil))) (.cons (.refl _) .nil)), by repeat (first | exact Drop.refl _ | assumption | refine Drop.upd ?_ (by assumption))⟩
          · have hfo := fun (τ : Sig) (hτ : τ bs = some (.row (ints (List.replicate (varsT terms) 0)) 1 (varsT terms))) => f79o (Γ := Γ) t y c (by omega) (by omega) bs (varsT terms) τ (by rw [htz]; exact hτ)
            rw [htl2] at hfo
            simp only [go_sem, xQ, ↓reduceIte, xA, xM, xL, xT, xE, xN, xP, xR, xS, H, hb10', hbs', hs4', hs7', hlt2, ↓tm_part hy, hc0, hy', hj', g0, g1, g2, g3, hlt]
            refine ⟨.tup [tmA (sumRT t y c), int (sumRE t y c)], fun τ heτ K hK => callB_a (ACalls.mono (hfo τ (heτ bs _ hbs')) (fun r σ' ⟨hr, hs⟩ => by subst hr; subst hs; exact hK)) rfl, ?_⟩
            simp only [go_sem, xQ, ↓reduceIte, xA, xM, xL, xT, xE, xN, xP, xR, xS, H]
            intro b12 hb12
            have m4 := nn hb12 hs4'
            have m7 := nn hb12 hs7'
            have m9 := nn hb12 hb9'
            have m10 := nn hb12 hb10'
            have ms := nn hb12 hbs'
            have m10' : ¬ b12 = b10 := fun e => m10 e.symm
            have m4' : ¬ b12 = b4 := fun e => m4 e.symm
            have z12 : σ b12 = none := hD2.free hb12
            have hne12 := hG2.neN hb12
            by_cases hR : inRangeB (plusT t y c) = true
            · have e1 : sumRE t y c = 0 := by rw [sumRE, if_pos hR]
              have e2 : sumRT t y c = plusT t y c := by rw [sumRT, if_pos hR]
              rw [e1, e2]
              rw [hdj, putT, hy] at hz2
              simp only [range_large, hR, if_true] at hz2
              simp only [go_sem, xQ, ↓reduceIte, xA, xM, xL, xT, xE, xN, xP, xR, xS, H, m4, m7, m9, m10, ms, m10', hb10', hlt2, hj', n410', n710', n910', ns10', hs4', hs7', hb9', hbs']
              refine ⟨by rw [wrap_succ _ (by omega)], by repeat (first | exact hD2 | refine Drop.upd ?_ z10 | refine Drop.upd ?_ z12), by repeat (first | exact hG2 | refine Grow.updW ?_ hne10 _ | refine Grow.updW ?_ hne12 _), plusT t y c, slI (plusT t y c).coeffs, by rw [plusT]; simp only [plusC_len]; exact htl2, hz2, .inl rfl, ?_⟩
              simp only [go_sem, xQ, ↓reduceIte, xA, xM, xL, xT, xE, xN, xP, xR, xS, upd_same, slI, int]
            · have e1 : sumRE t y c = 4 := by rw [sumRE, if_neg hR]
              rw [hdj, putT, hy] at hz2
              simp only [range_large, hR, if_false, show ((4 : Int) = 0) = False from eq_false (by decide)] at hz2
              rw [hd, putNs, putNd, if_pos hk, hz2] at hz
              rw [put56, hz, e1]
              have e40 : ((4 : Int) = 0) = False := eq_false (by decide)
              simp only [go_sem, xQ, ↓reduceIte, xA, xM, xL, xT, xE, xN, xP, xR, xS, H, m4, m4', e40, hs4', fm0]
              exact ⟨.tup (.cons (.agg (.cons (.refl _) (.cons .nil .nil))) (.cons (.refl _) .nil)), by repeat (first | exact Drop.refl _ | assumption | refine Drop.upd ?_ (by assumption))⟩
        · subst hjj
          have hdr : x.term.coeffs.drop terms.length = [] := List.drop_eq_nil_of_le (by omega)
          rw [hdr, putT] at hz2
          have n7b : ¬ b7 = b9 := n97
          have hDz : Drop (upd σ2 b9 (some (.row [int x.kind, ca, int t.const, slI x.kids] 4 1))) (ers (ers (upd σ2 b9 (some (.row [int x.kind, ca, int t.const, slI x.kids] 4 1))) b9) bs) := Drop.trans (Drop.ers _ b9) (Drop.ers _ bs)
          have hD1 : Drop (ers (ers (upd σ2 b9 (some (.row [int x.kind, ca, int t.const, slI x.kids] 4 1))) b9) bs) σ := ((hD2.upd z9).ersX z9).ersX zs
          have hG1 : Grow σ (ers (ers (upd σ2 b9 (some (.row [int x.kind, ca, int t.const, slI x.kids] 4 1))) b9) bs) 4 a (acc.flatMap ndC) k := by
            rw [ers_upd, ers_upd]
            exact ((hG2.updW hne9 _).updW hne9 _).updW (hG2.neS hbs' (by decide)) _
          have hFc : Fz (upd σ2 b9 (some (.row [int x.kind, ca, int t.const, slI x.kids] 4 1))) (ers (ers (upd σ2 b9 (some (.row [int x.kind, ca, int t.const, slI x.kids] 4 1))) b9) bs) ca (slI t.coeffs) := by
            rcases hca with rfl | ⟨rfl, htz⟩
            · exact .refl _
            · rw [htz]
              have := frz_own (σ := upd σ2 b9 (some (.row [int x.kind, .own bs 1 0 (varsT terms), int t.const, slI x.kids] 4 1))) (σ' := ers (ers (upd σ2 b9 (some (.row [int x.kind, .own bs 1 0 (varsT terms), int t.const, slI x.kids] 4 1))) b9) bs) (n := varsT terms) (by rw [upd_ne _ _ _ _ (fun e => ns9 e)]; exact hbs') (by simp [ints]) (ers_same _ _)
              simpa [slI] using this
          have hone : ca.one = true := by rcases hca with h | ⟨h, _⟩ <;> rw [h] <;> rfl
          simp only [go_sem, xQ, ↓reduceIte, xA, xM, xL, xT, xE, xN, xP, xR, xS, H, hj', Nat.lt_irrefl, hb10', hb9', n910', n109, upd_upd, putL, hone]
          generalize hs1 : (ers (ers (upd σ2 b9 (some (.row [int x.kind, ca, int t.const, slI x.kids] 4 1))) b9) bs) = σ1 at hDz hD1 hG1 hFc
          have g4 : σ1 b4 = some (.row [int 0, .v (.slice none 0 0)] 2 1) := by rw [← hs1, ers_ne _ _ _ (fun e => ns4 e), ers_ne _ _ _ n94, upd_ne _ _ _ _ n94]; exact hs4'
          have g7 : σ1 b7 = some (.row [int (varsT terms), a] 2 1) := by rw [← hs1, ers_ne _ _ _ (fun e => ns7 e), ers_ne _ _ _ n97, upd_ne _ _ _ _ n97]; exact hs7'
          refine frzB_val 9 (σ' := σ1) (r := .pp (ndC ⟨x.kind, t, x.kids⟩) 0) ?_ ?_ ?_
          · first | exact hDz | (rw [upd_upd]; exact hDz)
          · simp only [go_sem, xQ, ↓reduceIte, xA, xM, xL, xT, xE, xN, xP, xR, xS, H]; exact .ptr (upd_same _ _ _) (by rw [← hs1, ers_ne _ _ _ ns9']; exact ers_same _ _) (.cons (.refl _) (.cons hFc (.cons (.refl _) (.cons (.refl _) .nil))))
          simp only [go_sem, xQ, ↓reduceIte, xA, xM, xL, xT, xE, xN, xP, xR, xS, H, g4, g7]
          refine appB_sl (appT_sl el58 tk138 by138 el58 (by decide) rfl (by decide)) hD1 hG1 rfl rfl (by omega) (fun a' σ3 hD3 hO3 hG3 => ?_)
          have w4 : σ3 b4 = some (.row [int 0, .v (.slice none 0 0)] 2 1) := by rw [hO3 b4 (hG1.neS g4 (by decide)) (by simp [g4]), g4]
          have w7 : σ3 b7 = some (.row [int (varsT terms), a] 2 1) := by rw [hO3 b7 (hG1.neS g7 (by decide)) (by simp [g7]), g7]
          have hc2 := hG3.cellsX
          have ho2 := hG3.oneX
          simp only [go_sem, xQ, ↓reduceIte, xA, xM, xL, xT, xE, xN, xP, xR, xS, H, w4, w7, hc2, ho2, n47, n47', hlt]
          rw [hd, putNs, putNd, if_pos hk, hz2, Option.map_some, hsz] at hz
          refine ⟨by rw [wrap_succ _ (by omega)], hD3.upd hb7, acc ++ [⟨x.kind, t, x.kids⟩], ⟨hz, by simp [hacc]⟩, a', by simp only [go_sem, xQ, ↓reduceIte, xA, xM, xL, xT, xE, xN, xP, xR, xS, upd_same], ?_⟩
          have := hG3.updW (hG3.neS w7 (by decide)) (some (.row [int (varsT terms), a'] 2 1))
          simpa [ndC, slI, int, ints] using this
      · have hterm := (hok.form (by omega)).1
        have H := And.intro h8 H0
        have hDz : Drop (upd σ' b9 (some (.row [int x.kind, .v (.slice none 0 0), int 0, slI x.kids] 4 1))) (ers (upd σ' b9 (some (.row [int x.kind, .v (.slice none 0 0), int 0, slI x.kids] 4 1))) b9) := Drop.ers _ b9
        have hD1 : Drop (ers (upd σ' b9 (some (.row [int x.kind, .v (.slice none 0 0), int 0, slI x.kids] 4 1))) b9) σ := (hD.upd z9).ersX z9
        have hG1 : Grow σ (ers (upd σ' b9 (some (.row [int x.kind, .v (.slice none 0 0), int 0, slI x.kids] 4 1))) b9) 4 a (acc.flatMap ndC) k := by
          rw [ers_upd]
          exact (hG.updW hne9 _).updW hne9 _
        simp only [go_sem, xQ, ↓reduceIte, xA, xM, xL, xT, xE, xN, xP, xR, xS, H0, h8, hlt, g0, g1, g2, g3, n94, n97, n94', n97', hs4, hs7, hk, upd_upd, putL]
        generalize hs1 : (ers (upd σ' b9 (some (.row [int x.kind, .v (.slice none 0 0), int 0, slI x.kids] 4 1))) b9) = σ1 at hDz hD1 hG1
        have hH : shiftN 0 x = ⟨x.kind, ⟨[], 0⟩, x.kids⟩ := by rw [hsz, ← hterm]
        have g4 : σ1 b4 = some (.row [int 0, .v (.slice none 0 0)] 2 1) := by rw [← hs1, ers_ne _ _ _ n94, upd_ne _ _ _ _ n94]; exact hs4
        have g7 : σ1 b7 = some (.row [int (varsT terms), a] 2 1) := by rw [← hs1, ers_ne _ _ _ n97, upd_ne _ _ _ _ n97]; exact hs7
        refine frzB_val 9 (σ' := σ1) (r := .pp (ndC ⟨x.kind, ⟨[], 0⟩, x.kids⟩) 0) ?_ ?_ ?_
        · first | exact hDz | (rw [upd_upd]; exact hDz)
        · simp only [go_sem, xQ, ↓reduceIte, xA, xM, xL, xT, xE, xN, xP, xR, xS, H]; exact .ptr (upd_same _ _ _) (by rw [← hs1]; exact ers_same _ _) (.cons (.refl _) (.cons .nil (.cons (.refl _) (.cons (.refl _) .nil))))
        simp only [go_sem, xQ, ↓reduceIte, xA, xM, xL, xT, xE, xN, xP, xR, xS, H, g4, g7]
        refine appB_sl (appT_sl el58 tk138 by138 el58 (by decide) rfl (by decide)) hD1 hG1 rfl rfl (by omega) (fun a' σ3 hD3 hO3 hG3 => ?_)
        have w4 : σ3 b4 = some (.row [int 0, .v (.slice none 0 0)] 2 1) := by rw [hO3 b4 (hG1.neS g4 (by decide)) (by simp [g4]), g4]
        have w7 : σ3 b7 = some (.row [int (varsT terms), a] 2 1) := by rw [hO3 b7 (hG1.neS g7 (by decide)) (by simp [g7]), g7]
        have hc2 := hG3.cellsX
        have ho2 := hG3.oneX
        simp only [go_sem, xQ, ↓reduceIte, xA, xM, xL, xT, xE, xN, xP, xR, xS, H, w4, w7, hc2, ho2, n47, n47', hlt]
        rw [hd, putNs, putNd, if_neg hk, hH] at hz
        refine ⟨by rw [wrap_succ _ (by omega)], hD3.upd hb7, acc ++ [⟨x.kind, ⟨[], 0⟩, x.kids⟩], ⟨hz, by simp [hacc]⟩, a', by simp only [go_sem, xQ, ↓reduceIte, xA, xM, xL, xT, xE, xN, xP, xR, xS, upd_same], ?_⟩
        have := hG3.updW (hG3.neS w7 (by decide)) (some (.row [int (varsT terms), a'] 2 1))
        simpa [ndC, slI, int, ints] using this
    · subst hkk
      rw [List.drop_length, putNs] at hz
      rw [put56, hz]
      have ho := hG.oneX
      simp only [go_sem, xQ, ↓reduceIte, xA, xM, xL, xT, xE, xN, xP, xR, xS, H0, h8, Nat.lt_irrefl, hs4, hs7, n74, n74', ho]
      have hG' := hG.updW (hG.neS hs4 (by decide)) (some (.row [int (varsT terms), a] 2 1))
      rw [hacc] at *
      exact ⟨.tup (.cons (.agg (.cons (.refl _) (.cons (hG'.retP (hD.upd hb4)).1 .nil))) (.cons (.refl _) .nil)), hD.upd hb4⟩
  · have hvq : varsT terms = 0 := by
      cases terms with
      | nil => rfl
      | cons t l => exact absurd (by simp) ht0
    simp only [go_sem, xQ, ↓reduceIte, xA, xM, xL, xT, xE, xN, xP, xR, xS, ht0]
    intro b7 hb7
    obtain ⟨n74, hb7⟩ := un hb7
    have n74' : ¬ b4 = b7 := fun e => n74 e.symm
    simp only [go_sem, xQ, ↓reduceIte, xA, xM, xL, xT, xE, xN, xP, xR, xS, n74, n74']
    refine SemC.loopK mixed f.nodes.length (fun k ρ σ' ds => ds = [] ∧ (ρ 1 = slT terms ∧ ρ 2 = .pp (fmC f) 0 ∧ ρ 4 = .v (.pointer (some ⟨b4, 0, none⟩)) ∧ ρ 5 = int 0 ∧ ρ 6 = int (varsT terms) ∧ ρ 7 = .v (.pointer (some ⟨b7, 0, none⟩))) ∧ ρ 8 = int k ∧ σ' b4 = some (.row [int 0, .v (.slice none 0 0)] 2 1) ∧ Drop σ' σ ∧
      ∃ acc, (putNs terms (varsT terms) f.nodes [] = putNs terms (varsT terms) (f.nodes.drop k) acc ∧ acc.length = k) ∧ ∃ a, σ' b7 = some (.row [int (varsT terms), a] 2 1) ∧ Grow σ σ' 4 a (acc.flatMap ndC) k) (by kernel_rfl) ⟨rfl, by simp only [go_sem, xQ, ↓reduceIte, xA, xM, xL, xT, xE, xN, xP, xR, xS, hvq], rfl, by simp only [go_sem, xQ, ↓reduceIte, xA, xM, xL, xT, xE, xN, xP, xR, xS, n74, n74'], by repeat (first | exact Drop.refl _ | assumption | refine Drop.upd ?_ (by assumption)), [], ⟨rfl, rfl⟩, _, by simp only [go_sem, xQ, ↓reduceIte, xA, xM, xL, xT, xE, xN, xP, xR, xS, hvq], .nil _ _ _⟩ ?_
    rintro k ρ σ' ds hkk ⟨rfl, H0, h8, hs4, hD, acc, ⟨hz, hacc⟩, a, hs7, hG⟩
    have n47 := n74
    have n47' := n74'
    rcases get_or_end f.nodes k hkk with ⟨x, hx, hlt, hd⟩ | hkk
    · have hok := hN k x hx
      obtain ⟨hx1, hx2⟩ := hc x (mem_of_get hx)
      have hki : k ≤ 1000 := by omega
      have hsz : shiftN 0 x = x := shift_zero hok hki
      have g0 : (f.nodes.flatMap ndC)[k * 4]? = some (int x.kind) := nd_get0 hx
      have g1 : (f.nodes.flatMap ndC)[k * 4 + 1]? = some (slI x.term.coeffs) := nd_get hx 1 (by decide)
      have g2 : (f.nodes.flatMap ndC)[k * 4 + 2]? = some (int x.term.const) := nd_get hx 2 (by decide)
      have g3 : (f.nodes.flatMap ndC)[k * 4 + 3]? = some (slI x.kids) := nd_get hx 3 (by decide)
      simp only [go_sem, xQ, ↓reduceIte, xA, xM, xL, xT, xE, xN, xP, xR, xS, H0, h8, hlt, g0, g3]
      refine ⟨slI x.kids, fun σ' _ K hK => appB_pure (appT_sl el46 tk3 by3 el46 (by decide) rfl (by decide)) (.inr rfl) (src_slI _ x.kids) (by simp [ints]) (by omega) hK, ?_⟩
      simp only [go_sem, xQ, ↓reduceIte, xA, xM, xL, xT, xE, xN, xP, xR, xS, H0, h8, hlt, g0, g1, g2, g3]
      intro b9 hb9
      have n94 := nn hb9 hs4
      have n97 := nn hb9 hs7
      have n94' : ¬ b9 = b4 := fun e => n94 e.symm
      have n97' : ¬ b9 = b7 := fun e => n97 e.symm
      have z9 : σ b9 = none := hD.free hb9
      have hne9 := hG.neN hb9
      by_cases hk : x.kind ≤ 1
      · have ht1 := (hok.term hk).2.1
        simp only [go_sem, xQ, ↓reduceIte, xA, xM, xL, xT, xE, xN, xP, xR, xS, H0, h8, hlt, g0, g1, g2, g3, n94, n97, n94', n97', hs4, hs7, hk, hA8, hA9, ints_zeros', upd_upd, putL]
        intro bs hbs
        obtain ⟨ns9, hbs⟩ := un hbs
        have ns4 := nn hbs hs4
        have ns7 := nn hbs hs7
        have ns9' : ¬ b9 = bs := fun e => ns9 e.symm
        have zs : σ bs = none := hD.free hbs
        have hnes := hG.neN hbs
        simp only [go_sem, xQ, ↓reduceIte, xA, xM, xL, xT, xE, xN, xP, xR, xS, H0, h8, hlt, g0, g1, g2, g3, n94, n97, n94', n97', hs4, hs7, hk, hA8, hA9, ints_zeros', ns9, ns9', ns4, ns7, upd_upd, putL]
        intro b10 hb10
        obtain ⟨n10s, hb10⟩ := un hb10
        obtain ⟨n109, hb10⟩ := un hb10
        have n410' := nn hb10 hs4
        have n710' := nn hb10 hs7
        have n910' : ¬ b9 = b10 := fun e => n109 e.symm
        have ns10' : ¬ bs = b10 := fun e => n10s e.symm
        have z10 : σ b10 = none := hD.free hb10
        have hne10 := hG.neN hb10
        simp only [go_sem, xQ, ↓reduceIte, xA, xM, xL, xT, xE, xN, xP, xR, xS, H0, h8, n94, n97, n94', n97', hs4, hs7, ns9, ns9', ns4, ns7, n10s, n109, n410', n710', n910', ns10', upd_upd, putL]
        refine SemC.loopK mixed terms.length (fun j ρ σ2 ds => ds = [] ∧ (ρ 1 = slT terms ∧ ρ 2 = .pp (fmC f) 0 ∧ ρ 4 = .v (.pointer (some ⟨b4, 0, none⟩)) ∧ ρ 5 = int 0 ∧ ρ 6 = int (varsT terms) ∧ ρ 7 = .v (.pointer (some ⟨b7, 0, none⟩)) ∧ ρ 8 = int k ∧ ρ 9 = .v (.pointer (some ⟨b9, 0, none⟩)) ∧ ρ 10 = .v (.pointer (some ⟨b10, 0, none⟩))) ∧ ρ 11 = int j ∧ (σ2 b4 = some (.row [int 0, .v (.slice none 0 0)] 2 1) ∧ σ2 b7 = some (.row [int (varsT terms), a] 2 1) ∧ σ2 b9 = some (.row [int x.kind, .v (.slice none 0 0), int 0, slI x.kids] 4 1) ∧ σ2 bs = some (.row (ints (List.replicate (varsT terms) 0)) 1 (varsT terms))) ∧ Drop σ2 σ ∧ Grow σ σ2 4 a (acc.flatMap ndC) k ∧
          ∃ t ca, t.coeffs.length = varsT terms ∧ putT terms x.term.coeffs 0 ⟨List.replicate (varsT terms) 0, x.term.const⟩ = putT terms (x.term.coeffs.drop j) j t ∧ (ca = slI t.coeffs ∨ (ca = .own bs 1 0 (varsT terms) ∧ t.coeffs = List.replicate (varsT terms) 0)) ∧ σ2 b10 = some (.row [ca, int t.const] 2 1)) (by kernel_rfl) ?_ ?_
        · refine ⟨rfl, by simp only [go_sem, xQ, ↓reduceIte, xA, xM, xL, xT, xE, xN, xP, xR, xS, H0, h8], rfl, ?_, ?_, ?_, ⟨List.replicate (varsT terms) 0, x.term.const⟩, .own bs 1 0 (varsT terms), List.length_replicate, rfl, .inr ⟨rfl, rfl⟩, ?_⟩
          · simp only [go_sem, xQ, ↓reduceIte, xA, xM, xL, xT, xE, xN, xP, xR, xS, n94, n97, n94', n97', hs4, hs7, ns9, ns9', ns4, ns7, n10s, n109, n410', n710', n910', ns10', slI, Int.toNat_natCast, ints_zeros']
          · repeat (first | exact hD | refine Drop.upd ?_ z10 | refine Drop.upd ?_ zs | refine Drop.upd ?_ z9)
          · repeat (first | exact hG | refine Grow.updW ?_ hne10 _ | refine Grow.updW ?_ hnes _ | refine Grow.updW ?_ hne9 _)
          · simp only [go_sem, xQ, ↓reduceIte, xA, xM, xL, xT, xE, xN, xP, xR, xS, upd_same, Int.toNat_natCast]
        rintro j ρ σ2 ds hj ⟨rfl, H, hj', ⟨hs4', hs7', hb9', hbs'⟩, hD2, hG2, t, ca, htl2, hz2, hca, hb10'⟩
        have htt : (terms.length : Int) = x.term.coeffs.length := by omega
        rcases get_or_end terms j hj with ⟨y, hy, hlt2, hdd⟩ | hjj
        · obtain ⟨c, hc0⟩ : ∃ c, x.term.coeffs[j]? = some c := ⟨_, List.getElem?_eq_getElem (by omega)⟩
          have hdj := drop_of_get hc0
          have hy' := lt_of_getElem? hc0
          have hyl := htc y (mem_of_get hy)
          rcases hca with rfl | ⟨rfl, htz⟩
          · simp only [go_sem, xQ, ↓reduceIte, xA, xM, xL, xT, xE, xN, xP, xR, xS, H, hb10', hbs', hs4', hs7', hlt2, ↓tm_part hy, hc0, hy', hj', g0, g1, g2, g3, hlt]
            refine ⟨.tup [tmA (sumRT t y c), int (sumRE t y c)], fun τ heτ K hK => callB_use (f79 t y c (by omega) (by omega)) rfl hK, ?_⟩
            simp only [go_sem, xQ, ↓reduceIte, xA, xM, xL, xT, xE, xN, xP, xR, xS, H]
            intro b12 hb12
            have m4 := nn hb12 hs4'
            have m7 := nn hb12 hs7'
            have m9 := nn hb12 hb9'
            have m10 := nn hb12 hb10'
            have ms := nn hb12 hbs'
            have m10' : ¬ b12 = b10 := fun e => m10 e.symm
            have m4' : ¬ b12 = b4 := fun e => m4 e.symm
            have z12 : σ b12 = none := hD2.free hb12
            have hne12 := hG2.neN hb12
            by_cases hR : inRangeB (plusT t y c) = true
            · have e1 : sumRE t y c = 0 := by rw [sumRE, if_pos hR]
              have e2 : sumRT t y c = plusT t y c := by rw [sumRT, if_pos hR]
              rw [e1, e2]
              rw [hdj, putT, hy] at hz2
              simp only [range_large, hR, if_true] at hz2
              simp only [go_sem, xQ, ↓reduceIte, xA, xM, xL, xT, xE, xN, xP, xR, xS, H, m4, m7, m9, m10, ms, m10', hb10', hlt2, hj', n410', n710', n910', ns10', hs4', hs7', hb9', hbs']
              refine ⟨by rw [wrap_succ _ (by omega)], by repeat (first | exact hD2 | refine Drop.upd ?_ z10 | refine Drop.upd ?_ z12), by repeat (first | exact hG2 | refine Grow.updW ?_ hne10 _ | refine Grow.updW ?_ hne12 _), plusT t y c, slI (plusT t y c).coeffs, by rw [plusT]; simp only [plusC_len]; exact htl2, hz2, .inl rfl, ?_⟩
              simp only [go_sem, xQ, ↓reduceIte, xA, xM, xL, xT, xE, xN, xP, xR, xS, upd_same, slI, int]
            · have e1 : sumRE t y c = 4 := by rw [sumRE, if_neg hR]
              rw [hdj, putT, hy] at hz2
              simp only [range_large, hR, if_false, show ((4 : Int) = 0) = False from eq_false (by decide)] at hz2
              rw [hd, putNs, putNd, if_pos hk, hz2] at hz
              rw [put56, hz, e1]
              have e40 : ((4 : Int) = 0) = False := eq_false (by decide)
              simp only [go_sem, xQ, ↓reduceIte, xA, xM, xL, xT, xE, xN, xP, xR, xS, H, m4, m4', e40, hs4', fm0]
              exact ⟨.tup (.cons (.agg (.cons (.refl _) (.cons .nil .nil))) (.cons (.refl _) .nil)), by repeat (first | exact Drop.refl _ | assumption | refine Drop.upd ?_ (by assumption))⟩
          · have hfo := fun (τ : Sig) (hτ : τ bs = some (.row (ints (List.replicate (varsT terms) 0)) 1 (varsT terms))) => f79o (Γ := Γ) t y c (by omega) (by omega) bs (varsT terms) τ (by rw [htz]; exact hτ)
            rw [htl2] at hfo
            simp only [go_sem, xQ, ↓reduceIte, xA, xM, xL, xT, xE, xN, xP, xR, xS, H, hb10', hbs', hs4', hs7', hlt2, ↓tm_part hy, hc0, hy', hj', g0, g1, g2, g3, hlt]
            refine ⟨.tup [tmA (sumRT t y c), int (sumRE t y c)], fun τ heτ K hK => callB_a (ACalls.mono (hfo τ (heτ bs _ hbs')) (fun r σ' ⟨hr, hs⟩ => by subst hr; subst hs; exact hK)) rfl, ?_⟩
            simp only [go_sem, xQ, ↓reduceIte, xA, xM, xL, xT, xE, xN, xP, xR, xS, H]
            intro b12 hb12
            have m4 := nn hb12 hs4'
            have m7 := nn hb12 hs7'
            have m9 := nn hb12 hb9'
            have m10 := nn hb12 hb10'
            have ms := nn hb12 hbs'
            have m10' : ¬ b12 = b10 := fun e => m10 e.symm
            have m4' : ¬ b12 = b4 := fun e => m4 e.symm
            have z12 : σ b12 = none := hD2.free hb12
            have hne12 := hG2.neN hb12
            by_cases hR : inRangeB (plusT t y c) = true
            · have e1 : sumRE t y c = 0 := by rw [sumRE, if_pos hR]
              have e2 : sumRT t y c = plusT t y c := by rw [sumRT, if_pos hR]
              rw [e1, e2]
              rw [hdj, putT, hy] at hz2
              simp only [range_large, hR, if_true] at hz2
              simp only [go_sem, xQ, ↓reduceIte, xA, xM, xL, xT, xE, xN, xP, xR, xS, H, m4, m7, m9, m10, ms, m10', hb10', hlt2, hj', n410', n710', n910', ns10', hs4', hs7', hb9', hbs']
              refine ⟨by rw [wrap_succ _ (by omega)], by repeat (first | exact hD2 | refine Drop.upd ?_ z10 | refine Drop.upd ?_ z12), by repeat (first | exact hG2 | refine Grow.updW ?_ hne10 _ | refine Grow.updW ?_ hne12 _), plusT t y c, slI (plusT t y c).coeffs, by rw [plusT]; simp only [plusC_len]; exact htl2, hz2, .inl rfl, ?_⟩
              simp only [go_sem, xQ, ↓reduceIte, xA, xM, xL, xT, xE, xN, xP, xR, xS, upd_same, slI, int]
            · have e1 : sumRE t y c = 4 := by rw [sumRE, if_neg hR]
              rw [hdj, putT, hy] at hz2
              simp only [range_large, hR, if_false, show ((4 : Int) = 0) = False from eq_false (by decide)] at hz2
              rw [hd, putNs, putNd, if_pos hk, hz2] at hz
              rw [put56, hz, e1]
              have e40 : ((4 : Int) = 0) = False := eq_false (by decide)
              simp only [go_sem, xQ, ↓reduceIte, xA, xM, xL, xT, xE, xN, xP, xR, xS, H, m4, m4', e40, hs4', fm0]
              exact ⟨.tup (.cons (.agg (.cons (.refl _) (.cons .nil .nil))) (.cons (.refl _) .nil)), by repeat (first | exact Drop.refl _ | assumption | refine Drop.upd ?_ (by assumption))⟩
        · subst hjj
          have hdr : x.term.coeffs.drop terms.length = [] := List.drop_eq_nil_of_le (by omega)
          rw [hdr, putT] at hz2
          have n7b : ¬ b7 = b9 := n97
          have hDz : Drop (upd σ2 b9 (some (.row [int x.kind, ca, int t.const, slI x.kids] 4 1))) (ers (ers (upd σ2 b9 (some (.row [int x.kind, ca, int t.const, slI x.kids] 4 1))) b9) bs) := Drop.trans (Drop.ers _ b9) (Drop.ers _ bs)
          have hD1 : Drop (ers (ers (upd σ2 b9 (some (.row [int x.kind, ca, int t.const, slI x.kids] 4 1))) b9) bs) σ := ((hD2.upd z9).ersX z9).ersX zs
          have hG1 : Grow σ (ers (ers (upd σ2 b9 (some (.row [int x.kind, ca, int t.const, slI x.kids] 4 1))) b9) bs) 4 a (acc.flatMap ndC) k := by
            rw [ers_upd, ers_upd]
            exact ((hG2.updW hne9 _).updW hne9 _).updW (hG2.neS hbs' (by decide)) _
          have hFc : Fz (upd σ2 b9 (some (.row [int x.kind, ca, int t.const, slI x.kids] 4 1))) (ers (ers (upd σ2 b9 (some (.row [int x.kind, ca, int t.const, slI x.kids] 4 1))) b9) bs) ca (slI t.coeffs) := by
            rcases hca with rfl | ⟨rfl, htz⟩
            · exact .refl _
            · rw [htz]
              have := frz_own (σ := upd σ2 b9 (some (.row [int x.kind, .own bs 1 0 (varsT terms), int t.const, slI x.kids] 4 1))) (σ' := ers (ers (upd σ2 b9 (some (.row [int x.kind, .own bs 1 0 (varsT terms), int t.const, slI x.kids] 4 1))) b9) bs) (n := varsT terms) (by rw [upd_ne _ _ _ _ (fun e => ns9 e)]; exact hbs') (by simp [ints]) (ers_same _ _)
              simpa [slI] using this
          have hone : ca.one = true := by rcases hca with h | ⟨h, _⟩ <;> rw [h] <;> rfl
          simp only [go_sem, xQ, ↓reduceIte, xA, xM, xL, xT, xE, xN, xP, xR, xS, H, hj', Nat.lt_irrefl, hb10', hb9', n910', n109, upd_upd, putL, hone]
          generalize hs1 : (ers (ers (upd σ2 b9 (some (.row [int x.kind, ca, int t.const, slI x.kids] 4 1))) b9) bs) = σ1 at hDz hD1 hG1 hFc
          have g4 : σ1 b4 = some (.row [int 0, .v (.slice none 0 0)] 2 1) := by rw [← hs1, ers_ne _ _ _ (fun e => ns4 e), ers_ne _ _ _ n94, upd_ne _ _ _ _ n94]; exact hs4'
          have g7 : σ1 b7 = some (.row [int (varsT terms), a] 2 1) := by rw [← hs1, ers_ne _ _ _ (fun e => ns7 e), ers_ne _ _ _ n97, upd_ne _ _ _ _ n97]; exact hs7'
          refine frzB_val 9 (σ' := σ1) (r := .pp (ndC ⟨x.kind, t, x.kids⟩) 0) ?_ ?_ ?_
          · first | exact hDz | (rw [upd_upd]; exact hDz)
          · simp only [go_sem, xQ, ↓reduceIte, xA, xM, xL, xT, xE, xN, xP, xR, xS, H]; exact .ptr (upd_same _ _ _) (by rw [← hs1, ers_ne _ _ _ ns9']; exact ers_same _ _) (.cons (.refl _) (.cons hFc (.cons (.refl _) (.cons (.refl _) .nil))))
          simp only [go_sem, xQ, ↓reduceIte, xA, xM, xL, xT, xE, xN, xP, xR, xS, H, g4, g7]
          refine appB_sl (appT_sl el58 tk138 by138 el58 (by decide) rfl (by decide)) hD1 hG1 rfl rfl (by omega) (fun a' σ3 hD3 hO3 hG3 => ?_)
          have w4 : σ3 b4 = some (.row [int 0, .v (.slice none 0 0)] 2 1) := by rw [hO3 b4 (hG1.neS g4 (by decide)) (by simp [g4]), g4]
          have w7 : σ3 b7 = some (.row [int (varsT terms), a] 2 1) := by rw [hO3 b7 (hG1.neS g7 (by decide)) (by simp [g7]), g7]
          have hc2 := hG3.cellsX
          have ho2 := hG3.oneX
          simp only [go_sem, xQ, ↓reduceIte, xA, xM, xL, xT, xE, xN, xP, xR, xS, H, w4, w7, hc2, ho2, n47, n47', hlt]
          rw [hd, putNs, putNd, if_pos hk, hz2, Option.map_some, hsz] at hz
          refine ⟨by rw [wrap_succ _ (by omega)], hD3.upd hb7, acc ++ [⟨x.kind, t, x.kids⟩], ⟨hz, by simp [hacc]⟩, a', by simp only [go_sem, xQ, ↓reduceIte, xA, xM, xL, xT, xE, xN, xP, xR, xS, upd_same], ?_⟩
          have := hG3.updW (hG3.neS w7 (by decide)) (some (.row [int (varsT terms), a'] 2 1))
          simpa [ndC, slI, int, ints] using this
      · have hterm := (hok.form (by omega)).1
        have H := And.intro h8 H0
        have hDz : Drop (upd σ' b9 (some (.row [int x.kind, .v (.slice none 0 0), int 0, slI x.kids] 4 1))) (ers (upd σ' b9 (some (.row [int x.kind, .v (.slice none 0 0), int 0, slI x.kids] 4 1))) b9) := Drop.ers _ b9
        have hD1 : Drop (ers (upd σ' b9 (some (.row [int x.kind, .v (.slice none 0 0), int 0, slI x.kids] 4 1))) b9) σ := (hD.upd z9).ersX z9
        have hG1 : Grow σ (ers (upd σ' b9 (some (.row [int x.kind, .v (.slice none 0 0), int 0, slI x.kids] 4 1))) b9) 4 a (acc.flatMap ndC) k := by
          rw [ers_upd]
          exact (hG.updW hne9 _).updW hne9 _
        simp only [go_sem, xQ, ↓reduceIte, xA, xM, xL, xT, xE, xN, xP, xR, xS, H0, h8, hlt, g0, g1, g2, g3, n94, n97, n94', n97', hs4, hs7, hk, upd_upd, putL]
        generalize hs1 : (ers (upd σ' b9 (some (.row [int x.kind, .v (.slice none 0 0), int 0, slI x.kids] 4 1))) b9) = σ1 at hDz hD1 hG1
        have hH : shiftN 0 x = ⟨x.kind, ⟨[], 0⟩, x.kids⟩ := by rw [hsz, ← hterm]
        have g4 : σ1 b4 = some (.row [int 0, .v (.slice none 0 0)] 2 1) := by rw [← hs1, ers_ne _ _ _ n94, upd_ne _ _ _ _ n94]; exact hs4
        have g7 : σ1 b7 = some (.row [int (varsT terms), a] 2 1) := by rw [← hs1, ers_ne _ _ _ n97, upd_ne _ _ _ _ n97]; exact hs7
        refine frzB_val 9 (σ' := σ1) (r := .pp (ndC ⟨x.kind, ⟨[], 0⟩, x.kids⟩) 0) ?_ ?_ ?_
        · first | exact hDz | (rw [upd_upd]; exact hDz)
        · simp only [go_sem, xQ, ↓reduceIte, xA, xM, xL, xT, xE, xN, xP, xR, xS, H]; exact .ptr (upd_same _ _ _) (by rw [← hs1]; exact ers_same _ _) (.cons (.refl _) (.cons .nil (.cons (.refl _) (.cons (.refl _) .nil))))
        simp only [go_sem, xQ, ↓reduceIte, xA, xM, xL, xT, xE, xN, xP, xR, xS, H, g4, g7]
        refine appB_sl (appT_sl el58 tk138 by138 el58 (by decide) rfl (by decide)) hD1 hG1 rfl rfl (by omega) (fun a' σ3 hD3 hO3 hG3 => ?_)
        have w4 : σ3 b4 = some (.row [int 0, .v (.slice none 0 0)] 2 1) := by rw [hO3 b4 (hG1.neS g4 (by decide)) (by simp [g4]), g4]
        have w7 : σ3 b7 = some (.row [int (varsT terms), a] 2 1) := by rw [hO3 b7 (hG1.neS g7 (by decide)) (by simp [g7]), g7]
        have hc2 := hG3.cellsX
        have ho2 := hG3.oneX
        simp only [go_sem, xQ, ↓reduceIte, xA, xM, xL, xT, xE, xN, xP, xR, xS, H, w4, w7, hc2, ho2, n47, n47', hlt]
        rw [hd, putNs, putNd, if_neg hk, hH] at hz
        refine ⟨by rw [wrap_succ _ (by omega)], hD3.upd hb7, acc ++ [⟨x.kind, ⟨[], 0⟩, x.kids⟩], ⟨hz, by simp [hacc]⟩, a', by simp only [go_sem, xQ, ↓reduceIte, xA, xM, xL, xT, xE, xN, xP, xR, xS, upd_same], ?_⟩
        have := hG3.updW (hG3.neS w7 (by decide)) (some (.row [int (varsT terms), a'] 2 1))
        simpa [ndC, slI, int, ints] using this
    · subst hkk
      rw [List.drop_length, putNs] at hz
      rw [put56, hz]
      have ho := hG.oneX
      simp only [go_sem, xQ, ↓reduceIte, xA, xM, xL, xT, xE, xN, xP, xR, xS, H0, h8, Nat.lt_irrefl, hs4, hs7, n74, n74', ho]
      have hG' := hG.updW (hG.neS hs4 (by decide)) (some (.row [int (varsT terms), a] 2 1))
      rw [hacc] at *
      exact ⟨.tup (.cons (.agg (.cons (.refl _) (.cons (hG'.retP (hD.upd hb4)).1 .nil))) (.cons (.refl _) .nil)), hD.upd hb4⟩
end Go.AL
