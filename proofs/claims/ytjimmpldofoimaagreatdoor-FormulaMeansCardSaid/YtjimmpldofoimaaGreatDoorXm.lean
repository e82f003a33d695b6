/- Small and used of the reference. -/
import Derived.Test.YtjimmpldofoimaaGreatDoorLb
import Derived.Test.YtjimmpldofoimaaGreatDoorXj
open Nat renaming reduceEqDiff → xQ, reduceAdd → xA, reduceMul → xM, reduceLeDiff → xL
open Int renaming reduceLT → xT, reduceLE → xE, reduceToNat → xN
open Go.AL renaming retPost_one → xP, retPost_oneN → xR, ers_at' → xS
set_option linter.unusedVariables false
set_option linter.unusedSimpArgs false
namespace Go.AL
open Go.Proofs
@[reducible] noncomputable def p48 (Γ : Glob) : Par := par Γ [] [] []
theorem ok48 (Γ : Glob) : FnOk (p48 Γ) 48 51 (Tryz.f48.body.getD .skip) Tryz.f48.results.toList 1 := fnOk (par_mixed _ _ _ _) Tryz.func48 rfl rfl rfl (by kernel_rfl) (Nat.le_of_ble_eq_true rfl) (by kernel_rfl)
@[reducible] noncomputable def p153 (Γ : Glob) : Par := par Γ [6] [(1, [false, false, false, false, false, true])] [(1, [0, 1, 3, 7, 0, 16, 48, 112, 15, 511]), (11, [0, 0, 2, 0, 14, 30, 0, 0, 128, 0, 896, 1920, 4032, 8128, 16320, 32704, 32704, 131008, 262080, 524224, 1048575, 2097151]), (12, [0, 0, 2, 0, 14, 30, 0, 0, 128, 0, 896, 1920, 4032, 8128, 16320, 32704, 32704, 131008, 262080, 524224, 1048575, 2097151]), (13, [0, 0, 2, 0, 14, 30, 0, 0, 128, 0, 896, 1920, 4032, 8128, 16320, 32704, 32704, 131008, 262080, 524224, 1048575, 2097151]), (14, [0, 0, 2, 0, 14, 30, 0, 0, 128, 0, 896, 1920, 4032, 8128, 16320, 32704, 32704, 131008, 262080, 524224, 1048575, 2097151])]
theorem ok153 (Γ : Glob) : FnOk (p153 Γ) 153 157 (Tryz.f153.body.getD .skip) Tryz.f153.results.toList 1 := fnOk (par_mixed _ _ _ _) Tryz.func153 rfl rfl rfl (by kernel_rfl) (Nat.le_of_ble_eq_true rfl) (by kernel_rfl)
variable {Γ : Glob}
attribute [local irreducible] codeW opsW dopsW
def mn3 (x : Int) : Int := if x < 3000 then x else 3000
def stepZ (acc : List Int) : List Int → Int → Int
  | [], s => s
  | k :: ks, s => stepZ acc ks (mn3 (IntKind.i64.wrap (s + (acc[k.toNat]?).getD 0)))
def sizF : List Nd → List Int → List Int
  | [], acc => acc
  | n :: l, acc => sizF l (acc ++ [stepZ acc n.kids 1])
def smallB (f : Fm) : Bool := decide ((sizF f.nodes []).getLastD 0 ≤ 2000)
set_option maxHeartbeats 1000000 in
theorem f48 (f : Fm) (hl : f.nodes.length ≤ 1000000) (hne : f.nodes ≠ []) (hN : ∀ i n, f.nodes[i]? = some n → NodeOk n i f.vars) : PCalls Tryz.prog Γ 48 [fmA f] (.v (.bool (smallB f))) := by
  refine pcalls (ok48 Γ) fun σ => ?_
  simp only [go_sem, xQ, ↓reduceIte, xA, xM, xL, xT, xE, xN, xP, xR, xS, Tryz.f48]
  refine SemC.loopK mixed f.nodes.length (fun k ρ σ' ds => (ds = [] ∧ ρ 1 = .pp (fmC f) 0 ∧ ρ 4 = int k) ∧ Drop σ' σ ∧ ∃ acc : List Int, acc.length = k ∧ sizF f.nodes [] = sizF (f.nodes.drop k) acc ∧ Grow σ σ' 1 (ρ 3) (ints acc) k) (by kernel_rfl) ⟨by simp only [go_sem, xQ, ↓reduceIte, xA, xM, xL, xT, xE, xN, xP, xR, xS], Drop.refl _, [], rfl, rfl, .nil _ _ _⟩ ?_
  rintro k ρ σ' ds hk ⟨⟨rfl, h1, h4⟩, hD, acc, hal, hz, hG⟩
  rcases get_or_end f.nodes k hk with ⟨x, hx, hlt, hd⟩ | hk
  · have hok := hN k x hx
    have hkd : ∀ c ∈ x.kids, 0 ≤ c ∧ c < (k : Int) := fun c hc => by
      by_cases h : x.kind ≤ 1
      · rw [(hok.term h).2.2] at hc; cases hc
      · exact (hok.form (by omega)).2.2.2 c hc
    have hkl : x.kids.length ≤ 200 := by
      by_cases h : x.kind ≤ 1
      · rw [(hok.term h).2.2]; exact Nat.zero_le _
      · exact (hok.form (by omega)).2.1
    have g3 : (f.nodes.flatMap ndC)[k * 4 + 3]? = some (slI x.kids) := nd_get hx 3 (by decide)
    obtain ⟨a, ha⟩ : ∃ a, ρ 3 = a := ⟨_, rfl⟩
    rw [ha] at hG
    simp only [go_sem, xQ, ↓reduceIte, xA, xM, xL, xT, xE, xN, xP, xR, xS, h1, h4, hlt]
    refine SemC.loopK mixed x.kids.length (fun j ρ' σ'' ds => ds = [] ∧ σ'' = σ' ∧ (ρ' 1 = .pp (fmC f) 0 ∧ ρ' 3 = a ∧ ρ' 4 = int k) ∧ ρ' 6 = int j ∧ ∃ s, ρ' 5 = int s ∧ stepZ acc x.kids 1 = stepZ acc (x.kids.drop j) s) (by kernel_rfl) ⟨rfl, rfl, by simp only [go_sem, xQ, ↓reduceIte, xA, xM, xL, xT, xE, xN, xP, xR, xS, h1, ha, h4], rfl, 1, rfl, rfl⟩ ?_
    rintro j ρ' σ'' ds hj ⟨rfl, rfl, H, h6, s, h5, hs⟩
    rcases get_or_end x.kids j hj with ⟨c0, hc0, hlt2, hdd⟩ | hj
    · obtain ⟨m, rfl, hm⟩ := kids_nat hkd hc0
      have hne : ints acc ≠ [] := fun e => by have := congrArg List.length e; rw [ints_len, List.length_nil] at this; omega
      obtain ⟨ba, ca, ea, hba⟩ := hG.own_of hne
      subst ea
      obtain ⟨v, hv⟩ : ∃ v, acc[m]? = some v := ⟨acc[m]'(by omega), List.getElem?_eq_getElem _⟩
      rw [hdd, stepZ, Int.toNat_natCast, hv, Option.getD_some] at hs
      simp only [go_sem, xQ, ↓reduceIte, xA, xM, xL, xT, xE, xN, xP, xR, xS, H, h6, h5, hlt, g3, hlt2, hc0, hm, hba, hv]
      refine ⟨by rw [wrap_succ _ (by omega)], _, rfl, ?_⟩
      rw [hs]
      rfl
    · subst hj
      rw [List.drop_length, stepZ] at hs
      simp only [go_sem, xQ, ↓reduceIte, xA, xM, xL, xT, xE, xN, xP, xR, xS, H, h6, h5, hlt, g3, Nat.lt_irrefl]
      refine appB_sl (appT_sl el46 tk3 by3 el46 (by decide) rfl (by decide)) hD hG rfl rfl (by omega) (fun a' σ2 hD2 hO hG2 => ?_)
      simp only [go_sem, xQ, ↓reduceIte, xA, xM, xL, xT, xE, xN, xP, xR, xS, H]
      refine ⟨by rw [wrap_succ _ (by omega)], hD2, acc ++ [s], by simp [hal], ?_, ?_⟩
      · rw [hz, hd, sizF, hs]
      · simpa [ints, int] using hG2
  · subst hk
    have hpos := List.length_pos_iff.2 hne
    rw [List.drop_length, sizF] at hz
    have hne' : ints acc ≠ [] := fun e => by have := congrArg List.length e; rw [ints_len, List.length_nil] at this; omega
    obtain ⟨ba, ca, ea, hba⟩ := hG.own_of hne'
    obtain ⟨n, hn⟩ : ∃ n, f.nodes.length = n + 1 := ⟨f.nodes.length - 1, by omega⟩
    have hw : IntKind.i64.wrap (((n + 1 : Nat) : Int) - 1) = (n : Int) := by rw [wrap_i64 _ (by omega) (by omega)]; omega
    obtain ⟨v, hv⟩ : ∃ v, acc[n]? = some v := ⟨acc[n]'(by omega), List.getElem?_eq_getElem _⟩
    have hb : smallB f = decide (v ≤ 2000) := by
      rw [smallB, hz, List.getLastD_eq_getLast?, List.getLast?_eq_getElem?, hal, hn]
      simp [hv]
    have hlt : n < n + 1 := by omega
    rw [hn] at ea
    simp only [go_sem, xQ, ↓reduceIte, xA, xM, xL, xT, xE, xN, xP, xR, xS, h1, h4, ea, hba, hn, hw, hlt, hv, Nat.lt_irrefl]
    exact retP_drop hD (by rw [hb])
/-! ### used -/
end Go.AL

/- FormulaMeans: the law holds at all formulas and all values. -/
set_option linter.unusedVariables false
set_option linter.unusedSimpArgs false
namespace Go.AL
open Go.Proofs
@[reducible] noncomputable def p13 (Γ : Glob) : Par := par Γ [18, 21, 23, 25, 34, 35] [(17, [false, false, true]), (27, [false, true, false, true, true]), (28, [false, true, false, true, true]), (31, [false, false, true]), (32, [false, false, true]), (33, [false, false, true]), (42, [false, false, true])] [(17, [0, 0, 2, 7, 15, 31, 31, 63, 255]), (27, [0, 1, 0, 7, 15, 31, 63, 63, 0, 383, 1023]), (28, [0, 1, 0, 7, 15, 31, 63, 63, 0, 383, 1023]), (31, [0, 0, 2, 7, 15, 31, 31, 63, 255]), (32, [0, 0, 2, 7, 15, 31, 31, 63, 255]), (33, [0, 0, 2, 7, 15, 31, 31, 63, 255]), (42, [0, 0, 2, 7, 15, 31, 31, 63, 255])]
theorem ok13 (Γ : Glob) : FnOk (p13 Γ) 13 278 (Tryz.f13.body.getD .skip) Tryz.f13.results.toList 3 := fnOk (par_mixed _ _ _ _) Tryz.func13 rfl rfl rfl (by kernel_rfl) (Nat.le_of_ble_eq_true rfl) (by kernel_rfl)
variable {Γ : Glob}
attribute [local irreducible] codeW opsW dopsW
theorem short_fitM {f : Fm} (h : shortFB f = true) : f.nodes.length ≤ 201 ∧ ∀ n ∈ f.nodes, NdFit n := by
  unfold shortFB at h
  rw [Bool.and_eq_true, Bool.or_eq_true, decide_eq_true_eq, decide_eq_true_eq, List.all_eq_true] at h
  refine ⟨by omega, fun n hn => ?_⟩
  have := h.1 n hn
  simp [shortNdB] at this
  exact ⟨by omega, by omega⟩
theorem f41ok (hG : Γ 0 = some sortsT) {f : Fm} {vs : List Int} (h : checkE f = 0) (hv : valuesE vs f.vars = 0) (hc : ∀ n ∈ f.nodes, NdFit n) : PCalls Tryz.prog Γ 41 [fmA f, slI vs] (.tup [.v (.bool (holdsB f vs)), int 0]) := by
  obtain ⟨hne, hl200, hv0, hv8, hN⟩ := check_ok h
  obtain ⟨hvl, _⟩ := values_ok hv
  have he : holdsE f vs = 0 := (firstE_zero _).2 fun x hx => by
    simp only [List.mem_cons, List.not_mem_nil, or_false] at hx
    rcases hx with rfl | rfl
    · exact h
    · exact hv
  have := f41 hG f vs (by omega) hc (by omega)
  rwa [he, if_pos rfl] at this
theorem fit_of {f : Fm} (h : checkE f = 0) : f.nodes.length ≤ 200 ∧ ∀ n ∈ f.nodes, NdFit n := by
  obtain ⟨hne, hl200, hv0, hv8, hN⟩ := check_ok h
  refine ⟨hl200, fun n hn => ?_⟩
  obtain ⟨i, hi, rfl⟩ := List.getElem_of_mem hn
  have hO := hN i _ (List.getElem?_eq_getElem hi)
  by_cases h1 : (f.nodes[i]).kind ≤ 1
  · obtain ⟨_, a, b⟩ := hO.term h1
    exact ⟨by omega, by rw [b]; exact Nat.zero_le _⟩
  · obtain ⟨a, b, _⟩ := hO.form (by omega)
    exact ⟨by rw [a]; exact Nat.zero_le _, by omega⟩
theorem cases_lim {f : Fm} (h : checkE f = 0) : (casesR f).1.length ≤ 1000000 ∧ ∀ x ∈ (casesR f).1, x.length ≤ 1000000 := by
  obtain ⟨hne, hl200, hv0, hv8, hok⟩ := check_ok h
  have hd := hdown hok
  have hpos := List.length_pos_iff.2 hne
  have hroot : rootW f = (((f.nodes.length - 1 : Nat) : Int), false) := by rw [rootW]; congr 1; omega
  have h0 : ([] : List (List Tm)).length ≤ 1000000 ∧ ∀ x ∈ ([] : List (List Tm)), x.length ≤ 1000000 := ⟨Nat.zero_le _, fun x hx => by cases hx⟩
  have hn : f.nodes[f.nodes.length - 1]? = some f.nodes[f.nodes.length - 1] := List.getElem?_eq_getElem (by omega)
  rw [casesR, if_pos h]
  cases hb : badW f.nodes (rootW f)
  · cases larW f.nodes (rootW f)
    · simp only [Bool.false_eq_true, if_false]
      rw [hroot] at hb ⊢
      have h1 := (cnt_cas hd hok f.nodes.length (f.nodes.length - 1) false _ (by omega) hn).2 hb
      refine ⟨by omega, fun x hx => ?_⟩
      have := maxL_mem hx
      omega
    · exact h0
  · exact h0
theorem anyP_take {vs : List Int} {C : List (List Tm)} {i : Nat} {c : List Tm} (h : C[i]? = some c) : anyP vs (C.take (i + 1)) = (anyP vs (C.take i) || allP vs c) := by
  rw [take_succ h, anyP, List.any_append]; simp [anyP]
theorem allP_take {vs : List Int} {c : List Tm} {j : Nat} {t : Tm} (h : c[j]? = some t) : allP vs (c.take (j + 1)) = (allP vs (c.take j) && decide (0 ≤ valueR t vs)) := by
  rw [take_succ h, allP, List.all_append]; simp [allP]
set_option maxHeartbeats 4000000 in
set_option maxRecDepth 20000 in
theorem f13 (hG : Γ 0 = some sortsT) (hG2 : Γ 2 = some [int 0, int 0]) (hG5 : Γ 5 = some powT) (f g : Fm) (vs : List Int) (hl : f.nodes.length ≤ 9223372036854775807) (hl2 : g.nodes.length ≤ 9223372036854775807) (hvl : vs.length ≤ 9223372036854775807) : PCalls Tryz.prog Γ 13 [fmA f, fmA g, slI vs] (.v (.bool true)) := by
  have y1 : (!(false == false)) = false := rfl
  have y2 : (!(false == true)) = true := rfl
  have y3 : (!(true == false)) = true := rfl
  have y4 : (!(true == true)) = false := rfl
  have y5 : (true == false) = false := rfl
  have y6 : (false == true) = false := rfl
  have y7 : (true == true) = true := rfl
  have y8 : (false == false) = true := rfl
  refine pcalls (ok13 Γ) fun σ => ?_
  by_cases s1 : shortFB f = true
  · obtain ⟨hn1, hc1⟩ := short_fitM s1
    by_cases s2 : shortFB g = true
    · obtain ⟨hn2, hc2⟩ := short_fitM s2
      simp only [go_sem, xQ, ↓reduceIte, xA, xM, xL, xT, xE, xN, xP, xR, xS, Tryz.f13]
      refine callB_use (f39 f hl) rfl ?_
      simp only [go_sem, xQ, ↓reduceIte, xA, xM, xL, xT, xE, xN, xP, xR, xS, s1]
      refine callB_use (f39 g hl2) rfl ?_
      simp only [go_sem, xQ, ↓reduceIte, xA, xM, xL, xT, xE, xN, xP, xR, xS, s1, s2]
      refine callB_use (f44 f (by omega) hc1) rfl ?_
      simp only [go_sem, xQ, ↓reduceIte, xA, xM, xL, xT, xE, xN, xP, xR, xS, s1, s2]
      by_cases c1 : checkE f = 0
      · obtain ⟨hne, hl200, hv0, hv8, hN⟩ := check_ok c1
        simp only [go_sem, xQ, ↓reduceIte, xA, xM, xL, xT, xE, xN, xP, xR, xS, s1, s2, c1]
        refine callB_use (f44 g (by omega) hc2) rfl ?_
        simp only [go_sem, xQ, ↓reduceIte, xA, xM, xL, xT, xE, xN, xP, xR, xS, s1, s2, c1]
        by_cases c2 : checkE g = 0
        · by_cases v0 : f.vars = g.vars
          · have vT := eq_true v0
            simp only [go_sem, xQ, ↓reduceIte, xA, xM, xL, xT, xE, xN, xP, xR, xS, s1, s2, c1, c2, vT]
            refine callB_use (f48 f (by omega) hne hN) rfl ?_
            simp only [go_sem, xQ, ↓reduceIte, xA, xM, xL, xT, xE, xN, xP, xR, xS, s1, s2, c1, c2, vT]
            cases sm : smallB f
            · simp only [go_sem, xQ, ↓reduceIte, xA, xM, xL, xT, xE, xN, xP, xR, xS, s1, s2, c1, c2, vT, sm]
              refine callB_use (f40 hG hG2 hG5) rfl ?_
              simp only [go_sem, xQ, ↓reduceIte, xA, xM, xL, xT, xE, xN, xP, xR, xS]
            · simp only [go_sem, xQ, ↓reduceIte, xA, xM, xL, xT, xE, xN, xP, xR, xS, s1, s2, c1, c2, vT, sm]
              refine callB_use (f45 vs f.vars (by intro h; omega)) rfl ?_
              simp only [go_sem, xQ, ↓reduceIte, xA, xM, xL, xT, xE, xN, xP, xR, xS, s1, s2, c1, c2, vT, sm]
              by_cases vv : valuesE vs f.vars = 0
              · by_cases l1 : (12 : Int) < f.nodes.length
                · simp only [go_sem, xQ, ↓reduceIte, xA, xM, xL, xT, xE, xN, xP, xR, xS, s1, s2, c1, c2, vT, sm, vv, l1]
                  refine callB_use (f40 hG hG2 hG5) rfl ?_
                  simp only [go_sem, xQ, ↓reduceIte, xA, xM, xL, xT, xE, xN, xP, xR, xS]
                · by_cases l2 : (12 : Int) < g.nodes.length
                  · simp only [go_sem, xQ, ↓reduceIte, xA, xM, xL, xT, xE, xN, xP, xR, xS, s1, s2, c1, c2, vT, sm, vv, l1, l2]
                    refine callB_use (f40 hG hG2 hG5) rfl ?_
                    simp only [go_sem, xQ, ↓reduceIte, xA, xM, xL, xT, xE, xN, xP, xR, xS]
                  · obtain ⟨hvn, hvz⟩ := values_ok vv
                    have vv2 : valuesE vs g.vars = 0 := by rw [← v0]; exact vv
                    simp only [go_sem, xQ, ↓reduceIte, xA, xM, xL, xT, xE, xN, xP, xR, xS, s1, s2, c1, c2, vT, sm, vv, l1, l2]
                    refine callB_use (f42 f (by omega) hc1) rfl ?_
                    simp only [go_sem, xQ, ↓reduceIte, xA, xM, xL, xT, xE, xN, xP, xR, xS]
                    refine callB_use (f43 vs (by omega)) rfl ?_
                    simp only [go_sem, xQ, ↓reduceIte, xA, xM, xL, xT, xE, xN, xP, xR, xS]
                    refine callB_use (f41ok hG c1 vv hc1) rfl ?_
                    simp only [go_sem, xQ, ↓reduceIte, xA, xM, xL, xT, xE, xN, xP, xR, xS]
                    refine callB_use (f42 g (by omega) hc2) rfl ?_
                    simp only [go_sem, xQ, ↓reduceIte, xA, xM, xL, xT, xE, xN, xP, xR, xS]
                    refine callB_use (f43 vs (by omega)) rfl ?_
                    simp only [go_sem, xQ, ↓reduceIte, xA, xM, xL, xT, xE, xN, xP, xR, xS]
                    refine callB_use (f41ok hG c2 vv2 hc2) rfl ?_
                    simp only [go_sem, xQ, ↓reduceIte, xA, xM, xL, xT, xE, xN, xP, xR, xS]
                    refine callB_use (f42 f (by omega) hc1) rfl ?_
                    simp only [go_sem, xQ, ↓reduceIte, xA, xM, xL, xT, xE, xN, xP, xR, xS]
                    refine callB_use (f49 hG hG2 f (by omega) hc1) rfl ?_
                    simp only [go_sem, xQ, ↓reduceIte, xA, xM, xL, xT, xE, xN, xP, xR, xS]
                    have hle : ∀ {p q : Nat}, ¬ (12 : Int) < p → p ≤ 12 := fun h => by omega
                    have lf : f.nodes.length ≤ 12 := by omega
                    have lg : g.nodes.length ≤ 12 := by omega
                    have ho := opp_check c1 (by omega)
                    have h3 := join_check (op := 3) (.inl rfl) c1 c2 v0 (by omega)
                    have h4 := join_check (op := 4) (.inr rfl) c1 c2 v0 (by omega)
                    have fO2 := (fit_of ho).2
                    have fA2 := (fit_of h3).2
                    have fR2 := (fit_of h4).2
                    have mO := opp_holds (vs := vs) c1
                    have m3 := join_holds (vs := vs) (op := 3) (.inl rfl) c1 c2
                    have m4 := join_holds (vs := vs) (op := 4) (.inr rfl) c1 c2
                    rw [if_pos rfl] at m3
                    rw [if_neg (by decide)] at m4
                    have eO : oppE f = 0 := (firstE_zero _).2 fun x hx => by
                      simp only [List.mem_cons, List.not_mem_nil, or_false] at hx
                      rcases hx with rfl | rfl
                      · exact c1
                      · rw [whenE, if_neg]; simp; omega
                    have eJ : ∀ op : Int, (op = 3 ∨ op = 4) → joinE op f g = 0 := fun op hop => (firstE_zero _).2 fun x hx => by
                      simp only [List.mem_cons, List.not_mem_nil, or_false] at hx
                      rcases hx with rfl | rfl | rfl | rfl | rfl
                      · rcases hop with rfl | rfl <;> rfl
                      · exact c1
                      · exact c2
                      · rw [whenE, if_neg]; simp [v0]
                      · rw [whenE, if_neg]; simp; omega
                    have c65 := f65 (Γ := Γ) hG f (by omega) hc1
                    have c643 := f64 (Γ := Γ) hG 3 f g (by omega) hc1 (by omega) hc2
                    have c644 := f64 (Γ := Γ) hG 4 f g (by omega) hc1 (by omega) hc2
                    rw [eO, if_pos rfl] at c65
                    rw [eJ 3 (.inl rfl), if_pos rfl] at c643
                    rw [eJ 4 (.inr rfl), if_pos rfl] at c644
                    by_cases hq : (casesR f).2 = 0
                    · obtain ⟨hm, hts⟩ := cases_mean c1 vv hq
                      have hCl : (casesR f).1.length ≤ 1000000 ∧ ∀ x ∈ (casesR f).1, x.length ≤ 1000000 := cases_lim c1
                      simp only [go_sem, xQ, ↓reduceIte, xA, xM, xL, xT, xE, xN, xP, xR, xS, hq]
                      refine SemC.loopK mixed (casesR f).1.length (fun i ρ σ' ds => ds = [] ∧ (ρ 2 = slI vs ∧ ρ 3 = .pp (fmC f) 0 ∧ ρ 4 = .pp (fmC g) 0 ∧ ρ 7 = .v (.bool (holdsB f vs)) ∧ ρ 9 = .v (.bool (holdsB g vs)) ∧ ρ 119 = slC (casesR f).1 ∧ ρ 120 = int (casesR f).1.length) ∧ ρ 121 = int i ∧ Drop σ' σ ∧ ρ 13 = .v (.bool (anyP vs ((casesR f).1.take i)))) (by kernel_rfl) ?_ ?_
                      · exact ⟨rfl, by simp only [go_sem, xQ, ↓reduceIte, xA, xM, xL, xT, xE, xN, xP, xR, xS, slC], rfl, Drop.refl _, rfl⟩
                      rintro i ρ σ' ds hi ⟨rfl, H2, h121, hD, h13⟩
                      rcases get_or_end (casesR f).1 i hi with ⟨c, hc, hltc, hdc⟩ | hi
                      · have hcg := slC_get hc
                        have hcl := hCl.2 c (mem_of_get hc)
                        have htc := hts c (mem_of_get hc)
                        have hst := anyP_take (vs := vs) hc
                        simp only [go_sem, xQ, ↓reduceIte, xA, xM, xL, xT, xE, xN, xP, xR, xS, H2, h121, hltc, hcg, slC, slT]
                        refine SemC.loopK mixed c.length (fun j ρ σ' ds => ds = [] ∧ (ρ 2 = slI vs ∧ ρ 3 = .pp (fmC f) 0 ∧ ρ 4 = .pp (fmC g) 0 ∧ ρ 7 = .v (.bool (holdsB f vs)) ∧ ρ 9 = .v (.bool (holdsB g vs)) ∧ ρ 119 = slC (casesR f).1 ∧ ρ 120 = int (casesR f).1.length ∧ ρ 121 = int i ∧ ρ 13 = .v (.bool (anyP vs ((casesR f).1.take i))) ∧ ρ 125 = slT c ∧ ρ 126 = int c.length) ∧ ρ 127 = int j ∧ Drop σ' σ ∧ ρ 16 = .v (.bool (allP vs (c.take j)))) (by kernel_rfl) ?_ ?_
                        · exact ⟨rfl, by simp only [go_sem, xQ, ↓reduceIte, xA, xM, xL, xT, xE, xN, xP, xR, xS, slC, slT, H2, h121, h13], rfl, hD, rfl⟩
                        rintro j ρ σ' ds hj ⟨rfl, H2, h127, hD, h16⟩
                        rcases get_or_end c j hj with ⟨t, ht, hltt, hdt⟩ | hj
                        · obtain ⟨t8, tv⟩ := htc t (mem_of_get ht)
                          have hat := allP_take (vs := vs) ht
                          have c72 := f72 (Γ := Γ) t vs (by omega) (by omega)
                          rw [tv, if_pos rfl] at c72
                          simp only [go_sem, xQ, ↓reduceIte, xA, xM, xL, xT, xE, xN, xP, xR, xS, H2, h127, hltt, ↓tm_part ht, slT]
                          intro b18 hb18
                          have z18 := hD.free hb18
                          simp only [go_sem, xQ, ↓reduceIte, xA, xM, xL, xT, xE, xN, xP, xR, xS, H2, h127, hltt, ↓tm_part ht, slT]
                          refine dcallB_use (f43 vs (by omega)) rfl ?_
                          simp only [go_sem, xQ, ↓reduceIte, xA, xM, xL, xT, xE, xN, xP, xR, xS, H2, h127]
                          refine callB_use (c72) rfl ?_
                          simp only [go_sem, xQ, ↓reduceIte, xA, xM, xL, xT, xE, xN, xP, xR, xS, H2, h127]
                          cases hA : allP vs (c.take j)
                          · rw [hA] at h16 hat
                            simp only [go_sem, xQ, ↓reduceIte, xA, xM, xL, xT, xE, xN, xP, xR, xS, H2, h127, h16]
                            exact ⟨hltt, by rw [wrap_succ _ (by omega)], by repeat (first | exact hD | refine Drop.upd ?_ z18), by rw [hat]; rfl⟩
                          · rw [hA] at h16 hat
                            simp only [go_sem, xQ, ↓reduceIte, xA, xM, xL, xT, xE, xN, xP, xR, xS, H2, h127, h16]
                            exact ⟨hltt, by rw [wrap_succ _ (by omega)], by repeat (first | exact hD | refine Drop.upd ?_ z18), by rw [hat, Bool.true_and]⟩
                        · subst hj
                          rw [List.take_length] at h16
                          have hil := hCl.1
                          cases hF : anyP vs ((casesR f).1.take i)
                          · rw [hF] at hst H2
                            simp only [go_sem, xQ, ↓reduceIte, xA, xM, xL, xT, xE, xN, xP, xR, xS, H2, h127, h16, Nat.lt_irrefl]
                            exact ⟨hltc, by rw [wrap_succ _ (by omega)], hD, by rw [hst, Bool.false_or]⟩
                          · rw [hF] at hst H2
                            simp only [go_sem, xQ, ↓reduceIte, xA, xM, xL, xT, xE, xN, xP, xR, xS, H2, h127, h16, Nat.lt_irrefl]
                            exact ⟨hltc, by rw [wrap_succ _ (by omega)], hD, by rw [hst, Bool.true_or]⟩
                      · subst hi
                        rw [List.take_length, hm] at h13
                        have yS : (!(holdsB f vs == holdsB f vs)) = false := by cases holdsB f vs <;> rfl
                        simp only [go_sem, xQ, ↓reduceIte, xA, xM, xL, xT, xE, xN, xP, xR, xS, H2, h121, h13, Nat.lt_irrefl, yS]
                        refine callB_use (f42 f (by omega) hc1) rfl ?_
                        simp only [go_sem, xQ, ↓reduceIte, xA, xM, xL, xT, xE, xN, xP, xR, xS, H2]
                        refine callB_use (c65) rfl ?_
                        simp only [go_sem, xQ, ↓reduceIte, xA, xM, xL, xT, xE, xN, xP, xR, xS, H2]
                        intro b21 hb21
                        have z21 := hD.free hb21
                        simp only [go_sem, xQ, ↓reduceIte, xA, xM, xL, xT, xE, xN, xP, xR, xS, H2]
                        refine dcallB_use (f42 f (by omega) hc1) rfl ?_
                        simp only [go_sem, xQ, ↓reduceIte, xA, xM, xL, xT, xE, xN, xP, xR, xS, H2]
                        refine dcallB_use (f42 g (by omega) hc2) rfl ?_
                        simp only [go_sem, xQ, ↓reduceIte, xA, xM, xL, xT, xE, xN, xP, xR, xS, H2]
                        refine dcallB_use (c643) rfl ?_
                        simp only [go_sem, xQ, ↓reduceIte, xA, xM, xL, xT, xE, xN, xP, xR, xS, H2]
                        intro b23 hb23
                        obtain ⟨n1, hb23⟩ := un hb23
                        have n1' : ¬ b21 = b23 := fun e => n1 e.symm
                        have z23 := hD.free hb23
                        simp only [go_sem, xQ, ↓reduceIte, xA, xM, xL, xT, xE, xN, xP, xR, xS, n1, n1', H2]
                        refine dcallB_use (f42 f (by omega) hc1) rfl ?_
                        simp only [go_sem, xQ, ↓reduceIte, xA, xM, xL, xT, xE, xN, xP, xR, xS, n1, n1', H2]
                        refine dcallB_use (f42 g (by omega) hc2) rfl ?_
                        simp only [go_sem, xQ, ↓reduceIte, xA, xM, xL, xT, xE, xN, xP, xR, xS, n1, n1', H2]
                        refine dcallB_use (c644) rfl ?_
                        simp only [go_sem, xQ, ↓reduceIte, xA, xM, xL, xT, xE, xN, xP, xR, xS, n1, n1', H2]
                        intro b25 hb25
                        obtain ⟨n2, hb25⟩ := un hb25
                        obtain ⟨n3, hb25⟩ := un hb25
                        have n2' : ¬ b23 = b25 := fun e => n2 e.symm
                        have n3' : ¬ b21 = b25 := fun e => n3 e.symm
                        have z25 := hD.free hb25
                        simp only [go_sem, xQ, ↓reduceIte, xA, xM, xL, xT, xE, xN, xP, xR, xS, n1, n1', n2, n2', n3, n3', H2]
                        refine dcallB_use (f43 vs (by omega)) rfl ?_
                        simp only [go_sem, xQ, ↓reduceIte, xA, xM, xL, xT, xE, xN, xP, xR, xS, n1, n1', n2, n2', n3, n3', H2]
                        refine callB_use (f41ok hG ho vv fO2) rfl ?_
                        simp only [go_sem, xQ, ↓reduceIte, xA, xM, xL, xT, xE, xN, xP, xR, xS, n1, n1', n2, n2', n3, n3', H2]
                        refine dcallB_use (f43 vs (by omega)) rfl ?_
                        simp only [go_sem, xQ, ↓reduceIte, xA, xM, xL, xT, xE, xN, xP, xR, xS, n1, n1', n2, n2', n3, n3', H2]
                        refine callB_use (f41ok hG h3 vv fA2) rfl ?_
                        simp only [go_sem, xQ, ↓reduceIte, xA, xM, xL, xT, xE, xN, xP, xR, xS, n1, n1', n2, n2', n3, n3', H2]
                        refine dcallB_use (f43 vs (by omega)) rfl ?_
                        simp only [go_sem, xQ, ↓reduceIte, xA, xM, xL, xT, xE, xN, xP, xR, xS, n1, n1', n2, n2', n3, n3', H2]
                        refine callB_use (f41ok hG h4 vv fR2) rfl ?_
                        simp only [go_sem, xQ, ↓reduceIte, xA, xM, xL, xT, xE, xN, xP, xR, xS, n1, n1', n2, n2', n3, n3', H2]
                        rw [mO, m3, m4]
                        cases hB1 : holdsB f vs <;> cases hB2 : holdsB g vs
                        all_goals
                          simp only [go_sem, xQ, ↓reduceIte, xA, xM, xL, xT, xE, xN, xP, xR, xS, n1, n1', n2, n2', n3, n3', y1, y2, y3, y4, y5, y6, y7, y8, Bool.not_false, Bool.not_true, Bool.and_self, Bool.and_false, Bool.false_and, Bool.or_self, Bool.or_true, Bool.true_or, Bool.or_false, Bool.and_true, Bool.true_and, Bool.false_or, if_true, H2, hB1, hB2]
                          refine SemC.loopK mixed f.nodes.length (fun k ρ σ' ds => ds = [] ∧ (ρ 2 = slI vs ∧ ρ 239 = slN f.nodes ∧ ρ 240 = int f.nodes.length) ∧ ρ 241 = int k ∧ Drop σ' σ) (by kernel_rfl) ?_ ?_
                          · refine ⟨rfl, by simp only [go_sem, xQ, ↓reduceIte, xA, xM, xL, xT, xE, xN, xP, xR, xS, H2], rfl, ?_⟩
                            repeat (first | exact hD | exact Drop.refl _ | assumption | refine Drop.upd ?_ (by assumption))
                          rintro k ρ σ' ds hk ⟨rfl, H, h241, hD⟩
                          rcases get_or_end f.nodes k hk with ⟨x, hx, hlt, hd⟩ | hk
                          · have hO := hN k x hx
                            have hxf := hc1 x (mem_of_get hx)
                            simp only [go_sem, xQ, ↓reduceIte, xA, xM, xL, xT, xE, xN, xP, xR, xS, H, h241, hlt, ↓nd_part hx]
                            intro b34 hb34
                            have z34 := hD.free hb34
                            simp only [go_sem, xQ, ↓reduceIte, xA, xM, xL, xT, xE, xN, xP, xR, xS, H, h241, hlt, ↓nd_part hx]
                            by_cases hkk : (1 : Int) < x.kind
                            · simp only [go_sem, xQ, ↓reduceIte, xA, xM, xL, xT, xE, xN, xP, xR, xS, H, h241, hkk]
                              exact ⟨hlt, by rw [wrap_succ _ (by omega)], by repeat (first | exact hD | refine Drop.upd ?_ z34)⟩
                            · obtain ⟨ht1, ht2, _⟩ := hO.term (by omega)
                              simp only [go_sem, xQ, ↓reduceIte, xA, xM, xL, xT, xE, xN, xP, xR, xS, H, h241, hkk]
                              refine callB_use (f60 x.term (by have := hxf.1; omega)) rfl ?_
                              simp only [go_sem, xQ, ↓reduceIte, xA, xM, xL, xT, xE, xN, xP, xR, xS, H, h241]
                              refine callB_use (f73 x.term (by have := hxf.1; omega)) rfl ?_
                              simp only [go_sem, xQ, ↓reduceIte, xA, xM, xL, xT, xE, xN, xP, xR, xS, H, h241]
                              intro b35 hb35
                              obtain ⟨n5, hb35⟩ := un hb35
                              have n5' : ¬ b34 = b35 := fun e => n5 e.symm
                              have z35 := hD.free hb35
                              by_cases he : negE x.term = 0
                              · obtain ⟨q1, q2, q3, q4⟩ := neg_mean ht1 hv8 vv he
                                have c72 := f72 (Γ := Γ) (negT x.term) vs (by omega) (by omega)
                                rw [q2, if_pos rfl, q3] at c72
                                have c78 := f78 (Γ := Γ) x.term vs (by omega) (by omega)
                                rw [q4] at c78
                                simp only [go_sem, xQ, ↓reduceIte, xA, xM, xL, xT, xE, xN, xP, xR, xS, H, h241, n5, n5', he]
                                refine dcallB_use (f43 vs (by omega)) rfl ?_
                                simp only [go_sem, xQ, ↓reduceIte, xA, xM, xL, xT, xE, xN, xP, xR, xS, H, h241, n5, n5', he]
                                refine callB_use (c72) rfl ?_
                                simp only [go_sem, xQ, ↓reduceIte, xA, xM, xL, xT, xE, xN, xP, xR, xS, H, h241, n5, n5', he]
                                refine callB_use (c78) rfl ?_
                                simp only [go_sem, xQ, ↓reduceIte, xA, xM, xL, xT, xE, xN, xP, xR, xS, H, h241, n5, n5', he]
                                by_cases hz : 0 ≤ valZ x.term vs
                                · have hz' : ¬ 0 ≤ -1 - valZ x.term vs := by omega
                                  simp only [go_sem, xQ, ↓reduceIte, xA, xM, xL, xT, xE, xN, xP, xR, xS, H, h241, n5, n5', hz, hz', y1, y2, y3, y4, y5, y6, y7, y8]
                                  exact ⟨hlt, by rw [wrap_succ _ (by omega)], by repeat (first | exact hD | refine Drop.upd ?_ z35 | refine Drop.upd ?_ z34)⟩
                                · have hz' : 0 ≤ -1 - valZ x.term vs := by omega
                                  simp only [go_sem, xQ, ↓reduceIte, xA, xM, xL, xT, xE, xN, xP, xR, xS, H, h241, n5, n5', hz, hz', y1, y2, y3, y4, y5, y6, y7, y8]
                                  exact ⟨hlt, by rw [wrap_succ _ (by omega)], by repeat (first | exact hD | refine Drop.upd ?_ z35 | refine Drop.upd ?_ z34)⟩
                              · simp only [go_sem, xQ, ↓reduceIte, xA, xM, xL, xT, xE, xN, xP, xR, xS, H, h241, n5, n5', he]
                                exact ⟨hlt, by rw [wrap_succ _ (by omega)], by repeat (first | exact hD | refine Drop.upd ?_ z35 | refine Drop.upd ?_ z34)⟩
                          · subst hk
                            simp only [go_sem, xQ, ↓reduceIte, xA, xM, xL, xT, xE, xN, xP, xR, xS, H, h241, Nat.lt_irrefl]
                            refine callB_use (f40 hG hG2 hG5) rfl ?_
                            simp only [go_sem, xQ, ↓reduceIte, xA, xM, xL, xT, xE, xN, xP, xR, xS]
                            exact retP_drop hD rfl
                    · have hD := Drop.refl σ
                      have H2 : True := trivial
                      simp only [go_sem, xQ, ↓reduceIte, xA, xM, xL, xT, xE, xN, xP, xR, xS, hq]
                      refine callB_use (f42 f (by omega) hc1) rfl ?_
                      simp only [go_sem, xQ, ↓reduceIte, xA, xM, xL, xT, xE, xN, xP, xR, xS, H2]
                      refine callB_use (c65) rfl ?_
                      simp only [go_sem, xQ, ↓reduceIte, xA, xM, xL, xT, xE, xN, xP, xR, xS, H2]
                      intro b21 hb21
                      have z21 := hD.free hb21
                      simp only [go_sem, xQ, ↓reduceIte, xA, xM, xL, xT, xE, xN, xP, xR, xS, H2]
                      refine dcallB_use (f42 f (by omega) hc1) rfl ?_
                      simp only [go_sem, xQ, ↓reduceIte, xA, xM, xL, xT, xE, xN, xP, xR, xS, H2]
                      refine dcallB_use (f42 g (by omega) hc2) rfl ?_
                      simp only [go_sem, xQ, ↓reduceIte, xA, xM, xL, xT, xE, xN, xP, xR, xS, H2]
                      refine dcallB_use (c643) rfl ?_
                      simp only [go_sem, xQ, ↓reduceIte, xA, xM, xL, xT, xE, xN, xP, xR, xS, H2]
                      intro b23 hb23
                      obtain ⟨n1, hb23⟩ := un hb23
                      have n1' : ¬ b21 = b23 := fun e => n1 e.symm
                      have z23 := hD.free hb23
                      simp only [go_sem, xQ, ↓reduceIte, xA, xM, xL, xT, xE, xN, xP, xR, xS, n1, n1', H2]
                      refine dcallB_use (f42 f (by omega) hc1) rfl ?_
                      simp only [go_sem, xQ, ↓reduceIte, xA, xM, xL, xT, xE, xN, xP, xR, xS, n1, n1', H2]
                      refine dcallB_use (f42 g (by omega) hc2) rfl ?_
                      simp only [go_sem, xQ, ↓reduceIte, xA, xM, xL, xT, xE, xN, xP, xR, xS, n1, n1', H2]
                      refine dcallB_use (c644) rfl ?_
                      simp only [go_sem, xQ, ↓reduceIte, xA, xM, xL, xT, xE, xN, xP, xR, xS, n1, n1', H2]
                      intro b25 hb25
                      obtain ⟨n2, hb25⟩ := un hb25
                      obtain ⟨n3, hb25⟩ := un hb25
                      have n2' : ¬ b23 = b25 := fun e => n2 e.symm
                      have n3' : ¬ b21 = b25 := fun e => n3 e.symm
                      have z25 := hD.free hb25
                      simp only [go_sem, xQ, ↓reduceIte, xA, xM, xL, xT, xE, xN, xP, xR, xS, n1, n1', n2, n2', n3, n3', H2]
                      refine dcallB_use (f43 vs (by omega)) rfl ?_
                      simp only [go_sem, xQ, ↓reduceIte, xA, xM, xL, xT, xE, xN, xP, xR, xS, n1, n1', n2, n2', n3, n3', H2]
                      refine callB_use (f41ok hG ho vv fO2) rfl ?_
                      simp only [go_sem, xQ, ↓reduceIte, xA, xM, xL, xT, xE, xN, xP, xR, xS, n1, n1', n2, n2', n3, n3', H2]
                      refine dcallB_use (f43 vs (by omega)) rfl ?_
                      simp only [go_sem, xQ, ↓reduceIte, xA, xM, xL, xT, xE, xN, xP, xR, xS, n1, n1', n2, n2', n3, n3', H2]
                      refine callB_use (f41ok hG h3 vv fA2) rfl ?_
                      simp only [go_sem, xQ, ↓reduceIte, xA, xM, xL, xT, xE, xN, xP, xR, xS, n1, n1', n2, n2', n3, n3', H2]
                      refine dcallB_use (f43 vs (by omega)) rfl ?_
                      simp only [go_sem, xQ, ↓reduceIte, xA, xM, xL, xT, xE, xN, xP, xR, xS, n1, n1', n2, n2', n3, n3', H2]
                      refine callB_use (f41ok hG h4 vv fR2) rfl ?_
                      simp only [go_sem, xQ, ↓reduceIte, xA, xM, xL, xT, xE, xN, xP, xR, xS, n1, n1', n2, n2', n3, n3', H2]
                      rw [mO, m3, m4]
                      cases hB1 : holdsB f vs <;> cases hB2 : holdsB g vs
                      all_goals
                        simp only [go_sem, xQ, ↓reduceIte, xA, xM, xL, xT, xE, xN, xP, xR, xS, n1, n1', n2, n2', n3, n3', y1, y2, y3, y4, y5, y6, y7, y8, Bool.not_false, Bool.not_true, Bool.and_self, Bool.and_false, Bool.false_and, Bool.or_self, Bool.or_true, Bool.true_or, Bool.or_false, Bool.and_true, Bool.true_and, Bool.false_or, if_true, H2, hB1, hB2]
                        refine SemC.loopK mixed f.nodes.length (fun k ρ σ' ds => ds = [] ∧ (ρ 2 = slI vs ∧ ρ 239 = slN f.nodes ∧ ρ 240 = int f.nodes.length) ∧ ρ 241 = int k ∧ Drop σ' σ) (by kernel_rfl) ?_ ?_
                        · refine ⟨rfl, by simp only [go_sem, xQ, ↓reduceIte, xA, xM, xL, xT, xE, xN, xP, xR, xS, H2], rfl, ?_⟩
                          repeat (first | exact hD | exact Drop.refl _ | assumption | refine Drop.upd ?_ (by assumption))
                        rintro k ρ σ' ds hk ⟨rfl, H, h241, hD⟩
                        rcases get_or_end f.nodes k hk with ⟨x, hx, hlt, hd⟩ | hk
                        · have hO := hN k x hx
                          have hxf := hc1 x (mem_of_get hx)
                          simp only [go_sem, xQ, ↓reduceIte, xA, xM, xL, xT, xE, xN, xP, xR, xS, H, h241, hlt, ↓nd_part hx]
                          intro b34 hb34
                          have z34 := hD.free hb34
                          simp only [go_sem, xQ, ↓reduceIte, xA, xM, xL, xT, xE, xN, xP, xR, xS, H, h241, hlt, ↓nd_part hx]
                          by_cases hkk : (1 : Int) < x.kind
                          · simp only [go_sem, xQ, ↓reduceIte, xA, xM, xL, xT, xE, xN, xP, xR, xS, H, h241, hkk]
                            exact ⟨hlt, by rw [wrap_succ _ (by omega)], by repeat (first | exact hD | refine Drop.upd ?_ z34)⟩
                          · obtain ⟨ht1, ht2, _⟩ := hO.term (by omega)
                            simp only [go_sem, xQ, ↓reduceIte, xA, xM, xL, xT, xE, xN, xP, xR, xS, H, h241, hkk]
                            refine callB_use (f60 x.term (by have := hxf.1; omega)) rfl ?_
                            simp only [go_sem, xQ, ↓reduceIte, xA, xM, xL, xT, xE, xN, xP, xR, xS, H, h241]
                            refine callB_use (f73 x.term (by have := hxf.1; omega)) rfl ?_
                            simp only [go_sem, xQ, ↓reduceIte, xA, xM, xL, xT, xE, xN, xP, xR, xS, H, h241]
                            intro b35 hb35
                            obtain ⟨n5, hb35⟩ := un hb35
                            have n5' : ¬ b34 = b35 := fun e => n5 e.symm
                            have z35 := hD.free hb35
                            by_cases he : negE x.term = 0
                            · obtain ⟨q1, q2, q3, q4⟩ := neg_mean ht1 hv8 vv he
                              have c72 := f72 (Γ := Γ) (negT x.term) vs (by omega) (by omega)
                              rw [q2, if_pos rfl, q3] at c72
                              have c78 := f78 (Γ := Γ) x.term vs (by omega) (by omega)
                              rw [q4] at c78
                              simp only [go_sem, xQ, ↓reduceIte, xA, xM, xL, xT, xE, xN, xP, xR, xS, H, h241, n5, n5', he]
                              refine dcallB_use (f43 vs (by omega)) rfl ?_
                              simp only [go_sem, xQ, ↓reduceIte, xA, xM, xL, xT, xE, xN, xP, xR, xS, H, h241, n5, n5', he]
                              refine callB_use (c72) rfl ?_
                              simp only [go_sem, xQ, ↓reduceIte, xA, xM, xL, xT, xE, xN, xP, xR, xS, H, h241, n5, n5', he]
                              refine callB_use (c78) rfl ?_
                              simp only [go_sem, xQ, ↓reduceIte, xA, xM, xL, xT, xE, xN, xP, xR, xS, H, h241, n5, n5', he]
                              by_cases hz : 0 ≤ valZ x.term vs
                              · have hz' : ¬ 0 ≤ -1 - valZ x.term vs := by omega
                                simp only [go_sem, xQ, ↓reduceIte, xA, xM, xL, xT, xE, xN, xP, xR, xS, H, h241, n5, n5', hz, hz', y1, y2, y3, y4, y5, y6, y7, y8]
                                exact ⟨hlt, by rw [wrap_succ _ (by omega)], by repeat (first | exact hD | refine Drop.upd ?_ z35 | refine Drop.upd ?_ z34)⟩
                              · have hz' : 0 ≤ -1 - valZ x.term vs := by omega
                                simp only [go_sem, xQ, ↓reduceIte, xA, xM, xL, xT, xE, xN, xP, xR, xS, H, h241, n5, n5', hz, hz', y1, y2, y3, y4, y5, y6, y7, y8]
                                exact ⟨hlt, by rw [wrap_succ _ (by omega)], by repeat (first | exact hD | refine Drop.upd ?_ z35 | refine Drop.upd ?_ z34)⟩
                            · simp only [go_sem, xQ, ↓reduceIte, xA, xM, xL, xT, xE, xN, xP, xR, xS, H, h241, n5, n5', he]
                              exact ⟨hlt, by rw [wrap_succ _ (by omega)], by repeat (first | exact hD | refine Drop.upd ?_ z35 | refine Drop.upd ?_ z34)⟩
                        · subst hk
                          simp only [go_sem, xQ, ↓reduceIte, xA, xM, xL, xT, xE, xN, xP, xR, xS, H, h241, Nat.lt_irrefl]
                          refine callB_use (f40 hG hG2 hG5) rfl ?_
                          simp only [go_sem, xQ, ↓reduceIte, xA, xM, xL, xT, xE, xN, xP, xR, xS]
                          exact retP_drop hD rfl
              · simp only [go_sem, xQ, ↓reduceIte, xA, xM, xL, xT, xE, xN, xP, xR, xS, s1, s2, c1, c2, vT, sm, vv]
                refine callB_use (f40 hG hG2 hG5) rfl ?_
                simp only [go_sem, xQ, ↓reduceIte, xA, xM, xL, xT, xE, xN, xP, xR, xS]
          · simp only [go_sem, xQ, ↓reduceIte, xA, xM, xL, xT, xE, xN, xP, xR, xS, s1, s2, c1, c2, v0]
            refine callB_use (f40 hG hG2 hG5) rfl ?_
            simp only [go_sem, xQ, ↓reduceIte, xA, xM, xL, xT, xE, xN, xP, xR, xS]
        · simp only [go_sem, xQ, ↓reduceIte, xA, xM, xL, xT, xE, xN, xP, xR, xS, s1, s2, c1, c2]
          refine callB_use (f40 hG hG2 hG5) rfl ?_
          simp only [go_sem, xQ, ↓reduceIte, xA, xM, xL, xT, xE, xN, xP, xR, xS]
      · simp only [go_sem, xQ, ↓reduceIte, xA, xM, xL, xT, xE, xN, xP, xR, xS, s1, s2, c1]
        refine callB_use (f40 hG hG2 hG5) rfl ?_
        simp only [go_sem, xQ, ↓reduceIte, xA, xM, xL, xT, xE, xN, xP, xR, xS]
    · rw [Bool.not_eq_true] at s2
      simp only [go_sem, xQ, ↓reduceIte, xA, xM, xL, xT, xE, xN, xP, xR, xS, Tryz.f13]
      refine callB_use (f39 f hl) rfl ?_
      simp only [go_sem, xQ, ↓reduceIte, xA, xM, xL, xT, xE, xN, xP, xR, xS, s1]
      refine callB_use (f39 g hl2) rfl ?_
      simp only [go_sem, xQ, ↓reduceIte, xA, xM, xL, xT, xE, xN, xP, xR, xS, s1, s2]
      refine callB_use (f40 hG hG2 hG5) rfl ?_
      simp only [go_sem, xQ, ↓reduceIte, xA, xM, xL, xT, xE, xN, xP, xR, xS]
  · rw [Bool.not_eq_true] at s1
    simp only [go_sem, xQ, ↓reduceIte, xA, xM, xL, xT, xE, xN, xP, xR, xS, Tryz.f13]
    refine callB_use (f39 f hl) rfl ?_
    simp only [go_sem, xQ, ↓reduceIte, xA, xM, xL, xT, xE, xN, xP, xR, xS, s1]
    refine callB_use (f40 hG hG2 hG5) rfl ?_
    simp only [go_sem, xQ, ↓reduceIte, xA, xM, xL, xT, xE, xN, xP, xR, xS]
end Go.AL
