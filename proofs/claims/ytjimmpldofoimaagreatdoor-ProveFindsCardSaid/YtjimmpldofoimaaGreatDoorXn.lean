/- Find of the library and of the reference: a model of one of the cases. -/
import Derived.Test.YtjimmpldofoimaaGreatDoorLb
import Derived.Test.YtjimmpldofoimaaGreatDoorWh
import Derived.Test.YtjimmpldofoimaaGreatDoorWk
import Derived.Test.YtjimmpldofoimaaGreatDoorXm
import Derived.Test.YtjimmpldofoimaaGreatDoorXq
open Nat renaming reduceEqDiff → xQ, reduceAdd → xA, reduceMul → xM, reduceLeDiff → xL
open Int renaming reduceLT → xT, reduceLE → xE, reduceToNat → xN
open Go.AL renaming retPost_one → xP, retPost_oneN → xR, ers_at' → xS
set_option linter.unusedVariables false
set_option linter.unusedSimpArgs false
namespace Go.AL
open Go.Proofs
variable {Γ : Glob}
attribute [local irreducible] codeW opsW dopsW
theorem f166 (f : Fm) (hl : f.nodes.length ≤ 1000000) (hc : ∀ n ∈ f.nodes, NdFit n) : PCalls Tryz.prog Γ 166 [fmA f] (fmA f) := fun σ =>
  ACalls.retK (f166o f hl hc fun a σ' hD hG => ⟨fmA f, σ, .agg (.cons (.refl _) (.cons (hG.retP hD).1 .nil)), hD, rfl, rfl⟩)
/-- A formula of the reference as one of the library. -/
theorem f93 (f : Fm) (hl : f.nodes.length ≤ 1000000) (hc : ∀ n ∈ f.nodes, NdFit n) : PCalls Tryz.prog Γ 93 [fmA f] (fmA f) := by
  refine pcalls (ok93 Γ) fun σ => ?_
  simp only [go_sem, xQ, ↓reduceIte, xA, xM, xL, xT, xE, xN, xP, xR, xS, Tryz.f93]
  intro b2 hb2
  simp only [go_sem, xQ, ↓reduceIte, xA, xM, xL, xT, xE, xN, xP, xR, xS]
  intro bo hbo
  obtain ⟨hne, hbo⟩ := un hbo
  have hne' : ¬ b2 = bo := fun e => hne e.symm
  simp only [go_sem, xQ, ↓reduceIte, xA, xM, xL, xT, xE, xN, xP, xR, xS, hne, hne']
  refine callB_use (f166 f hl hc) rfl ?_
  simp only [go_sem, xQ, ↓reduceIte, xA, xM, xL, xT, xE, xN, xP, xR, xS, hne, hne']
  refine SemC.loopK mixed f.nodes.length (fun k ρ σ' ds => ds = [] ∧ (ρ 2 = .v (.pointer (some ⟨b2, 0, none⟩)) ∧ ρ 3 = .v (.pointer (some ⟨bo, 0, none⟩)) ∧ ρ 11 = slN f.nodes ∧ ρ 12 = int f.nodes.length) ∧ ρ 13 = int k ∧ σ' b2 = some (.row [int 0, .v (.slice none 0 0)] 2 1) ∧ Drop σ' σ ∧
    ∃ a, σ' bo = some (.row [int f.vars, a] 2 1) ∧ Grow σ σ' 4 a ((f.nodes.take k).flatMap ndC) k) (by kernel_rfl) ?_ ?_
  · refine ⟨rfl, by simp only [go_sem, xQ, ↓reduceIte, xA, xM, xL, xT, xE, xN, xP, xR, xS], rfl, by simp only [go_sem, xQ, ↓reduceIte, xA, xM, xL, xT, xE, xN, xP, xR, xS, hne, hne'], ?_, _, by simp only [go_sem, xQ, ↓reduceIte, xA, xM, xL, xT, xE, xN, xP, xR, xS], .nil _ _ _⟩
    repeat (first | exact Drop.refl _ | assumption | refine Drop.upd ?_ (by assumption))
  rintro k ρ σ' ds hk ⟨rfl, H, h13, hs2, hD, a, hso, hG⟩
  rcases get_or_end f.nodes k hk with ⟨x, hx, hlt, hd⟩ | hk
  · simp only [go_sem, xQ, ↓reduceIte, xA, xM, xL, xT, xE, xN, xP, xR, xS, H, h13, hlt, ↓nd_part hx]
    intro b hb
    have n2 := nn hb hs2
    have no := nn hb hso
    have n2' : ¬ b = b2 := fun e => n2 e.symm
    have no' : ¬ b = bo := fun e => no e.symm
    simp only [go_sem, xQ, ↓reduceIte, xA, xM, xL, xT, xE, xN, xP, xR, xS, H, h13, hlt, ↓nd_part hx, n2, no, n2', no', hs2, hso]
    refine appB_sl (appT_sl el64 tk216 by216 el64 (by decide) rfl (by decide)) (by repeat (first | exact hD | refine Drop.upd ?_ (hD.free hb))) (m := k) (cs := (f.nodes.take k).flatMap ndC) (by repeat (first | exact hG | refine Grow.updW ?_ (hG.neN hb) _)) rfl rfl (by omega) (fun a' σ2 hD2 hO hG2 => ?_)
    have e2 : σ2 b2 = some (.row [int 0, .v (.slice none 0 0)] 2 1) := by
      rw [hO b2 (hG.neS hs2 (by decide)) (by simp [upd, n2, hs2])]; simp [upd, n2, hs2]
    have eo : σ2 bo = some (.row [int f.vars, a] 2 1) := by
      rw [hO bo (hG.neS hso (by decide)) (by simp [upd, no, hso])]; simp [upd, no, hso]
    have hc2 := hG2.cellsX
    have ho2 := hG2.oneX
    simp only [go_sem, xQ, ↓reduceIte, xA, xM, xL, xT, xE, xN, xP, xR, xS, H, h13, e2, eo, hc2, ho2, hne', hlt]
    refine ⟨by rw [wrap_succ _ (by omega)], hD2.upd hbo, a', by simp only [go_sem, xQ, ↓reduceIte, xA, xM, xL, xT, xE, xN, xP, xR, xS, upd_same], ?_⟩
    rw [take_succ hx, List.flatMap_append]
    have := hG2.updW (hG2.neS eo (by decide)) (some (.row [int f.vars, a'] 2 1))
    simpa [ndC, slI, int] using this
  · subst hk
    have ho := hG.oneX
    rw [List.take_length] at hG
    simp only [go_sem, xQ, ↓reduceIte, xA, xM, xL, xT, xE, xN, xP, xR, xS, H, h13, Nat.lt_irrefl, hs2, hso, hne, ho]
    have hG' := hG.updW (hG.neS hs2 (by decide)) (some (.row [int f.vars, a] 2 1))
    exact ⟨.agg (.cons (.refl _) (.cons (hG'.retP (hD.upd hb2)).1 .nil)), hD.upd hb2⟩
/-- The cases of a formula, if it is right. -/
theorem f179 (hG : Γ 0 = some sortsT) (hG2 : Γ 2 = some [int 0, int 0]) (f : Fm) (hl : f.nodes.length ≤ 1000000) (hc : ∀ n ∈ f.nodes, NdFit n) : PCalls Tryz.prog Γ 179 [fmA f] (.tup [slC (casesR f).1, int (casesR f).2]) := by
  refine pcalls (ok179 Γ) fun σ => ?_
  simp only [go_sem, xQ, ↓reduceIte, xA, xM, xL, xT, xE, xN, xP, xR, xS, Tryz.f179]
  refine callB_use (f47 hG f (by omega) hc) rfl ?_
  simp only [go_sem, xQ, ↓reduceIte, xA, xM, xL, xT, xE, xN, xP, xR, xS]
  by_cases h : checkE f = 0
  · simp only [go_sem, xQ, ↓reduceIte, xA, xM, xL, xT, xE, xN, xP, xR, xS, h]
    refine callB_use (f49 hG hG2 f (by omega) hc) rfl ?_
    simp only [go_sem, xQ, ↓reduceIte, xA, xM, xL, xT, xE, xN, xP, xR, xS]
  · have he : casesR f = ([], checkE f) := if_neg h
    simp only [go_sem, xQ, ↓reduceIte, xA, xM, xL, xT, xE, xN, xP, xR, xS, h]
    rw [he]
    exact ⟨.tup (.cons .nil (.cons (.refl _) .nil)), Drop.refl _⟩
/-- A model of one of the cases. -/
def findL (n : Int) (sp : List Rg) : List (List Tm) → List Int × Bool × Int
  | [] => ([], false, 0)
  | c :: l => if (c.length : Int) = 0 then (sp.map (·.lo), true, 0)
    else if (seekP c (n.toNat + 1) n sp).is = true ∨ ¬ (seekP c (n.toNat + 1) n sp).err = 0 then ((seekP c (n.toNat + 1) n sp).vals, (seekP c (n.toNat + 1) n sp).is, (seekP c (n.toNat + 1) n sp).err)
    else findL n sp l
def findE (f : Fm) (sp : List Rg) (n : Int) : Int := firstE [(casesR f).2, spansE sp f.vars, withinE n 1 200]
/-- The terms of cases are right. -/
theorem cases_tm {f : Fm} (h : checkE f = 0) (hc : (casesR f).2 = 0) : (casesR f).1.length ≤ 64 ∧ ∀ x ∈ (casesR f).1, x.length ≤ 32 ∧ ∀ t ∈ x, TmOk t f.vars.toNat := by
  obtain ⟨hne, hl200, hv0, hv8, hok⟩ := check_ok h
  have hd := hdown hok
  have hpos := List.length_pos_iff.2 hne
  have hroot : rootW f = (((f.nodes.length - 1 : Nat) : Int), false) := by rw [rootW]; congr 1; omega
  have hn : f.nodes[f.nodes.length - 1]? = some f.nodes[f.nodes.length - 1] := List.getElem?_eq_getElem (by omega)
  have hlen := cas_len hd hok f.nodes.length (f.nodes.length - 1) false _ (by omega) hn
  rw [casesR, if_pos h] at hc ⊢
  cases hb : badW f.nodes (rootW f)
  · rw [hb] at hc
    cases hl : larW f.nodes (rootW f)
    · simp only [Bool.false_eq_true, if_false]
      rw [hroot] at hl hb ⊢
      have h1 := (cnt_cas hd hok f.nodes.length (f.nodes.length - 1) false _ (by omega) hn).2 hb
      refine ⟨h1.1, fun x hx => ⟨Nat.le_trans (maxL_mem hx) h1.2.1, fun t ht => ?_⟩⟩
      have h2 := hlen x hx t ht
      rw [larW_eq hd hn, Bool.or_eq_false_iff] at hl
      have hr : larT t = false := by
        cases hr : larT t
        · rfl
        · have := larC_iff.2 ⟨x, hx, t, ht, hr⟩
          rw [this] at hl
          exact absurd hl.1 (by simp)
      rw [larT_eq] at hr
      have hN : numbersE t = 0 := by
        rw [numbers_eq]
        have : inRangeB t = true := by simpa using hr
        rw [this]; rfl
      obtain ⟨q1, q2, q3⟩ := num_bd hN
      exact ⟨by omega, by omega, q1, q2, q3⟩
    · rw [hl] at hc
      simp at hc
  · rw [hb] at hc
    simp at hc
set_option maxHeartbeats 2000000 in
theorem f92 (hG : Γ 0 = some sortsT) (hG2 : Γ 2 = some [int 0, int 0]) (f : Fm) (sp : List Rg) (n : Int) (hl : f.nodes.length ≤ 1000000) (hc : ∀ n ∈ f.nodes, NdFit n) (hsl : Fits sp.length) :
    PCalls Tryz.prog Γ 92 [fmA f, slR sp, int n] (.tup [slI (if findE f sp n = 0 then (findL n sp (casesR f).1).1 else []), .v (.bool (if findE f sp n = 0 then (findL n sp (casesR f).1).2.1 else false)), int (if findE f sp n = 0 then (findL n sp (casesR f).1).2.2 else findE f sp n)]) := by
  have hE : firstE [(casesR f).2, spansE sp f.vars, withinE n 1 200] = findE f sp n := rfl
  refine pcalls (ok92 Γ) fun σ => ?_
  simp only [go_sem, xQ, ↓reduceIte, xA, xM, xL, xT, xE, xN, xP, xR, xS, Tryz.f92]
  refine callB_use (f179 hG hG2 f hl hc) rfl ?_
  simp only [go_sem, xQ, ↓reduceIte, xA, xM, xL, xT, xE, xN, xP, xR, xS]
  refine callB_use (f127 sp f.vars hsl) rfl ?_
  simp only [go_sem, xQ, ↓reduceIte, xA, xM, xL, xT, xE, xN, xP, xR, xS]
  refine callB_use (f124 n 1 200) rfl ?_
  simp only [go_sem, xQ, ↓reduceIte, xA, xM, xL, xT, xE, xN, xP, xR, xS]
  refine callB_use (f120 [(casesR f).2, spansE sp f.vars, withinE n 1 200] (by simp)) rfl ?_
  simp only [go_sem, xQ, ↓reduceIte, xA, xM, xL, xT, xE, xN, xP, xR, xS, hE]
  by_cases h : findE f sp n = 0
  · have h0 := (firstE_zero _).1 h
    have hc0 := h0 (casesR f).2 (by simp)
    have hs0 := h0 (spansE sp f.vars) (by simp)
    have hw0 := h0 (withinE n 1 200) (by simp)
    have hck : checkE f = 0 := by
      by_cases e : checkE f = 0
      · exact e
      · rw [casesR, if_neg e] at hc0
        exact absurd hc0 e
    obtain ⟨hne, hl200, hv0, hv8, hok⟩ := check_ok hck
    obtain ⟨hC1, hC2⟩ := cases_tm hck hc0
    have hn2 : 1 ≤ n ∧ n ≤ 200 := by
      unfold withinE at hw0
      split at hw0
      · cases hw0
      · omega
    have hvv : f.vars = (f.vars.toNat : Int) := by omega
    rw [hvv] at hs0
    obtain ⟨hsp1, hsp2⟩ := spans_ok hs0
    rw [if_pos h, if_pos h, if_pos h]
    simp only [go_sem, xQ, ↓reduceIte, xA, xM, xL, xT, xE, xN, xP, xR, xS, h]
    refine SemC.loopK mixed (casesR f).1.length (fun i ρ σ' ds => ds = [] ∧ (ρ 1 = slR sp ∧ ρ 2 = int n ∧ ρ 34 = slC (casesR f).1 ∧ ρ 35 = int (casesR f).1.length) ∧ ρ 36 = int i ∧ Drop σ' σ ∧ findL n sp (casesR f).1 = findL n sp ((casesR f).1.drop i)) (by kernel_rfl) ?_ ?_
    · exact ⟨rfl, by simp only [go_sem, xQ, ↓reduceIte, xA, xM, xL, xT, xE, xN, xP, xR, xS, slC], rfl, Drop.refl _, rfl⟩
    rintro i ρ σ' ds hi ⟨rfl, H, h36, hD, hz⟩
    rcases get_or_end (casesR f).1 i hi with ⟨c, hcg0, hltc, hdc⟩ | hi
    · have hcg := slC_get hcg0
      obtain ⟨c32, cT⟩ := hC2 c (mem_of_get hcg0)
      rw [hdc, findL] at hz
      by_cases hc00 : (c.length : Int) = 0
      · rw [if_pos hc00] at hz
        simp only [go_sem, xQ, ↓reduceIte, xA, xM, xL, xT, xE, xN, xP, xR, xS, H, h36, hltc, hcg, slC, slT, hc00]
        refine callB_use (f180 sp hsl _ (·.lo) (fun x _ => dcall_of (f181 x) rfl)) rfl ?_
        simp only [go_sem, xQ, ↓reduceIte, xA, xM, xL, xT, xE, xN, xP, xR, xS, H]
        rw [hz]
        exact retP_drop hD rfl
      · rw [if_neg hc00] at hz
        simp only [go_sem, xQ, ↓reduceIte, xA, xM, xL, xT, xE, xN, xP, xR, xS, H, h36, hltc, hcg, slC, slT, hc00]
        intro b hb
        have zb := hD.free hb
        simp only [go_sem, xQ, ↓reduceIte, xA, xM, xL, xT, xE, xN, xP, xR, xS, H, h36, hltc, hcg, slC, slT, hc00]
        refine callB_a (f128 f.vars.toNat (by omega) c (by omega) (fun t ht => (cT t ht).len) (fun t ht => (cT t ht).cs) (n.toNat + 1) n sp _ b _ (by omega) (by omega) (by omega) hsp1 (by simp only [go_sem, xQ, ↓reduceIte, xA, xM, xL, xT, xE, xN, xP, xR, xS, upd_same, slT]) ?_) rfl
        simp only [go_sem, xQ, ↓reduceIte, xA, xM, xL, xT, xE, xN, xP, xR, xS, H, h36]
        cases hI : (seekP c (n.toNat + 1) n sp).is
        · by_cases hEr : (seekP c (n.toNat + 1) n sp).err = 0
          · rw [if_neg (by rw [hI]; simp [hEr])] at hz
            simp only [go_sem, xQ, ↓reduceIte, xA, xM, xL, xT, xE, xN, xP, xR, xS, H, h36, hI, hEr]
            exact ⟨hltc, by rw [wrap_succ _ (by omega)], by repeat (first | exact hD | refine Drop.upd ?_ zb), hz⟩
          · rw [if_pos (.inr hEr)] at hz
            simp only [go_sem, xQ, ↓reduceIte, xA, xM, xL, xT, xE, xN, xP, xR, xS, H, h36, hI, hEr]
            rw [hz]
            exact retP_drop (by repeat (first | exact hD | refine Drop.upd ?_ zb)) (by rw [hI])
        · rw [if_pos (.inl hI)] at hz
          simp only [go_sem, xQ, ↓reduceIte, xA, xM, xL, xT, xE, xN, xP, xR, xS, H, h36, hI]
          rw [hz]
          exact retP_drop (by repeat (first | exact hD | refine Drop.upd ?_ zb)) (by rw [hI])
    · subst hi
      rw [List.drop_length, findL] at hz
      rw [hz]
      simp only [go_sem, xQ, ↓reduceIte, xA, xM, xL, xT, xE, xN, xP, xR, xS, H, h36, Nat.lt_irrefl]
      exact ⟨.tup (.cons .nil (.cons (.refl _) (.cons (.refl _) .nil))), hD⟩
  · rw [if_neg h, if_neg h, if_neg h]
    simp only [go_sem, xQ, ↓reduceIte, xA, xM, xL, xT, xE, xN, xP, xR, xS, h]
    exact ⟨.tup (.cons .nil (.cons (.refl _) (.cons (.refl _) .nil))), Drop.refl _⟩
set_option maxHeartbeats 2000000 in
theorem f94 (m : Nat) (hm8 : m ≤ 8) (C : List (List Tm)) (hC1 : C.length ≤ 64) (hC2 : ∀ x ∈ C, x.length ≤ 32 ∧ ∀ t ∈ x, TmOk t m) (n : Int) (sp : List Rg) (h0 : 1 ≤ n) (h1 : n ≤ 200) (hs : sp.length = m) (hV : Vs sp) :
    PCalls Tryz.prog Γ 94 [slC C, slR sp, int n] (.tup [slI (findL n sp C).1, .v (.bool (findL n sp C).2.1), int (findL n sp C).2.2]) := by
  refine pcalls (ok94 Γ) fun σ => ?_
  simp only [go_sem, xQ, ↓reduceIte, xA, xM, xL, xT, xE, xN, xP, xR, xS, Tryz.f94]
  refine SemC.loopK mixed C.length (fun i ρ σ' ds => ds = [] ∧ (ρ 0 = slC C ∧ ρ 1 = slR sp ∧ ρ 2 = int n) ∧ ρ 9 = int i ∧ Drop σ' σ ∧ findL n sp C = findL n sp (C.drop i)) (by kernel_rfl) ?_ ?_
  · exact ⟨rfl, by simp only [go_sem, xQ, ↓reduceIte, xA, xM, xL, xT, xE, xN, xP, xR, xS, slC], rfl, Drop.refl _, rfl⟩
  rintro i ρ σ' ds hi ⟨rfl, H, h9, hD, hz⟩
  rcases get_or_end C i hi with ⟨c, hcg0, hltc, hdc⟩ | hi
  · have hcg := slC_get hcg0
    obtain ⟨c32, cT⟩ := hC2 c (mem_of_get hcg0)
    rw [hdc, findL] at hz
    by_cases hc00 : (c.length : Int) = 0
    · rw [if_pos hc00] at hz
      simp only [go_sem, xQ, ↓reduceIte, xA, xM, xL, xT, xE, xN, xP, xR, xS, H, h9, hltc, hcg, slC, slT, hc00]
      refine SemC.loopK mixed sp.length (fun k ρ σ' ds => ds = [] ∧ (ρ 1 = slR sp) ∧ ρ 11 = int k ∧ Drop σ' σ ∧ Grow σ σ' 1 (ρ 10) (ints ((sp.take k).map (·.lo))) k) (by kernel_rfl) ?_ ?_
      · exact ⟨rfl, by simp only [go_sem, xQ, ↓reduceIte, xA, xM, xL, xT, xE, xN, xP, xR, xS, H], rfl, hD, .nil _ _ _⟩
      rintro k ρ σ' ds hk ⟨rfl, H, h11, hD, hG⟩
      rcases get_or_end sp k hk with ⟨x, hx, hlt, hd⟩ | hk
      · simp only [go_sem, xQ, ↓reduceIte, xA, xM, xL, xT, xE, xN, xP, xR, xS, H, h11, hlt, ↓rg_part hx, rg_get0 hx]
        refine appB_sl (appT_sl el46 tk3 by3 el46 (by decide) rfl (by decide)) hD hG rfl rfl (by omega) (fun a' σ2 hD2 hO hG2 => ?_)
        simp only [go_sem, xQ, ↓reduceIte, xA, xM, xL, xT, xE, xN, xP, xR, xS, H, h11, hlt]
        refine ⟨by rw [wrap_succ _ (by omega)], hD2, ?_⟩
        rw [take_succ hx]
        simpa [ints, int] using hG2
      · subst hk
        rw [List.take_length] at hG
        simp only [go_sem, xQ, ↓reduceIte, xA, xM, xL, xT, xE, xN, xP, xR, xS, H, h11, Nat.lt_irrefl]
        rw [hz]
        have hr := (hG.retP hD).1
        refine ⟨.tup (.cons ?_ (.cons (.refl _) (.cons (.refl _) .nil))), hD⟩
        have e : slI (sp.map (·.lo)) = .sl (ints (sp.map (·.lo))) sp.length := by simp [slI]
        show Fz _ σ _ (slI (sp.map (·.lo)))
        rw [e]
        exact hr
    · rw [if_neg hc00] at hz
      simp only [go_sem, xQ, ↓reduceIte, xA, xM, xL, xT, xE, xN, xP, xR, xS, H, h9, hltc, hcg, slC, slT, hc00]
      refine callB_use (f37 m hm8 c (by omega) cT n sp (by omega) (by omega) hs hV) rfl ?_
      simp only [go_sem, xQ, ↓reduceIte, xA, xM, xL, xT, xE, xN, xP, xR, xS, H, h9]
      cases hI : (seekP c (n.toNat + 1) n sp).is
      · by_cases hEr : (seekP c (n.toNat + 1) n sp).err = 0
        · rw [if_neg (by rw [hI]; simp [hEr])] at hz
          simp only [go_sem, xQ, ↓reduceIte, xA, xM, xL, xT, xE, xN, xP, xR, xS, H, h9, hI, hEr]
          exact ⟨hltc, by rw [wrap_succ _ (by omega)], hD, hz⟩
        · rw [if_pos (.inr hEr)] at hz
          simp only [go_sem, xQ, ↓reduceIte, xA, xM, xL, xT, xE, xN, xP, xR, xS, H, h9, hI, hEr]
          rw [hz]
          exact retP_drop hD (by rw [hI])
      · rw [if_pos (.inl hI)] at hz
        simp only [go_sem, xQ, ↓reduceIte, xA, xM, xL, xT, xE, xN, xP, xR, xS, H, h9, hI]
        rw [hz]
        exact retP_drop hD (by rw [hI])
  · subst hi
    rw [List.drop_length, findL] at hz
    rw [hz]
    simp only [go_sem, xQ, ↓reduceIte, xA, xM, xL, xT, xE, xN, xP, xR, xS, H, h9, Nat.lt_irrefl]
    exact ⟨.tup (.cons .nil (.cons (.refl _) (.cons (.refl _) .nil))), hD⟩
end Go.AL

/- ProveFinds: the law holds at every formula, all spans and every number. -/
set_option linter.unusedVariables false
set_option linter.unusedSimpArgs false
namespace Go.AL
open Go.Proofs
variable {Γ : Glob}
attribute [local irreducible] codeW opsW dopsW
theorem short_fitF {f : Fm} (h : shortFB f = true) : f.nodes.length ≤ 201 ∧ ∀ n ∈ f.nodes, NdFit n := by
  unfold shortFB at h
  rw [Bool.and_eq_true, Bool.or_eq_true, decide_eq_true_eq, decide_eq_true_eq, List.all_eq_true] at h
  refine ⟨by omega, fun n hn => ?_⟩
  have := h.1 n hn
  simp [shortNdB] at this
  exact ⟨by omega, by omega⟩
theorem findE_bad {f : Fm} {sp : List Rg} {n : Int} (h : ¬ (casesR f).2 = 0) : findE f sp n = (casesR f).2 := by rw [findE, firstE_cons, if_neg h]
theorem findE_good {f : Fm} {sp : List Rg} {n : Int} (h : (casesR f).2 = 0) : findE f sp n = firstE [spansE sp f.vars, withinE n 1 200] := by rw [findE, firstE_cons, if_pos h]
theorem cases_none {f : Fm} (h : ¬ (casesR f).2 = 0) : (casesR f).1 = [] := by
  unfold casesR at h ⊢
  split
  · rename_i hc
    rw [if_pos hc] at h
    split
    · rfl
    · rename_i hb
      rw [if_neg hb] at h
      split
      · rfl
      · rename_i hl
        rw [if_neg hl] at h
        exact absurd rfl h
  · rfl
theorem findL_fit {n : Int} {sp : List Rg} (hs : sp.length ≤ 10) : ∀ C : List (List Tm), Fits (findL n sp C).1.length
  | [] => Nat.zero_le _
  | c :: C => by
    rw [findL]
    split
    · show (sp.map (·.lo)).length ≤ 1000000000000
      rw [List.length_map]; omega
    · split
      · have := seekP_len c (n.toNat + 1) n sp
        show (seekP c (n.toNat + 1) n sp).vals.length ≤ 1000000000000
        omega
      · exact findL_fit hs C
set_option maxHeartbeats 4000000 in
theorem f14 (hG : Γ 0 = some sortsT) (hG1 : Γ 1 = some [int 0, int 0]) (hG2 : Γ 2 = some [int 0, int 0]) (hG3 : Γ 3 = some kindsT) (f : Fm) (sp : List Rg) (n : Int) (hl : f.nodes.length ≤ 9223372036854775807) (hsl : sp.length ≤ 9223372036854775807) : PCalls Tryz.prog Γ 14 [fmA f, slR sp, int n] (.v (.bool true)) := by
  have y5 : (true == false) = false := rfl
  have y6 : (false == true) = false := rfl
  have y7 : (true == true) = true := rfl
  have y8 : (false == false) = true := rfl
  refine pcalls (ok14 Γ) fun σ => ?_
  by_cases s1 : shortFB f = true
  · obtain ⟨hn1, hc1⟩ := short_fitF s1
    by_cases s2 : (10 : Int) < sp.length
    · simp only [go_sem, xQ, ↓reduceIte, xA, xM, xL, xT, xE, xN, xP, xR, xS, Tryz.f14]
      refine callB_use (f39 f hl) rfl ?_
      simp only [go_sem, xQ, ↓reduceIte, xA, xM, xL, xT, xE, xN, xP, xR, xS, s1, s2]
      refine callB_use (f22 hG1 hG3) rfl ?_
      simp only [go_sem, xQ, ↓reduceIte, xA, xM, xL, xT, xE, xN, xP, xR, xS]
    · have hs10 : sp.length ≤ 10 := by omega
      have h92 := f92 (Γ := Γ) hG hG2 f sp n (by omega) hc1 (by omega)
      by_cases c1 : checkE f = 0
      · obtain ⟨hne, hl200, hv0, hv8, hN⟩ := check_ok c1
        simp only [go_sem, xQ, ↓reduceIte, xA, xM, xL, xT, xE, xN, xP, xR, xS, Tryz.f14]
        refine callB_use (f39 f hl) rfl ?_
        simp only [go_sem, xQ, ↓reduceIte, xA, xM, xL, xT, xE, xN, xP, xR, xS, s1, s2]
        refine callB_use (f44 f (by omega) hc1) rfl ?_
        simp only [go_sem, xQ, ↓reduceIte, xA, xM, xL, xT, xE, xN, xP, xR, xS, s1, s2, c1]
        refine callB_use (f48 f (by omega) hne hN) rfl ?_
        simp only [go_sem, xQ, ↓reduceIte, xA, xM, xL, xT, xE, xN, xP, xR, xS, s1, s2, c1]
        cases sm : smallB f
        · simp only [go_sem, xQ, ↓reduceIte, xA, xM, xL, xT, xE, xN, xP, xR, xS, s1, s2, c1, sm]
          refine callB_use (f22 hG1 hG3) rfl ?_
          simp only [go_sem, xQ, ↓reduceIte, xA, xM, xL, xT, xE, xN, xP, xR, xS]
        · have h50 := f50 (Γ := Γ) f (by omega) hc1 hne hN
          rw [← cases_eq c1] at h50
          simp only [go_sem, xQ, ↓reduceIte, xA, xM, xL, xT, xE, xN, xP, xR, xS, s1, s2, c1, sm]
          refine callB_use (f44 f (by omega) hc1) rfl ?_
          simp only [go_sem, xQ, ↓reduceIte, xA, xM, xL, xT, xE, xN, xP, xR, xS, c1]
          refine callB_use (h50) rfl ?_
          simp only [go_sem, xQ, ↓reduceIte, xA, xM, xL, xT, xE, xN, xP, xR, xS, c1]
          by_cases l8 : (8 : Int) < (casesR f).1.length
          · simp only [go_sem, xQ, ↓reduceIte, xA, xM, xL, xT, xE, xN, xP, xR, xS, l8]
            refine callB_use (f22 hG1 hG3) rfl ?_
            simp only [go_sem, xQ, ↓reduceIte, xA, xM, xL, xT, xE, xN, xP, xR, xS]
          · simp only [go_sem, xQ, ↓reduceIte, xA, xM, xL, xT, xE, xN, xP, xR, xS, l8]
            refine callB_use (f93 f (by omega) hc1) rfl ?_
            simp only [go_sem, xQ, ↓reduceIte, xA, xM, xL, xT, xE, xN, xP, xR, xS]
            refine callB_use (f32 sp (by omega)) rfl ?_
            simp only [go_sem, xQ, ↓reduceIte, xA, xM, xL, xT, xE, xN, xP, xR, xS]
            by_cases e0 : (casesR f).2 = 0
            · have hE := findE_good (sp := sp) (n := n) e0
              rw [hE] at h92
              refine callB_use (h92) rfl ?_
              simp only [go_sem, xQ, ↓reduceIte, xA, xM, xL, xT, xE, xN, xP, xR, xS, e0]
              refine callB_use (f34 sp f.vars (by omega)) rfl ?_
              simp only [go_sem, xQ, ↓reduceIte, xA, xM, xL, xT, xE, xN, xP, xR, xS]
              refine callB_use (f36 n) rfl ?_
              simp only [go_sem, xQ, ↓reduceIte, xA, xM, xL, xT, xE, xN, xP, xR, xS]
              refine callB_use (f33 [spansE sp f.vars, withinE n 1 200] (by simp)) rfl ?_
              simp only [go_sem, xQ, ↓reduceIte, xA, xM, xL, xT, xE, xN, xP, xR, xS]
              by_cases e1 : firstE [spansE sp f.vars, withinE n 1 200] = 0
              · have q0 := (firstE_zero _).1 e1
                have hs0 := q0 (spansE sp f.vars) (by simp)
                have hw0 := q0 (withinE n 1 200) (by simp)
                have hn2 : 1 ≤ n ∧ n ≤ 200 := by
                  unfold withinE at hw0
                  split at hw0
                  · cases hw0
                  · omega
                have hvv : f.vars = (f.vars.toNat : Int) := by omega
                rw [hvv] at hs0
                obtain ⟨hC1, hC2⟩ := cases_tm c1 e0
                simp only [go_sem, xQ, ↓reduceIte, xA, xM, xL, xT, xE, xN, xP, xR, xS, e1]
                refine callB_use (f94 f.vars.toNat (by omega) (casesR f).1 hC1 hC2 n sp (by omega) (by omega) (spans_ok hs0).1 (vs_of hs0)) rfl ?_
                simp only [go_sem, xQ, ↓reduceIte, xA, xM, xL, xT, xE, xN, xP, xR, xS, e1]
                refine callB_use (f38 _ _ (findL_fit hs10 (casesR f).1)) rfl ?_
                simp only [go_sem, xQ, ↓reduceIte, xA, xM, xL, xT, xE, xN, xP, xR, xS, beq_self_eq_true, eq_self_iff_true, decide_true]
                refine callB_use (f22 hG1 hG3) rfl ?_
                simp only [go_sem, xQ, ↓reduceIte, xA, xM, xL, xT, xE, xN, xP, xR, xS]
              · simp only [go_sem, xQ, ↓reduceIte, xA, xM, xL, xT, xE, xN, xP, xR, xS, e1]
                refine callB_fz (f38 [] [] (by simp)) (.cons (.refl _) (.cons .nil .nil)) ?_
                simp only [go_sem, xQ, ↓reduceIte, xA, xM, xL, xT, xE, xN, xP, xR, xS, e1, beq_self_eq_true, eq_self_iff_true, decide_true]
                refine callB_use (f22 hG1 hG3) rfl ?_
                simp only [go_sem, xQ, ↓reduceIte, xA, xM, xL, xT, xE, xN, xP, xR, xS]
            · have hE := findE_bad (sp := sp) (n := n) e0
              have hC := cases_none e0
              rw [hE] at h92
              refine callB_use (h92) rfl ?_
              simp only [go_sem, xQ, ↓reduceIte, xA, xM, xL, xT, xE, xN, xP, xR, xS, e0]
              refine callB_fz (f38 [] [] (by simp)) (.cons (.refl _) (.cons .nil .nil)) ?_
              simp only [go_sem, xQ, ↓reduceIte, xA, xM, xL, xT, xE, xN, xP, xR, xS, e0, beq_self_eq_true, eq_self_iff_true, decide_true]
              refine callB_use (f22 hG1 hG3) rfl ?_
              simp only [go_sem, xQ, ↓reduceIte, xA, xM, xL, xT, xE, xN, xP, xR, xS]
      · have he : casesR f = ([], checkE f) := if_neg c1
        have e0 : ¬ (casesR f).2 = 0 := by rw [he]; exact c1
        have hE := findE_bad (sp := sp) (n := n) e0
        rw [hE, he] at h92
        simp only [go_sem, xQ, ↓reduceIte, xA, xM, xL, xT, xE, xN, xP, xR, xS, Tryz.f14]
        refine callB_use (f39 f hl) rfl ?_
        simp only [go_sem, xQ, ↓reduceIte, xA, xM, xL, xT, xE, xN, xP, xR, xS, s1, s2]
        refine callB_use (f44 f (by omega) hc1) rfl ?_
        simp only [go_sem, xQ, ↓reduceIte, xA, xM, xL, xT, xE, xN, xP, xR, xS, s1, s2, c1]
        refine callB_use (f44 f (by omega) hc1) rfl ?_
        simp only [go_sem, xQ, ↓reduceIte, xA, xM, xL, xT, xE, xN, xP, xR, xS, s1, s2, c1]
        refine callB_use (f93 f (by omega) hc1) rfl ?_
        simp only [go_sem, xQ, ↓reduceIte, xA, xM, xL, xT, xE, xN, xP, xR, xS, c1]
        refine callB_use (f32 sp (by omega)) rfl ?_
        simp only [go_sem, xQ, ↓reduceIte, xA, xM, xL, xT, xE, xN, xP, xR, xS, c1]
        refine callB_use (h92) rfl ?_
        simp only [go_sem, xQ, ↓reduceIte, xA, xM, xL, xT, xE, xN, xP, xR, xS, c1]
        refine callB_fz (f38 [] [] (by simp)) (.cons (.refl _) (.cons .nil .nil)) ?_
        simp only [go_sem, xQ, ↓reduceIte, xA, xM, xL, xT, xE, xN, xP, xR, xS, c1, beq_self_eq_true, eq_self_iff_true, decide_true]
        refine callB_use (f22 hG1 hG3) rfl ?_
        simp only [go_sem, xQ, ↓reduceIte, xA, xM, xL, xT, xE, xN, xP, xR, xS]
  · rw [Bool.not_eq_true] at s1
    simp only [go_sem, xQ, ↓reduceIte, xA, xM, xL, xT, xE, xN, xP, xR, xS, Tryz.f14]
    refine callB_use (f39 f hl) rfl ?_
    simp only [go_sem, xQ, ↓reduceIte, xA, xM, xL, xT, xE, xN, xP, xR, xS, s1]
    refine callB_use (f22 hG1 hG3) rfl ?_
    simp only [go_sem, xQ, ↓reduceIte, xA, xM, xL, xT, xE, xN, xP, xR, xS]
end Go.AL
