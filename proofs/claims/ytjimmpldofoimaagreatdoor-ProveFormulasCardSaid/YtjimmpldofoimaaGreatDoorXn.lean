/- Find of the library and of the reference: a model of one of the cases. -/
import Derived.Test.YtjimmpldofoimaaGreatDoorLb
import Derived.Test.YtjimmpldofoimaaGreatDoorWd
import Derived.Test.YtjimmpldofoimaaGreatDoorWh
import Derived.Test.YtjimmpldofoimaaGreatDoorWk
import Derived.Test.YtjimmpldofoimaaGreatDoorWl
import Derived.Test.YtjimmpldofoimaaGreatDoorXm
open Nat renaming reduceEqDiff → xQ, reduceAdd → xA, reduceMul → xM, reduceLeDiff → xL
open Int renaming reduceLT → xT, reduceLE → xE, reduceToNat → xN
open Go.AL renaming retPost_one → xP, retPost_oneN → xR, ers_at' → xS
set_option linter.unusedVariables false
set_option linter.unusedSimpArgs false
namespace Go.AL
open Go.Proofs
variable {Γ : Glob}
attribute [local irreducible] codeW opsW dopsW
theorem f166 (f : Fm) (hl : f.nodes.length ≤ 1000000) (hc : ∀ n ∈ f.nodes, NdFit n) : PCalls Tryz.prog Γ 166 [fmA f] (fmA f) := fun σ =>
 ACalls.retK (f166o f hl hc fun a σ' hD hG => ⟨fmA f, σ, .agg (.cons (.refl _) (.cons (hG.retP hD).1 .nil)), hD, rfl, rfl⟩)
/-- A formula of the reference as one of the library. -/
theorem f93 (f : Fm) (hl : f.nodes.length ≤ 1000000) (hc : ∀ n ∈ f.nodes, NdFit n) : PCalls Tryz.prog Γ 93 [fmA f] (fmA f) := by
 refine pcalls (ok93 Γ) fun σ => ?_
 simp only [go_sem, xQ, ↓reduceIte, xA, xM, xL, xT, xE, xN, xP, xR, xS, Tryz.f93]
 intro b2 hb2
 simp only [go_sem, xQ, ↓reduceIte, xA, xM, xL, xT, xE, xN, xP, xR, xS]
 intro bo hbo
 obtain ⟨hne, hbo⟩ := un hbo
 have hne' : ¬ b2 = bo := fun e => hne e.symm
 simp only [go_sem, xQ, ↓reduceIte, xA, xM, xL, xT, xE, xN, xP, xR, xS, hne, hne']
 refine callB_use (f166 f hl hc) rfl ?_
 simp only [go_sem, xQ, ↓reduceIte, xA, xM, xL, xT, xE, xN, xP, xR, xS, hne, hne']
 refine SemC.loopK mixed f.nodes.length (fun k ρ σ' ds => ds = [] ∧ (ρ 2 = .v (.pointer (some ⟨b2, 0, none⟩)) ∧ ρ 3 = .v (.pointer (some ⟨bo, 0, none⟩)) ∧ ρ 11 = slN f.nodes ∧ ρ 12 = int f.nodes.length) ∧ ρ 13 = int k ∧ σ' b2 = some (.row [int 0, .v (.slice none 0 0)] 2 1) ∧ Drop σ' σ ∧
  ∃ a, σ' bo = some (.row [int f.vars, a] 2 1) ∧ Grow σ σ' 4 a ((f.nodes.take k).flatMap ndC) k) (by kernel_rfl) ?_ ?_
 ·refine ⟨rfl, by simp only [go_sem, xQ, ↓reduceIte, xA, xM, xL, xT, xE, xN, xP, xR, xS], rfl, by simp only [go_sem, xQ, ↓reduceIte, xA, xM, xL, xT, xE, xN, xP, xR, xS, hne, hne'], ?_, _, by simp only [go_sem, xQ, ↓reduceIte, xA, xM, xL, xT, xE, xN, xP, xR, xS], .nil _ _ _⟩
  repeat (first | exact Drop.refl _ | assumption | refine Drop.upd ?_ (by assumption))
 rintro k ρ σ' ds hk ⟨rfl, H, h13, hs2, hD, a, hso, hG⟩
 rcases get_or_end f.nodes k hk with ⟨x, hx, hlt, hd⟩ | hk
 ·simp only [go_sem, xQ, ↓reduceIte, xA, xM, xL, xT, xE, xN, xP, xR, xS, H, h13, hlt, ↓nd_part hx]
  intro b hb
  have n2 := nn hb hs2
  have no := nn hb hso
  have n2' : ¬ b = b2 := fun e => n2 e.symm
  have no' : ¬ b = bo := fun e => no e.symm
  simp only [go_sem, xQ, ↓reduceIte, xA, xM, xL, xT, xE, xN, xP, xR, xS, H, h13, hlt, ↓nd_part hx, n2, no, n2', no', hs2, hso]
  refine appB_sl (appT_sl el64 tk216 by216 el64 (by decide) rfl (by decide)) (by repeat (first | exact hD | refine Drop.upd ?_ (hD.free hb))) (m := k) (cs := (f.nodes.take k).flatMap ndC) (by repeat (first | exact hG | refine Grow.updW ?_ (hG.neN hb) _)) rfl rfl (by omega) (fun a' σ2 hD2 hO hG2 => ?_)
  have e2 : σ2 b2 = some (.row [int 0, .v (.slice none 0 0)] 2 1) := by
   rw [hO b2 (hG.neS hs2 (by decide)) (by simp [upd, n2, hs2])]; simp [upd, n2, hs2]
  have eo : σ2 bo = some (.row [int f.vars, a] 2 1) := by
   rw [hO bo (hG.neS hso (by decide)) (by simp [upd, no, hso])]; simp [upd, no, hso]
  have hc2 := hG2.cellsX
  have ho2 := hG2.oneX
  simp only [go_sem, xQ, ↓reduceIte, xA, xM, xL, xT, xE, xN, xP, xR, xS, H, h13, e2, eo, hc2, ho2, hne', hlt]
  refine ⟨by rw [wrap_succ _ (by omega)], hD2.upd hbo, a', by simp only [go_sem, xQ, ↓reduceIte, xA, xM, xL, xT, xE, xN, xP, xR, xS, upd_same], ?_⟩
  rw [take_succ hx, List.flatMap_append]
  have := hG2.updW (hG2.neS eo (by decide)) (some (.row [int f.vars, a'] 2 1))
  simpa [ndC, slI, int] using this
 ·subst hk
  have ho := hG.oneX
  rw [List.take_length] at hG
  simp only [go_sem, xQ, ↓reduceIte, xA, xM, xL, xT, xE, xN, xP, xR, xS, H, h13, Nat.lt_irrefl, hs2, hso, hne, ho]
  have hG' := hG.updW (hG.neS hs2 (by decide)) (some (.row [int f.vars, a] 2 1))
  exact ⟨.agg (.cons (.refl _) (.cons (hG'.retP (hD.upd hb2)).1 .nil)), hD.upd hb2⟩
/-- The cases of a formula, if it is right. -/
theorem f179 (hG : Γ 0 = some sortsT) (hG2 : Γ 2 = some [int 0, int 0]) (f : Fm) (hl : f.nodes.length ≤ 1000000) (hc : ∀ n ∈ f.nodes, NdFit n) : PCalls Tryz.prog Γ 179 [fmA f] (.tup [slC (casesR f).1, int (casesR f).2]) := by
 refine pcalls (ok179 Γ) fun σ => ?_
 simp only [go_sem, xQ, ↓reduceIte, xA, xM, xL, xT, xE, xN, xP, xR, xS, Tryz.f179]
 refine callB_use (f47 hG f (by omega) hc) rfl ?_
 simp only [go_sem, xQ, ↓reduceIte, xA, xM, xL, xT, xE, xN, xP, xR, xS]
 by_cases h : checkE f = 0
 ·simp only [go_sem, xQ, ↓reduceIte, xA, xM, xL, xT, xE, xN, xP, xR, xS, h]
  refine callB_use (f49 hG hG2 f (by omega) hc) rfl ?_
  simp only [go_sem, xQ, ↓reduceIte, xA, xM, xL, xT, xE, xN, xP, xR, xS]
 ·have he : casesR f = ([], checkE f) := if_neg h
  simp only [go_sem, xQ, ↓reduceIte, xA, xM, xL, xT, xE, xN, xP, xR, xS, h]
  rw [he]
  exact ⟨.tup (.cons .nil (.cons (.refl _) .nil)), Drop.refl _⟩
/-- The terms of cases are right. -/
theorem cases_tm {f : Fm} (h : checkE f = 0) (hc : (casesR f).2 = 0) : (casesR f).1.length ≤ 64 ∧ ∀ x ∈ (casesR f).1, x.length ≤ 32 ∧ ∀ t ∈ x, TmOk t f.vars.toNat := by
 obtain ⟨hne, hl200, hv0, hv8, hok⟩ := check_ok h
 have hd := hdown hok
 have hpos := List.length_pos_iff.2 hne
 have hroot : rootW f = (((f.nodes.length - 1 : Nat) : Int), false) := by rw [rootW]; congr 1; omega
 have hn : f.nodes[f.nodes.length - 1]? = some f.nodes[f.nodes.length - 1] := List.getElem?_eq_getElem (by omega)
 have hlen := cas_len hd hok f.nodes.length (f.nodes.length - 1) false _ (by omega) hn
 rw [casesR, if_pos h] at hc ⊢
 cases hb : badW f.nodes (rootW f)
 ·rw [hb] at hc
  cases hl : larW f.nodes (rootW f)
  ·simp only [Bool.false_eq_true, if_false]
   rw [hroot] at hl hb ⊢
   have h1 := (cnt_cas hd hok f.nodes.length (f.nodes.length - 1) false _ (by omega) hn).2 hb
   refine ⟨h1.1, fun x hx => ⟨Nat.le_trans (maxL_mem hx) h1.2.1, fun t ht => ?_⟩⟩
   have h2 := hlen x hx t ht
   rw [larW_eq hd hn, Bool.or_eq_false_iff] at hl
   have hr : larT t = false := by
    cases hr : larT t
    ·rfl
    ·have := larC_iff.2 ⟨x, hx, t, ht, hr⟩
     rw [this] at hl
     exact absurd hl.1 (by simp)
   rw [larT_eq] at hr
   have hN : numbersE t = 0 := by
    rw [numbers_eq]
    have : inRangeB t = true := by simpa using hr
    rw [this]; rfl
   obtain ⟨q1, q2, q3⟩ := num_bd hN
   exact ⟨by omega, by omega, q1, q2, q3⟩
  ·rw [hl] at hc
   simp at hc
 ·rw [hb] at hc
  simp at hc
end Go.AL

/- CheckFormula and Proved, of the library and of the reference. -/
set_option linter.unusedVariables false
set_option linter.unusedSimpArgs false
namespace Go.AL
open Go.Proofs
variable {Γ : Glob}
attribute [local irreducible] codeW opsW dopsW
def prCs (p : List St) : List AV := [slS p]
attribute [go_sem] prCs
def slP (l : List (List St)) : AV := .sl (l.flatMap prCs) l.length
theorem prCs_len (p : List St) : (prCs p).length = 1 := rfl
theorem pr_part {l : List (List St)} {k : Nat} {t : List St} (h : l[k]? = some t) (z : List AV) : TK.part ⟨true, 1, z⟩ (l.flatMap prCs) (k * 1) = some (prA t) := part_rows (k := ⟨true, 1, z⟩) rfl prCs_len h
theorem pr_part1 {l : List (List St)} {k : Nat} {t : List St} (h : l[k]? = some t) (z : List AV) : TK.part ⟨true, 1, z⟩ (l.flatMap prCs) k = some (prA t) := by
 have := pr_part h z
 rwa [Nat.mul_one] at this
theorem pr_get {l : List (List St)} {k : Nat} {t : List St} (h : l[k]? = some t) : (l.flatMap prCs)[k]? = some (slS t) := by
 have := rows_get (j := 0) prCs_len h (by decide)
 simpa [prCs] using this
def FitP (p : List St) : Prop := Fits p.length ∧ ∀ s ∈ p, Fits s.factors.length
theorem f99 (l : List (List St)) (hl : Fits l.length) (hc : ∀ p ∈ l, FitP p) : PCalls Tryz.prog Γ 99 [slP l] (slP l) := by
 refine pcalls (ok99 Γ) fun σ => ?_
 simp only [go_sem, xQ, ↓reduceIte, xA, xM, xL, xT, xE, xN, xP, xR, xS, Tryz.f99, slP]
 refine SemC.loopK mixed l.length (fun k ρ σ' ds => Drop σ' σ ∧ ds = [] ∧ ρ 6 = slP l ∧ ρ 7 = int l.length ∧ ρ 8 = int k ∧ Grow σ σ' 1 (ρ 3) ((l.take k).flatMap prCs) k) (by kernel_rfl) ⟨.refl _, rfl, by simp only [go_sem, xQ, ↓reduceIte, xA, xM, xL, xT, xE, xN, xP, xR, xS, slP], rfl, rfl, .nil _ _ _⟩ ?_
 rintro k ρ σ' ds hk ⟨hD, rfl, h6, h7, h8, hG⟩
 rcases get_or_end l k hk with ⟨x, hx, hlt, hd⟩ | hk
 ·obtain ⟨hx1, hx2⟩ := hc x (mem_of_get hx)
  obtain ⟨a, ha⟩ : ∃ a, ρ 3 = a := ⟨_, rfl⟩
  rw [ha] at hG
  simp only [go_sem, xQ, ↓reduceIte, xA, xM, xL, xT, xE, xN, xP, xR, xS, h6, h7, h8, hlt, slP, ↓pr_part hx, ↓pr_part1 hx, pr_get hx]
  intro b hb
  simp only [go_sem, xQ, ↓reduceIte, xA, xM, xL, xT, xE, xN, xP, xR, xS, h6, h7, h8, hlt, slP, ↓pr_part hx, ↓pr_part1 hx, pr_get hx, ha]
  refine callB_use (f25 x hx1 hx2) rfl ?_
  simp only [go_sem, xQ, ↓reduceIte, xA, xM, xL, xT, xE, xN, xP, xR, xS, h6, h7, h8, ha]
  refine appB_sl (appT_sl el147 tk36 by36 el147 (by decide) rfl (by decide)) (by repeat (first | exact hD | refine Drop.upd ?_ (hD.free hb))) (m := k) (cs := (l.take k).flatMap prCs) (by repeat (first | exact hG | refine Grow.updW ?_ (hG.neN hb) _)) rfl rfl (by omega) (fun a' σ2 hD2 hO hG2 => ?_)
  simp only [go_sem, xQ, ↓reduceIte, xA, xM, xL, xT, xE, xN, xP, xR, xS, h6, h7, h8, hlt, slP]
  refine ⟨hD2, by rw [wrap_succ _ (by omega)], ?_⟩
  rw [take_succ hx, List.flatMap_append]
  simpa [prCs, slS] using hG2
 ·subst hk
  rw [List.take_length] at hG
  simp only [go_sem, xQ, ↓reduceIte, xA, xM, xL, xT, xE, xN, xP, xR, xS, h6, h7, h8, Nat.lt_irrefl, slP]
  exact hG.retP hD
/-! ### Proofs of all cases -/
def cfE (f : Fm) (ps : List (List St)) : Int := firstE [(casesR f).2, whenE (!decide ((ps.length : Int) = (casesR f).1.length)) 2]
def cfL : List (List Tm) → List (List St) → Nat → Int × Int
 | c :: C, p :: P, i => if (checkP c p).2 = 0 then cfL C P (i + 1) else ((i : Int), (checkP c p).2)
 | _, _, _ => (0, 0)
def cfR (f : Fm) (ps : List (List St)) : Int × Int := if cfE f ps = 0 then cfL (casesR f).1 ps 0 else (0, cfE f ps)
set_option maxHeartbeats 2000000 in
theorem f98 (hG : Γ 0 = some sortsT) (hG1 : Γ 1 = some [int 0, int 0]) (hG2 : Γ 2 = some [int 0, int 0]) (f : Fm) (ps : List (List St)) (hl : f.nodes.length ≤ 1000000) (hc : ∀ n ∈ f.nodes, NdFit n) (hp : Fits ps.length) (hpc : ∀ p ∈ ps, FitP p) :
  PCalls Tryz.prog Γ 98 [fmA f, slP ps] (.tup [int (cfR f ps).1, int (cfR f ps).2]) := by
 have hE : firstE [(casesR f).2, whenE (!decide ((ps.length : Int) = (casesR f).1.length)) 2] = cfE f ps := rfl
 refine pcalls (ok98 Γ) fun σ => ?_
 simp only [go_sem, xQ, ↓reduceIte, xA, xM, xL, xT, xE, xN, xP, xR, xS, Tryz.f98]
 refine callB_use (f179 hG hG2 f hl hc) rfl ?_
 simp only [go_sem, xQ, ↓reduceIte, xA, xM, xL, xT, xE, xN, xP, xR, xS, slP, slC]
 refine callB_use (f121 _ _) rfl ?_
 simp only [go_sem, xQ, ↓reduceIte, xA, xM, xL, xT, xE, xN, xP, xR, xS]
 refine callB_use (f120 [(casesR f).2, whenE (!decide ((ps.length : Int) = (casesR f).1.length)) 2] (by simp)) rfl ?_
 simp only [go_sem, xQ, ↓reduceIte, xA, xM, xL, xT, xE, xN, xP, xR, xS, hE]
 by_cases h : cfE f ps = 0
 ·have h0 := (firstE_zero _).1 h
  have hc0 := h0 (casesR f).2 (by simp)
  have hw := (whenE_zero (by decide)).1 (h0 (whenE (!decide ((ps.length : Int) = (casesR f).1.length)) 2) (by simp))
  have hlen : ps.length = (casesR f).1.length := by
   simp at hw
   omega
  have hck : checkE f = 0 := by
   by_cases e : checkE f = 0
   ·exact e
   ·rw [casesR, if_neg e] at hc0
    exact absurd hc0 e
  obtain ⟨hC1, hC2⟩ := cases_tm hck hc0
  rw [cfR, if_pos h]
  simp only [go_sem, xQ, ↓reduceIte, xA, xM, xL, xT, xE, xN, xP, xR, xS, h]
  refine SemC.loopK mixed (casesR f).1.length (fun i ρ σ' ds => ds = [] ∧ (ρ 1 = slP ps ∧ ρ 29 = slC (casesR f).1 ∧ ρ 30 = int (casesR f).1.length) ∧ ρ 31 = int i ∧ Drop σ' σ ∧ cfL (casesR f).1 ps 0 = cfL ((casesR f).1.drop i) (ps.drop i) i) (by kernel_rfl) ?_ ?_
  ·exact ⟨rfl, by simp only [go_sem, xQ, ↓reduceIte, xA, xM, xL, xT, xE, xN, xP, xR, xS, slC, slP], rfl, Drop.refl _, rfl⟩
  rintro i ρ σ' ds hi ⟨rfl, H, h31, hD, hz⟩
  rcases get_or_end (casesR f).1 i hi with ⟨c, hcg0, hltc, hdc⟩ | hi
  ·obtain ⟨p, hp0⟩ : ∃ p, ps[i]? = some p := ⟨ps[i]'(by omega), List.getElem?_eq_getElem _⟩
   have hltp := lt_of_getElem? hp0
   have hcg := slC_get hcg0
   obtain ⟨c32, cT⟩ := hC2 c (mem_of_get hcg0)
   obtain ⟨p1, p2⟩ := hpc p (mem_of_get hp0)
   rw [hdc, drop_of_get hp0, cfL] at hz
   simp only [go_sem, xQ, ↓reduceIte, xA, xM, xL, xT, xE, xN, xP, xR, xS, H, h31, hltc, hcg, hltp, slC, slP, ↓pr_part hp0, ↓pr_part1 hp0, pr_get hp0]
   refine callB_use (f23 c p (by omega) (fun t ht => by have := (cT t ht).len; have := (cT t ht).le; omega) p1 p2 hG1) rfl ?_
   simp only [go_sem, xQ, ↓reduceIte, xA, xM, xL, xT, xE, xN, xP, xR, xS, H, h31]
   by_cases he : (checkP c p).2 = 0
   ·rw [if_pos he] at hz
    simp only [go_sem, xQ, ↓reduceIte, xA, xM, xL, xT, xE, xN, xP, xR, xS, H, h31, he]
    exact ⟨hltc, by rw [wrap_succ _ (by omega)], hD, hz⟩
   ·rw [if_neg he] at hz
    simp only [go_sem, xQ, ↓reduceIte, xA, xM, xL, xT, xE, xN, xP, xR, xS, H, h31, he]
    rw [hz]
    exact retP_drop hD rfl
  ·subst hi
   rw [List.drop_length] at hz
   have hz2 : cfL (casesR f).1 ps 0 = (0, 0) := by rw [hz]; cases ps.drop (casesR f).1.length <;> rfl
   rw [hz2]
   simp only [go_sem, xQ, ↓reduceIte, xA, xM, xL, xT, xE, xN, xP, xR, xS, H, h31, Nat.lt_irrefl]
   exact retP_drop hD rfl
 ·rw [cfR, if_neg h]
  simp only [go_sem, xQ, ↓reduceIte, xA, xM, xL, xT, xE, xN, xP, xR, xS, h]
theorem cfE_bad {f : Fm} {ps : List (List St)} (h : ¬ (casesR f).2 = 0) : cfR f ps = (0, (casesR f).2) := by
 have e : cfE f ps = (casesR f).2 := by rw [cfE, firstE_cons, if_neg h]
 rw [cfR, e, if_neg h]
theorem cfE_len {f : Fm} {ps : List (List St)} (h : (casesR f).2 = 0) : cfE f ps = if (ps.length : Int) = (casesR f).1.length then 0 else 2 := by
 rw [cfE, firstE_cons, if_pos h, firstE_cons, firstE_nil, whenE]
 by_cases e : (ps.length : Int) = (casesR f).1.length <;> simp [e]
set_option maxHeartbeats 2000000 in
theorem f100 (f : Fm) (hck : checkE f = 0) (ps : List (List St)) (hc : ∀ n ∈ f.nodes, NdFit n) (hp : Fits ps.length) (hpc : ∀ p ∈ ps, FitP p) :
  PCalls Tryz.prog Γ 100 [fmA f, slP ps] (.tup [int (cfR f ps).1, int (cfR f ps).2]) := by
 obtain ⟨hne, hl200, hv0, hv8, hN⟩ := check_ok hck
 have h50 := f50 (Γ := Γ) f (by omega) hc hne hN
 rw [← cases_eq hck] at h50
 refine pcalls (ok100 Γ) fun σ => ?_
 simp only [go_sem, xQ, ↓reduceIte, xA, xM, xL, xT, xE, xN, xP, xR, xS, Tryz.f100]
 refine callB_use (h50) rfl ?_
 simp only [go_sem, xQ, ↓reduceIte, xA, xM, xL, xT, xE, xN, xP, xR, xS, slP, slC]
 by_cases hc0 : (casesR f).2 = 0
 ·obtain ⟨hC1, hC2⟩ := cases_tm hck hc0
  have hE := cfE_len (ps := ps) hc0
  by_cases hl : (ps.length : Int) = (casesR f).1.length
  ·rw [if_pos hl] at hE
   rw [cfR, if_pos hE]
   have hlen : ps.length = (casesR f).1.length := by omega
   have hT := eq_true hl
   simp only [go_sem, xQ, ↓reduceIte, xA, xM, xL, xT, xE, xN, xP, xR, xS, hc0, hT, slP]
   refine SemC.loopK mixed (casesR f).1.length (fun i ρ σ' ds => ds = [] ∧ (ρ 1 = slP ps ∧ ρ 6 = slC (casesR f).1) ∧ ρ 8 = int i ∧ Drop σ' σ ∧ cfL (casesR f).1 ps 0 = cfL ((casesR f).1.drop i) (ps.drop i) i) (by kernel_rfl) ?_ ?_
   ·exact ⟨rfl, by simp only [go_sem, xQ, ↓reduceIte, xA, xM, xL, xT, xE, xN, xP, xR, xS, slC, slP], rfl, Drop.refl _, rfl⟩
   rintro i ρ σ' ds hi ⟨rfl, H, h8, hD, hz⟩
   rcases get_or_end (casesR f).1 i hi with ⟨c, hcg0, hltc, hdc⟩ | hi
   ·obtain ⟨p, hp0⟩ : ∃ p, ps[i]? = some p := ⟨ps[i]'(by omega), List.getElem?_eq_getElem _⟩
    have hltp := lt_of_getElem? hp0
    have hcg := slC_get hcg0
    obtain ⟨c32, cT⟩ := hC2 c (mem_of_get hcg0)
    obtain ⟨p1, p2⟩ := hpc p (mem_of_get hp0)
    rw [hdc, drop_of_get hp0, cfL] at hz
    have h26 := f26 (Γ := Γ) c p (by omega) (fun t ht => by have := (cT t ht).len; have := (cT t ht).le; omega) p1 p2
    rw [← check_eq] at h26
    simp only [go_sem, xQ, ↓reduceIte, xA, xM, xL, xT, xE, xN, xP, xR, xS, H, h8, hltc, hcg, hltp, slC, slP, ↓pr_part hp0, ↓pr_part1 hp0, pr_get hp0]
    refine callB_use (h26) rfl ?_
    simp only [go_sem, xQ, ↓reduceIte, xA, xM, xL, xT, xE, xN, xP, xR, xS, H, h8]
    by_cases he : (checkP c p).2 = 0
    ·rw [if_pos he] at hz
     simp only [go_sem, xQ, ↓reduceIte, xA, xM, xL, xT, xE, xN, xP, xR, xS, H, h8, he]
     exact ⟨hltc, by rw [wrap_succ _ (by omega)], hD, hz⟩
    ·rw [if_neg he] at hz
     simp only [go_sem, xQ, ↓reduceIte, xA, xM, xL, xT, xE, xN, xP, xR, xS, H, h8, he]
     rw [hz]
     exact retP_drop hD rfl
   ·subst hi
    rw [List.drop_length] at hz
    have hz2 : cfL (casesR f).1 ps 0 = (0, 0) := by rw [hz]; cases ps.drop (casesR f).1.length <;> rfl
    rw [hz2]
    simp only [go_sem, xQ, ↓reduceIte, xA, xM, xL, xT, xE, xN, xP, xR, xS, H, h8, slC, Nat.lt_irrefl]
    exact retP_drop hD rfl
  ·rw [if_neg hl] at hE
   rw [cfR, hE, if_neg (by decide)]
   simp only [go_sem, xQ, ↓reduceIte, xA, xM, xL, xT, xE, xN, xP, xR, xS, hc0, hl, slP, show ((2 : Int) = 0) = False from eq_false (by decide)]
 ·rw [cfE_bad hc0]
  simp only [go_sem, xQ, ↓reduceIte, xA, xM, xL, xT, xE, xN, xP, xR, xS, hc0]
/-! ### Proofs by pairs -/
def pvL : List (List Tm) → List (List St) → Option (List (List St))
 | [], acc => some acc
 | c :: C, acc => if (pairP c).2 = true then pvL C (acc ++ [(pairP c).1]) else none
def pvR (C : List (List Tm)) : List (List St) × Int := match pvL C [] with
 | some l => (l, 0)
 | none => ([], 28)
set_option maxHeartbeats 2000000 in
theorem f97 (hG : Γ 0 = some sortsT) (hG2 : Γ 2 = some [int 0, int 0]) (f : Fm) (hl : f.nodes.length ≤ 1000000) (hc : ∀ n ∈ f.nodes, NdFit n) :
  PCalls Tryz.prog Γ 97 [fmA f] (.tup [slP (if (casesR f).2 = 0 then (pvR (casesR f).1).1 else []), int (if (casesR f).2 = 0 then (pvR (casesR f).1).2 else (casesR f).2)]) := by
 refine pcalls (ok97 Γ) fun σ => ?_
 simp only [go_sem, xQ, ↓reduceIte, xA, xM, xL, xT, xE, xN, xP, xR, xS, Tryz.f97]
 refine callB_use (f179 hG hG2 f hl hc) rfl ?_
 simp only [go_sem, xQ, ↓reduceIte, xA, xM, xL, xT, xE, xN, xP, xR, xS]
 by_cases hc0 : (casesR f).2 = 0
 ·have hck : checkE f = 0 := by
   by_cases e : checkE f = 0
   ·exact e
   ·rw [casesR, if_neg e] at hc0
    exact absurd hc0 e
  obtain ⟨hC1, hC2⟩ := cases_tm hck hc0
  rw [if_pos hc0, if_pos hc0]
  simp only [go_sem, xQ, ↓reduceIte, xA, xM, xL, xT, xE, xN, xP, xR, xS, hc0]
  refine SemC.loopK mixed (casesR f).1.length (fun i ρ σ' ds => ds = [] ∧ (ρ 19 = slC (casesR f).1 ∧ ρ 20 = int (casesR f).1.length ∧ ρ 2 = .v (.slice none 0 0)) ∧ ρ 21 = int i ∧ Drop σ' σ ∧ ∃ acc, (acc.length = i ∧ pvL (casesR f).1 [] = pvL ((casesR f).1.drop i) acc) ∧ Grow σ σ' 1 (ρ 6) (acc.flatMap prCs) i) (by kernel_rfl) ?_ ?_
  ·exact ⟨rfl, by simp only [go_sem, xQ, ↓reduceIte, xA, xM, xL, xT, xE, xN, xP, xR, xS, slC], rfl, Drop.refl _, [], ⟨rfl, rfl⟩, .nil _ _ _⟩
  rintro i ρ σ' ds hi ⟨rfl, H, h21, hD, acc, ⟨ha, hz⟩, hG⟩
  rcases get_or_end (casesR f).1 i hi with ⟨c, hcg0, hltc, hdc⟩ | hi
  ·have hcg := slC_get hcg0
   obtain ⟨c32, cT⟩ := hC2 c (mem_of_get hcg0)
   rw [hdc, pvL] at hz
   obtain ⟨a, haa⟩ : ∃ a, ρ 6 = a := ⟨_, rfl⟩
   rw [haa] at hG
   simp only [go_sem, xQ, ↓reduceIte, xA, xM, xL, xT, xE, xN, xP, xR, xS, H, h21, hltc, hcg, slC]
   refine callB_use (f175 c (by omega) (fun t ht => by have := (cT t ht).len; have := (cT t ht).le; omega)) rfl ?_
   simp only [go_sem, xQ, ↓reduceIte, xA, xM, xL, xT, xE, xN, xP, xR, xS, H, h21]
   intro b hb
   have zb := hD.free hb
   simp only [go_sem, xQ, ↓reduceIte, xA, xM, xL, xT, xE, xN, xP, xR, xS, H, h21]
   cases hp : (pairP c).2
   ·rw [hp, if_neg (by decide)] at hz
    rw [pvR, hz]
    simp only [go_sem, xQ, ↓reduceIte, xA, xM, xL, xT, xE, xN, xP, xR, xS, H, h21, hp]
    exact ⟨.tup (.cons .nil (.cons (.refl _) .nil)), by repeat (first | exact hD | refine Drop.upd ?_ zb)⟩
   ·rw [hp, if_pos rfl] at hz
    simp only [go_sem, xQ, ↓reduceIte, xA, xM, xL, xT, xE, xN, xP, xR, xS, H, h21, hp, haa]
    refine appB_sl (appT_sl el147 tk36 by36 el147 (by decide) rfl (by decide)) (by repeat (first | exact hD | refine Drop.upd ?_ zb)) (m := i) (cs := acc.flatMap prCs) (by repeat (first | exact hG | refine Grow.updW ?_ (hG.neN hb) _)) rfl rfl (by omega) (fun a' σ2 hD2 hO hG2 => ?_)
    simp only [go_sem, xQ, ↓reduceIte, xA, xM, xL, xT, xE, xN, xP, xR, xS, H, h21, hltc]
    refine ⟨by rw [wrap_succ _ (by omega)], hD2, acc ++ [(pairP c).1], ⟨by simp [ha], hz⟩, ?_⟩
    rw [List.flatMap_append]
    simpa [prCs, slS] using hG2
  ·subst hi
   rw [List.drop_length, pvL] at hz
   rw [pvR, hz]
   simp only [go_sem, xQ, ↓reduceIte, xA, xM, xL, xT, xE, xN, xP, xR, xS, H, h21, Nat.lt_irrefl]
   have hr := (hG.retP hD).1
   rw [← ha] at hr
   exact ⟨.tup (.cons hr (.cons (.refl _) .nil)), hD⟩
 ·rw [if_neg hc0, if_neg hc0]
  simp only [go_sem, xQ, ↓reduceIte, xA, xM, xL, xT, xE, xN, xP, xR, xS, hc0]
  exact ⟨.tup (.cons .nil (.cons (.refl _) .nil)), Drop.refl _⟩
theorem pairP_nil {c : List Tm} (h : (c.length : Int) = 0) : (pairP c).2 = false := by
 have : c = [] := List.eq_nil_of_length_eq_zero (by omega)
 subst this
 rfl
theorem pvL_fit : ∀ (C : List (List Tm)) (acc r : List (List St)), (∀ c ∈ C, c.length ≤ 32) → (∀ p ∈ acc, FitP p) → pvL C acc = some r → r.length = acc.length + C.length ∧ ∀ p ∈ r, FitP p
 | [], acc, r, _, ha, h => by rw [pvL] at h; cases h; exact ⟨rfl, ha⟩
 | c :: C, acc, r, hC, ha, h => by
  rw [pvL] at h
  split at h
  ·have hc := hC c (by simp)
   obtain ⟨a1, a2⟩ := pvL_fit C (acc ++ [(pairP c).1]) r (fun d hd => hC d (List.mem_cons_of_mem _ hd)) (fun p hp => by
    rcases List.mem_append.1 hp with hp | hp
    ·exact ha p hp
    ·rw [List.mem_singleton] at hp
     subst hp
     exact pairP_fits c (by omega)) h
   exact ⟨by rw [a1]; simp; omega, a2⟩
  ·cases h
theorem pvR_fit {C : List (List Tm)} (h1 : C.length ≤ 64) (hC : ∀ c ∈ C, c.length ≤ 32) : (pvR C).1.length ≤ 64 ∧ ∀ p ∈ (pvR C).1, FitP p := by
 rw [pvR]
 cases h : pvL C [] with
 | none => exact ⟨Nat.zero_le _, fun p hp => by cases hp⟩
 | some r =>
  obtain ⟨a1, a2⟩ := pvL_fit C [] r hC (fun p hp => by cases hp) h
  exact ⟨by simp only [List.length_nil] at a1; show r.length ≤ 64; omega, a2⟩
set_option maxHeartbeats 2000000 in
theorem f101 (m : Nat) (C : List (List Tm)) (hC1 : C.length ≤ 64) (hC2 : ∀ x ∈ C, x.length ≤ 32 ∧ ∀ t ∈ x, TmOk t m) : PCalls Tryz.prog Γ 101 [slC C] (.tup [slP (pvR C).1, int (pvR C).2]) := by
 refine pcalls (ok101 Γ) fun σ => ?_
 simp only [go_sem, xQ, ↓reduceIte, xA, xM, xL, xT, xE, xN, xP, xR, xS, Tryz.f101]
 refine SemC.loopK mixed C.length (fun i ρ σ' ds => ds = [] ∧ (ρ 0 = slC C ∧ ρ 2 = .v (.slice none 0 0)) ∧ ρ 5 = int i ∧ Drop σ' σ ∧ ∃ acc, (acc.length = i ∧ pvL C [] = pvL (C.drop i) acc) ∧ Grow σ σ' 1 (ρ 4) (acc.flatMap prCs) i) (by kernel_rfl) ?_ ?_
 ·exact ⟨rfl, by simp only [go_sem, xQ, ↓reduceIte, xA, xM, xL, xT, xE, xN, xP, xR, xS, slC], rfl, Drop.refl _, [], ⟨rfl, rfl⟩, .nil _ _ _⟩
 rintro i ρ σ' ds hi ⟨rfl, H, h5, hD, acc, ⟨ha, hz⟩, hG⟩
 rcases get_or_end C i hi with ⟨c, hcg0, hltc, hdc⟩ | hi
 ·have hcg := slC_get hcg0
  obtain ⟨c32, cT⟩ := hC2 c (mem_of_get hcg0)
  rw [hdc, pvL] at hz
  obtain ⟨a, haa⟩ : ∃ a, ρ 4 = a := ⟨_, rfl⟩
  rw [haa] at hG
  by_cases hc00 : (c.length : Int) = 0
  ·rw [if_neg (by rw [pairP_nil hc00]; decide)] at hz
   rw [pvR, hz]
   simp only [go_sem, xQ, ↓reduceIte, xA, xM, xL, xT, xE, xN, xP, xR, xS, H, h5, hltc, hcg, slC, slT, hc00]
   exact ⟨.tup (.cons .nil (.cons (.refl _) .nil)), hD⟩
  ·have hm : Fits m := by
    cases c with
    | nil => simp at hc00
    | cons t l => have := (cT t (by simp)).le; omega
   have h87 := f87 (Γ := Γ) c m (by omega) (fun t ht => (cT t ht).len) hm
   rw [← pair_eq cT] at h87
   simp only [go_sem, xQ, ↓reduceIte, xA, xM, xL, xT, xE, xN, xP, xR, xS, H, h5, hltc, hcg, slC, slT, hc00]
   refine callB_use (h87) rfl ?_
   simp only [go_sem, xQ, ↓reduceIte, xA, xM, xL, xT, xE, xN, xP, xR, xS, H, h5]
   intro b hb
   have zb := hD.free hb
   simp only [go_sem, xQ, ↓reduceIte, xA, xM, xL, xT, xE, xN, xP, xR, xS, H, h5]
   cases hp : (pairP c).2
   ·rw [hp, if_neg (by decide)] at hz
    rw [pvR, hz]
    simp only [go_sem, xQ, ↓reduceIte, xA, xM, xL, xT, xE, xN, xP, xR, xS, H, h5, hp]
    exact ⟨.tup (.cons .nil (.cons (.refl _) .nil)), by repeat (first | exact hD | refine Drop.upd ?_ zb)⟩
   ·rw [hp, if_pos rfl] at hz
    simp only [go_sem, xQ, ↓reduceIte, xA, xM, xL, xT, xE, xN, xP, xR, xS, H, h5, hp, haa]
    refine appB_sl (appT_sl el152 tk25 by25 el152 (by decide) rfl (by decide)) (by repeat (first | exact hD | refine Drop.upd ?_ zb)) (m := i) (cs := acc.flatMap prCs) (by repeat (first | exact hG | refine Grow.updW ?_ (hG.neN hb) _)) rfl rfl (by omega) (fun a' σ2 hD2 hO hG2 => ?_)
    simp only [go_sem, xQ, ↓reduceIte, xA, xM, xL, xT, xE, xN, xP, xR, xS, H, h5, hltc]
    refine ⟨by rw [wrap_succ _ (by omega)], hD2, acc ++ [(pairP c).1], ⟨by simp [ha], hz⟩, ?_⟩
    rw [List.flatMap_append]
    simpa [prCs, slS] using hG2
 ·subst hi
  rw [List.drop_length, pvL] at hz
  rw [pvR, hz]
  simp only [go_sem, xQ, ↓reduceIte, xA, xM, xL, xT, xE, xN, xP, xR, xS, H, h5, slC, Nat.lt_irrefl]
  have hr := (hG.retP hD).1
  rw [← ha] at hr
  exact ⟨.tup (.cons hr (.cons (.refl _) .nil)), hD⟩
end Go.AL

/- ProveFormulas: the law holds at every formula and all proofs. -/
set_option linter.unusedVariables false
set_option linter.unusedSimpArgs false
namespace Go.AL
open Go.Proofs
variable {Γ : Glob}
attribute [local irreducible] codeW opsW dopsW
theorem short_fitV {f : Fm} (h : shortFB f = true) : f.nodes.length ≤ 201 ∧ ∀ n ∈ f.nodes, NdFit n := by
 unfold shortFB at h
 rw [Bool.and_eq_true, Bool.or_eq_true, decide_eq_true_eq, decide_eq_true_eq, List.all_eq_true] at h
 refine ⟨by omega, fun n hn => ?_⟩
 have := h.1 n hn
 simp [shortNdB] at this
 exact ⟨by omega, by omega⟩
set_option maxHeartbeats 4000000 in
set_option maxRecDepth 20000 in
theorem f16 (hG : Γ 0 = some sortsT) (hG1 : Γ 1 = some [int 0, int 0]) (hG2 : Γ 2 = some [int 0, int 0]) (hG3 : Γ 3 = some kindsT) (f : Fm) (ps : List (List St)) (hl : f.nodes.length ≤ 9223372036854775807) (hp : ps.length ≤ 9223372036854775807) (hpc : ∀ p ∈ ps, p.length ≤ 9223372036854775807) : PCalls Tryz.prog Γ 16 [fmA f, slP ps] (.v (.bool true)) := by
 refine pcalls (ok16 Γ) fun σ => ?_
 by_cases s1 : shortFB f = true
 ·obtain ⟨hn1, hc1⟩ := short_fitV s1
  by_cases s2 : (8 : Int) < ps.length
  ·simp only [go_sem, xQ, ↓reduceIte, xA, xM, xL, xT, xE, xN, xP, xR, xS, Tryz.f16, slP]
   refine callB_use (f39 f hl) rfl ?_
   simp only [go_sem, xQ, ↓reduceIte, xA, xM, xL, xT, xE, xN, xP, xR, xS, s1, s2]
   refine callB_use (f22 hG1 hG3) rfl ?_
   simp only [go_sem, xQ, ↓reduceIte, xA, xM, xL, xT, xE, xN, xP, xR, xS]
  ·by_cases c1 : checkE f = 0
   ·obtain ⟨hne, hl200, hv0, hv8, hN⟩ := check_ok c1
    simp only [go_sem, xQ, ↓reduceIte, xA, xM, xL, xT, xE, xN, xP, xR, xS, Tryz.f16, slP]
    refine callB_use (f39 f hl) rfl ?_
    simp only [go_sem, xQ, ↓reduceIte, xA, xM, xL, xT, xE, xN, xP, xR, xS, s1, s2]
    refine callB_use (f44 f (by omega) hc1) rfl ?_
    simp only [go_sem, xQ, ↓reduceIte, xA, xM, xL, xT, xE, xN, xP, xR, xS, s1, s2, c1]
    refine callB_use (f48 f (by omega) hne hN) rfl ?_
    simp only [go_sem, xQ, ↓reduceIte, xA, xM, xL, xT, xE, xN, xP, xR, xS, s1, s2, c1]
    cases sm : smallB f
    ·simp only [go_sem, xQ, ↓reduceIte, xA, xM, xL, xT, xE, xN, xP, xR, xS, s1, s2, c1, sm]
     refine callB_use (f22 hG1 hG3) rfl ?_
     simp only [go_sem, xQ, ↓reduceIte, xA, xM, xL, xT, xE, xN, xP, xR, xS]
    ·have h50 := f50 (Γ := Γ) f (by omega) hc1 hne hN
     rw [← cases_eq c1] at h50
     simp only [go_sem, xQ, ↓reduceIte, xA, xM, xL, xT, xE, xN, xP, xR, xS, s1, s2, c1, sm]
     refine SemC.loopK mixed ps.length (fun k ρ σ' ds => ds = [] ∧ (ρ 1 = slP ps ∧ ρ 2 = .pp (fmC f) 0 ∧ ρ 38 = slP ps ∧ ρ 39 = int ps.length) ∧ ρ 40 = int k ∧ Drop σ' σ ∧ ∀ p ∈ ps.take k, shortB p = true) (by kernel_rfl) ?_ ?_
     ·exact ⟨rfl, by simp only [go_sem, xQ, ↓reduceIte, xA, xM, xL, xT, xE, xN, xP, xR, xS, slP], rfl, Drop.refl _, fun p hp => by simp at hp⟩
     rintro k ρ σ' ds hk ⟨rfl, H, h40, hD, hall⟩
     rcases get_or_end ps k hk with ⟨x, hx, hlt, hd⟩ | hk
     ·simp only [go_sem, xQ, ↓reduceIte, xA, xM, xL, xT, xE, xN, xP, xR, xS, H, h40, hlt, slP, ↓pr_part hx, ↓pr_part1 hx, pr_get hx]
      intro b6 hb6
      have z6 := hD.free hb6
      simp only [go_sem, xQ, ↓reduceIte, xA, xM, xL, xT, xE, xN, xP, xR, xS, H, h40, hlt, slP, ↓pr_part hx, ↓pr_part1 hx, pr_get hx]
      refine callB_use (f21 x (hpc x (mem_of_get hx))) rfl ?_
      simp only [go_sem, xQ, ↓reduceIte, xA, xM, xL, xT, xE, xN, xP, xR, xS, H, h40]
      cases hS : shortB x
      ·simp only [go_sem, xQ, ↓reduceIte, xA, xM, xL, xT, xE, xN, xP, xR, xS, H, h40, hS]
       refine callB_use (f22 hG1 hG3) rfl ?_
       simp only [go_sem, xQ, ↓reduceIte, xA, xM, xL, xT, xE, xN, xP, xR, xS]
       exact retP_drop (by repeat (first | exact hD | refine Drop.upd ?_ z6)) rfl
      ·simp only [go_sem, xQ, ↓reduceIte, xA, xM, xL, xT, xE, xN, xP, xR, xS, H, h40, hS]
       refine ⟨hlt, by rw [wrap_succ _ (by omega)], by repeat (first | exact hD | refine Drop.upd ?_ z6), fun p hp => ?_⟩
       rw [take_succ hx] at hp
       rcases List.mem_append.1 hp with hp | hp
       ·exact hall p hp
       ·rw [List.mem_singleton] at hp
        subst hp
        exact hS
     ·subst hk
      rw [List.take_length] at hall
      have hF0 : ∀ p ∈ ps, FitP p := fun p hp => by
       obtain ⟨a1, a2⟩ := short_ok (hall p hp)
       exact ⟨by omega, fun s hs => by have := a2 s hs; omega⟩
      have h97 := f97 (Γ := Γ) hG hG2 f (by omega) hc1
      simp only [go_sem, xQ, ↓reduceIte, xA, xM, xL, xT, xE, xN, xP, xR, xS, H, h40, Nat.lt_irrefl]
      refine callB_use (f93 f (by omega) hc1) rfl ?_
      simp only [go_sem, xQ, ↓reduceIte, xA, xM, xL, xT, xE, xN, xP, xR, xS, H]
      refine callB_use (f99 ps (by omega) hF0) rfl ?_
      simp only [go_sem, xQ, ↓reduceIte, xA, xM, xL, xT, xE, xN, xP, xR, xS, H]
      refine callB_use (f98 hG hG1 hG2 f ps (by omega) hc1 (by omega) hF0) rfl ?_
      simp only [go_sem, xQ, ↓reduceIte, xA, xM, xL, xT, xE, xN, xP, xR, xS, H]
      refine callB_use (f93 f (by omega) hc1) rfl ?_
      simp only [go_sem, xQ, ↓reduceIte, xA, xM, xL, xT, xE, xN, xP, xR, xS, H]
      by_cases e0 : (casesR f).2 = 0
      ·obtain ⟨hC1, hC2⟩ := cases_tm c1 e0
       obtain ⟨hR1, hF⟩ := pvR_fit hC1 fun c hc => (hC2 c hc).1
       rw [if_pos e0, if_pos e0] at h97
       refine callB_use (h97) rfl ?_
       simp only [go_sem, xQ, ↓reduceIte, xA, xM, xL, xT, xE, xN, xP, xR, xS, H]
       refine callB_use (f44 f (by omega) hc1) rfl ?_
       simp only [go_sem, xQ, ↓reduceIte, xA, xM, xL, xT, xE, xN, xP, xR, xS, H, c1]
       refine callB_use (f100 f c1 ps hc1 (by omega) hF0) rfl ?_
       simp only [go_sem, xQ, ↓reduceIte, xA, xM, xL, xT, xE, xN, xP, xR, xS, H, c1]
       refine callB_use (h50) rfl ?_
       simp only [go_sem, xQ, ↓reduceIte, xA, xM, xL, xT, xE, xN, xP, xR, xS, H, c1, e0]
       refine callB_use (f101 f.vars.toNat (casesR f).1 hC1 hC2) rfl ?_
       simp only [go_sem, xQ, ↓reduceIte, xA, xM, xL, xT, xE, xN, xP, xR, xS, H, slP, eq_self_iff_true]
       refine SemC.loopK mixed (pvR (casesR f).1).1.length (fun k ρ σ' ds => ds = [] ∧ (ρ 9 = slP (pvR (casesR f).1).1 ∧ ρ 15 = slP (pvR (casesR f).1).1 ∧ ρ 109 = int (pvR (casesR f).1).1.length) ∧ ρ 110 = int k ∧ Drop σ' σ) (by kernel_rfl) ?_ ?_
       ·exact ⟨rfl, by simp only [go_sem, xQ, ↓reduceIte, xA, xM, xL, xT, xE, xN, xP, xR, xS, slP, H], rfl, hD⟩
       rintro k ρ σ' ds hk ⟨rfl, H, h110, hD⟩
       rcases get_or_end (pvR (casesR f).1).1 k hk with ⟨x, hx, hlt, hd⟩ | hk
       ·obtain ⟨x1, x2⟩ := hF x (mem_of_get hx)
        simp only [go_sem, xQ, ↓reduceIte, xA, xM, xL, xT, xE, xN, xP, xR, xS, H, h110, hlt, slP, ↓pr_part hx, ↓pr_part1 hx, pr_get hx]
        refine dcallB_use (f91 x x1) rfl ?_
        simp only [go_sem, xQ, ↓reduceIte, xA, xM, xL, xT, xE, xN, xP, xR, xS, H, h110, hlt, slP, ↓pr_part hx, ↓pr_part1 hx, pr_get hx]
        refine callB_use (f90 x x x1 x2) rfl ?_
        simp only [go_sem, xQ, ↓reduceIte, xA, xM, xL, xT, xE, xN, xP, xR, xS, H, h110, eq_self_iff_true, decide_true]
        exact ⟨hlt, by rw [wrap_succ _ (by omega)], hD⟩
       ·subst hk
        simp only [go_sem, xQ, ↓reduceIte, xA, xM, xL, xT, xE, xN, xP, xR, xS, H, h110, Nat.lt_irrefl]
        refine callB_use (f22 hG1 hG3) rfl ?_
        simp only [go_sem, xQ, ↓reduceIte, xA, xM, xL, xT, xE, xN, xP, xR, xS]
        exact retP_drop hD rfl
      ·have hE := cfE_bad (ps := ps) e0
       rw [if_neg e0, if_neg e0] at h97
       refine callB_use (h97) rfl ?_
       simp only [go_sem, xQ, ↓reduceIte, xA, xM, xL, xT, xE, xN, xP, xR, xS, H]
       refine callB_use (f44 f (by omega) hc1) rfl ?_
       simp only [go_sem, xQ, ↓reduceIte, xA, xM, xL, xT, xE, xN, xP, xR, xS, H, c1]
       refine callB_use (f100 f c1 ps hc1 (by omega) hF0) rfl ?_
       simp only [go_sem, xQ, ↓reduceIte, xA, xM, xL, xT, xE, xN, xP, xR, xS, H, c1]
       refine callB_use (h50) rfl ?_
       simp only [go_sem, xQ, ↓reduceIte, xA, xM, xL, xT, xE, xN, xP, xR, xS, H, c1, e0, hE, slP, eq_self_iff_true]
       refine SemC.loopK mixed 0 (fun k ρ σ' ds => ds = [] ∧ (ρ 109 = int 0) ∧ ρ 110 = int 0 ∧ Drop σ' σ) (by kernel_rfl) ?_ ?_
       ·exact ⟨rfl, by simp only [go_sem, xQ, ↓reduceIte, xA, xM, xL, xT, xE, xN, xP, xR, xS, slP, H], rfl, hD⟩
       rintro k ρ σ' ds hk ⟨rfl, H, h110, hD⟩
       simp only [go_sem, xQ, ↓reduceIte, xA, xM, xL, xT, xE, xN, xP, xR, xS, H, h110, Int.lt_irrefl]
       refine callB_use (f22 hG1 hG3) rfl ?_
       simp only [go_sem, xQ, ↓reduceIte, xA, xM, xL, xT, xE, xN, xP, xR, xS]
       exact retP_drop hD rfl
   ·have he : casesR f = ([], checkE f) := if_neg c1
    have e0 : ¬ (casesR f).2 = 0 := by rw [he]; exact c1
    have hE := cfE_bad (ps := ps) e0
    rw [he] at hE
    have h97 := f97 (Γ := Γ) hG hG2 f (by omega) hc1
    rw [if_neg e0, if_neg e0, he] at h97
    have h98 := fun hF0 => f98 (Γ := Γ) hG hG1 hG2 f ps (by omega) hc1 (by omega) hF0
    rw [hE] at h98
    simp only [go_sem, xQ, ↓reduceIte, xA, xM, xL, xT, xE, xN, xP, xR, xS, Tryz.f16, slP]
    refine callB_use (f39 f hl) rfl ?_
    simp only [go_sem, xQ, ↓reduceIte, xA, xM, xL, xT, xE, xN, xP, xR, xS, s1, s2]
    refine callB_use (f44 f (by omega) hc1) rfl ?_
    simp only [go_sem, xQ, ↓reduceIte, xA, xM, xL, xT, xE, xN, xP, xR, xS, s1, s2, c1]
    refine SemC.loopK mixed ps.length (fun k ρ σ' ds => ds = [] ∧ (ρ 1 = slP ps ∧ ρ 2 = .pp (fmC f) 0 ∧ ρ 38 = slP ps ∧ ρ 39 = int ps.length) ∧ ρ 40 = int k ∧ Drop σ' σ ∧ ∀ p ∈ ps.take k, shortB p = true) (by kernel_rfl) ?_ ?_
    ·exact ⟨rfl, by simp only [go_sem, xQ, ↓reduceIte, xA, xM, xL, xT, xE, xN, xP, xR, xS, slP], rfl, Drop.refl _, fun p hp => by simp at hp⟩
    rintro k ρ σ' ds hk ⟨rfl, H, h40, hD, hall⟩
    rcases get_or_end ps k hk with ⟨x, hx, hlt, hd⟩ | hk
    ·simp only [go_sem, xQ, ↓reduceIte, xA, xM, xL, xT, xE, xN, xP, xR, xS, H, h40, hlt, slP, ↓pr_part hx, ↓pr_part1 hx, pr_get hx]
     intro b6 hb6
     have z6 := hD.free hb6
     simp only [go_sem, xQ, ↓reduceIte, xA, xM, xL, xT, xE, xN, xP, xR, xS, H, h40, hlt, slP, ↓pr_part hx, ↓pr_part1 hx, pr_get hx]
     refine callB_use (f21 x (hpc x (mem_of_get hx))) rfl ?_
     simp only [go_sem, xQ, ↓reduceIte, xA, xM, xL, xT, xE, xN, xP, xR, xS, H, h40]
     cases hS : shortB x
     ·simp only [go_sem, xQ, ↓reduceIte, xA, xM, xL, xT, xE, xN, xP, xR, xS, H, h40, hS]
      refine callB_use (f22 hG1 hG3) rfl ?_
      simp only [go_sem, xQ, ↓reduceIte, xA, xM, xL, xT, xE, xN, xP, xR, xS]
      exact retP_drop (by repeat (first | exact hD | refine Drop.upd ?_ z6)) rfl
     ·simp only [go_sem, xQ, ↓reduceIte, xA, xM, xL, xT, xE, xN, xP, xR, xS, H, h40, hS]
      refine ⟨hlt, by rw [wrap_succ _ (by omega)], by repeat (first | exact hD | refine Drop.upd ?_ z6), fun p hp => ?_⟩
      rw [take_succ hx] at hp
      rcases List.mem_append.1 hp with hp | hp
      ·exact hall p hp
      ·rw [List.mem_singleton] at hp
       subst hp
       exact hS
    ·subst hk
     rw [List.take_length] at hall
     have hF0 : ∀ p ∈ ps, FitP p := fun p hp => by
      obtain ⟨a1, a2⟩ := short_ok (hall p hp)
      exact ⟨by omega, fun s hs => by have := a2 s hs; omega⟩
     simp only [go_sem, xQ, ↓reduceIte, xA, xM, xL, xT, xE, xN, xP, xR, xS, H, h40, Nat.lt_irrefl]
     refine callB_use (f93 f (by omega) hc1) rfl ?_
     simp only [go_sem, xQ, ↓reduceIte, xA, xM, xL, xT, xE, xN, xP, xR, xS, H]
     refine callB_use (f99 ps (by omega) hF0) rfl ?_
     simp only [go_sem, xQ, ↓reduceIte, xA, xM, xL, xT, xE, xN, xP, xR, xS, H]
     refine callB_use (h98 hF0) rfl ?_
     simp only [go_sem, xQ, ↓reduceIte, xA, xM, xL, xT, xE, xN, xP, xR, xS, H]
     refine callB_use (f93 f (by omega) hc1) rfl ?_
     simp only [go_sem, xQ, ↓reduceIte, xA, xM, xL, xT, xE, xN, xP, xR, xS, H]
     refine callB_use (h97) rfl ?_
     simp only [go_sem, xQ, ↓reduceIte, xA, xM, xL, xT, xE, xN, xP, xR, xS, H]
     refine callB_use (f44 f (by omega) hc1) rfl ?_
     simp only [go_sem, xQ, ↓reduceIte, xA, xM, xL, xT, xE, xN, xP, xR, xS, H, c1, slP, eq_self_iff_true]
     refine SemC.loopK mixed 0 (fun k ρ σ' ds => ds = [] ∧ (ρ 109 = int 0) ∧ ρ 110 = int 0 ∧ Drop σ' σ) (by kernel_rfl) ?_ ?_
     ·exact ⟨rfl, by simp only [go_sem, xQ, ↓reduceIte, xA, xM, xL, xT, xE, xN, xP, xR, xS, slP, H], rfl, hD⟩
     rintro k ρ σ' ds hk ⟨rfl, H, h110, hD⟩
     simp only [go_sem, xQ, ↓reduceIte, xA, xM, xL, xT, xE, xN, xP, xR, xS, H, h110, Int.lt_irrefl]
     refine callB_use (f22 hG1 hG3) rfl ?_
     simp only [go_sem, xQ, ↓reduceIte, xA, xM, xL, xT, xE, xN, xP, xR, xS]
     exact retP_drop hD rfl
 ·rw [Bool.not_eq_true] at s1
  simp only [go_sem, xQ, ↓reduceIte, xA, xM, xL, xT, xE, xN, xP, xR, xS, Tryz.f16]
  refine callB_use (f39 f hl) rfl ?_
  simp only [go_sem, xQ, ↓reduceIte, xA, xM, xL, xT, xE, xN, xP, xR, xS, s1]
  refine callB_use (f22 hG1 hG3) rfl ?_
  simp only [go_sem, xQ, ↓reduceIte, xA, xM, xL, xT, xE, xN, xP, xR, xS]
end Go.AL
