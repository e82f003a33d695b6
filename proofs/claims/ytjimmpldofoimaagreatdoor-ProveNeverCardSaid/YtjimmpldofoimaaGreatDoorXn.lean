import Derived.Test.YtjimmpldofoimaaGreatDoorWd
import Derived.Test.YtjimmpldofoimaaGreatDoorWh
import Derived.Test.YtjimmpldofoimaaGreatDoorWk
import Derived.Test.YtjimmpldofoimaaGreatDoorWl
import Derived.Test.YtjimmpldofoimaaGreatDoorXq
open Go.AL renaming retPost_one → xP, retPost_oneN → xR, ers_at' → xS
set_option linter.unusedVariables false
set_option linter.unusedSimpArgs false
namespace Go.AL
open Go.Proofs
variable {Γ : Glob}
attribute [local irreducible] codeW opsW dopsW
theorem f166 (f : Fm) (hl : f.nodes.length ≤ 1000000) (hc : ∀ n ∈ f.nodes, NdFit n) : PCalls Tryz.prog Γ 166 [fmA f] (fmA f) := fun σ =>
 ACalls.retK (f166o f hl hc fun a σ' hD hG => ⟨fmA f, σ, .agg (.cons (.refl _) (.cons (hG.retP hD).1 .nil)), hD, rfl, rfl⟩)
theorem f93 (f : Fm) (hl : f.nodes.length ≤ 1000000) (hc : ∀ n ∈ f.nodes, NdFit n) : PCalls Tryz.prog Γ 93 [fmA f] (fmA f) := by
 refine pcalls (ok93 Γ) fun σ => ?_
 simp only [go_sem, xP, xR, xS, Tryz.f93]
 intro b2 hb2
 simp only [go_sem, xP, xR, xS]
 intro bo hbo
 obtain ⟨hne, hbo⟩ := un hbo
 have hne' : ¬ b2 = bo := fun e => hne e.symm
 simp only [go_sem, xP, xR, xS, hne, hne']
 refine callB_use (f166 f hl hc) rfl ?_
 simp only [go_sem, xP, xR, xS, hne, hne']
 refine SemC.loopK mixed f.nodes.length (fun k ρ σ' ds => ds = [] ∧ (ρ 2 = .v (.pointer (some ⟨b2, 0, none⟩)) ∧ ρ 3 = .v (.pointer (some ⟨bo, 0, none⟩)) ∧ ρ 11 = slN f.nodes ∧ ρ 12 = int f.nodes.length) ∧ ρ 13 = int k ∧ σ' b2 = some (.row [int 0, .v (.slice none 0 0)] 2 1) ∧ Drop σ' σ ∧
  ∃ a, σ' bo = some (.row [int f.vars, a] 2 1) ∧ Grow σ σ' 4 a ((f.nodes.take k).flatMap ndC) k) (by kernel_rfl) ?_ ?_
 ·refine ⟨rfl, by simp only [go_sem, xP, xR, xS], rfl, by simp only [go_sem, xP, xR, xS, hne, hne'], ?_, _, by simp only [go_sem, xP, xR, xS], .nil _ _ _⟩
  repeat (first | exact Drop.refl _ | assumption | refine Drop.upd ?_ (by assumption))
 rintro k ρ σ' ds hk ⟨rfl, H, h13, hs2, hD, a, hso, hG⟩
 rcases get_or_end f.nodes k hk with ⟨x, hx, hlt, hd⟩ | hk
 ·simp only [go_sem, xP, xR, xS, H, h13, hlt, ↓nd_part hx]
  intro b hb
  have n2 := nn hb hs2
  have no := nn hb hso
  have n2' : ¬ b = b2 := fun e => n2 e.symm
  have no' : ¬ b = bo := fun e => no e.symm
  simp only [go_sem, xP, xR, xS, H, h13, hlt, ↓nd_part hx, n2, no, n2', no', hs2, hso]
  refine appB_sl (appT_sl el64 tk216 by216 el64 (by decide) rfl (by decide)) (by repeat (first | exact hD | refine Drop.upd ?_ (hD.free hb))) (m := k) (cs := (f.nodes.take k).flatMap ndC) (by repeat (first | exact hG | refine Grow.updW ?_ (hG.neN hb) _)) rfl rfl (by omega) (fun a' σ2 hD2 hO hG2 => ?_)
  have e2 : σ2 b2 = some (.row [int 0, .v (.slice none 0 0)] 2 1) := by
   rw [hO b2 (hG.neS hs2 (by decide)) (by simp [upd, n2, hs2])]; simp [upd, n2, hs2]
  have eo : σ2 bo = some (.row [int f.vars, a] 2 1) := by
   rw [hO bo (hG.neS hso (by decide)) (by simp [upd, no, hso])]; simp [upd, no, hso]
  have hc2 := hG2.cellsX
  have ho2 := hG2.oneX
  simp only [go_sem, xP, xR, xS, H, h13, e2, eo, hc2, ho2, hne', hlt]
  refine ⟨by rw [wrap_succ _ (by omega)], hD2.upd hbo, a', by simp only [go_sem, xP, xR, xS, upd_same], ?_⟩
  rw [take_succ hx, List.flatMap_append]
  have := hG2.updW (hG2.neS eo (by decide)) (some (.row [int f.vars, a'] 2 1))
  simpa [ndC, slI, int] using this
 ·subst hk
  have ho := hG.oneX
  rw [List.take_length] at hG
  simp only [go_sem, xP, xR, xS, H, h13, Nat.lt_irrefl, hs2, hso, hne, ho]
  have hG' := hG.updW (hG.neS hs2 (by decide)) (some (.row [int f.vars, a] 2 1))
  exact ⟨.agg (.cons (.refl _) (.cons (hG'.retP (hD.upd hb2)).1 .nil)), hD.upd hb2⟩
theorem f179 (hG : Γ 0 = some sortsT) (hG2 : Γ 2 = some [int 0, int 0]) (f : Fm) (hl : f.nodes.length ≤ 1000000) (hc : ∀ n ∈ f.nodes, NdFit n) : PCalls Tryz.prog Γ 179 [fmA f] (.tup [slC (casesR f).1, int (casesR f).2]) := by
 refine pcalls (ok179 Γ) fun σ => ?_
 simp only [go_sem, xP, xR, xS, Tryz.f179]
 refine callB_use (f47 hG f (by omega) hc) rfl ?_
 simp only [go_sem, xP, xR, xS]
 by_cases h : checkE f = 0
 ·simp only [go_sem, xP, xR, xS, h]
  refine callB_use (f49 hG hG2 f (by omega) hc) rfl ?_
  simp only [go_sem, xP, xR, xS]
 ·have he : casesR f = ([], checkE f) := if_neg h
  simp only [go_sem, xP, xR, xS, h]
  rw [he]
  exact ⟨.tup (.cons .nil (.cons (.refl _) .nil)), Drop.refl _⟩
def findL (n : Int) (sp : List Rg) : List (List Tm) → List Int × Bool × Int
 | [] => ([], false, 0)
 | c :: l => if (c.length : Int) = 0 then (sp.map (·.lo), true, 0)
  else if (seekP c (n.toNat + 1) n sp).is = true ∨ ¬ (seekP c (n.toNat + 1) n sp).err = 0 then ((seekP c (n.toNat + 1) n sp).vals, (seekP c (n.toNat + 1) n sp).is, (seekP c (n.toNat + 1) n sp).err)
  else findL n sp l
def findE (f : Fm) (sp : List Rg) (n : Int) : Int := firstE [(casesR f).2, spansE sp f.vars, withinE n 1 200]
theorem cases_tm {f : Fm} (h : checkE f = 0) (hc : (casesR f).2 = 0) : (casesR f).1.length ≤ 64 ∧ ∀ x ∈ (casesR f).1, x.length ≤ 32 ∧ ∀ t ∈ x, TmOk t f.vars.toNat := by
 obtain ⟨hne, hl200, hv0, hv8, hok⟩ := check_ok h
 have hd := hdown hok
 have hpos := List.length_pos_iff.2 hne
 have hroot : rootW f = (((f.nodes.length - 1 : Nat) : Int), false) := by rw [rootW]; congr 1; omega
 have hn : f.nodes[f.nodes.length - 1]? = some f.nodes[f.nodes.length - 1] := List.getElem?_eq_getElem (by omega)
 have hlen := cas_len hd hok f.nodes.length (f.nodes.length - 1) false _ (by omega) hn
 rw [casesR, if_pos h] at hc ⊢
 cases hb : badW f.nodes (rootW f)
 ·rw [hb] at hc
  cases hl : larW f.nodes (rootW f)
  ·simp only [Bool.false_eq_true, if_false]
   rw [hroot] at hl hb ⊢
   have h1 := (cnt_cas hd hok f.nodes.length (f.nodes.length - 1) false _ (by omega) hn).2 hb
   refine ⟨h1.1, fun x hx => ⟨Nat.le_trans (maxL_mem hx) h1.2.1, fun t ht => ?_⟩⟩
   have h2 := hlen x hx t ht
   rw [larW_eq hd hn, Bool.or_eq_false_iff] at hl
   have hr : larT t = false := by
    cases hr : larT t
    ·rfl
    ·have := larC_iff.2 ⟨x, hx, t, ht, hr⟩
     rw [this] at hl
     exact absurd hl.1 (by simp)
   rw [larT_eq] at hr
   have hN : numbersE t = 0 := by
    rw [numbers_eq]
    have : inRangeB t = true := by simpa using hr
    rw [this]; rfl
   obtain ⟨q1, q2, q3⟩ := num_bd hN
   exact ⟨by omega, by omega, q1, q2, q3⟩
  ·rw [hl] at hc
   simp at hc
 ·rw [hb] at hc
  simp at hc
set_option maxHeartbeats 2000000 in
theorem f92 (hG : Γ 0 = some sortsT) (hG2 : Γ 2 = some [int 0, int 0]) (f : Fm) (sp : List Rg) (n : Int) (hl : f.nodes.length ≤ 1000000) (hc : ∀ n ∈ f.nodes, NdFit n) (hsl : Fits sp.length) :
  PCalls Tryz.prog Γ 92 [fmA f, slR sp, int n] (.tup [slI (if findE f sp n = 0 then (findL n sp (casesR f).1).1 else []), .v (.bool (if findE f sp n = 0 then (findL n sp (casesR f).1).2.1 else false)), int (if findE f sp n = 0 then (findL n sp (casesR f).1).2.2 else findE f sp n)]) := by
 have hE : firstE [(casesR f).2, spansE sp f.vars, withinE n 1 200] = findE f sp n := rfl
 refine pcalls (ok92 Γ) fun σ => ?_
 simp only [go_sem, xP, xR, xS, Tryz.f92]
 refine callB_use (f179 hG hG2 f hl hc) rfl ?_
 simp only [go_sem, xP, xR, xS]
 refine callB_use (f127 sp f.vars hsl) rfl ?_
 simp only [go_sem, xP, xR, xS]
 refine callB_use (f124 n 1 200) rfl ?_
 simp only [go_sem, xP, xR, xS]
 refine callB_use (f120 [(casesR f).2, spansE sp f.vars, withinE n 1 200] (by simp)) rfl ?_
 simp only [go_sem, xP, xR, xS, hE]
 by_cases h : findE f sp n = 0
 ·have h0 := (firstE_zero _).1 h
  have hc0 := h0 (casesR f).2 (by simp)
  have hs0 := h0 (spansE sp f.vars) (by simp)
  have hw0 := h0 (withinE n 1 200) (by simp)
  have hck : checkE f = 0 := by
   by_cases e : checkE f = 0
   ·exact e
   ·rw [casesR, if_neg e] at hc0
    exact absurd hc0 e
  obtain ⟨hne, hl200, hv0, hv8, hok⟩ := check_ok hck
  obtain ⟨hC1, hC2⟩ := cases_tm hck hc0
  have hn2 : 1 ≤ n ∧ n ≤ 200 := by
   unfold withinE at hw0
   split at hw0
   ·cases hw0
   ·omega
  have hvv : f.vars = (f.vars.toNat : Int) := by omega
  rw [hvv] at hs0
  obtain ⟨hsp1, hsp2⟩ := spans_ok hs0
  rw [if_pos h, if_pos h, if_pos h]
  simp only [go_sem, xP, xR, xS, h]
  refine SemC.loopK mixed (casesR f).1.length (fun i ρ σ' ds => ds = [] ∧ (ρ 1 = slR sp ∧ ρ 2 = int n ∧ ρ 34 = slC (casesR f).1 ∧ ρ 35 = int (casesR f).1.length) ∧ ρ 36 = int i ∧ Drop σ' σ ∧ findL n sp (casesR f).1 = findL n sp ((casesR f).1.drop i)) (by kernel_rfl) ?_ ?_
  ·exact ⟨rfl, by simp only [go_sem, xP, xR, xS, slC], rfl, Drop.refl _, rfl⟩
  rintro i ρ σ' ds hi ⟨rfl, H, h36, hD, hz⟩
  rcases get_or_end (casesR f).1 i hi with ⟨c, hcg0, hltc, hdc⟩ | hi
  ·have hcg := slC_get hcg0
   obtain ⟨c32, cT⟩ := hC2 c (mem_of_get hcg0)
   rw [hdc, findL] at hz
   by_cases hc00 : (c.length : Int) = 0
   ·rw [if_pos hc00] at hz
    simp only [go_sem, xP, xR, xS, H, h36, hltc, hcg, slC, slT, hc00]
    refine callB_use (f180 sp hsl _ (·.lo) (fun x _ => dcall_of (f181 x) rfl)) rfl ?_
    simp only [go_sem, xP, xR, xS, H]
    rw [hz]
    exact retP_drop hD rfl
   ·rw [if_neg hc00] at hz
    simp only [go_sem, xP, xR, xS, H, h36, hltc, hcg, slC, slT, hc00]
    intro b hb
    have zb := hD.free hb
    simp only [go_sem, xP, xR, xS, H, h36, hltc, hcg, slC, slT, hc00]
    refine callB_a (f128 f.vars.toNat (by omega) c (by omega) (fun t ht => (cT t ht).len) (fun t ht => (cT t ht).cs) (n.toNat + 1) n sp _ b _ (by omega) (by omega) (by omega) hsp1 (by simp only [go_sem, xP, xR, xS, upd_same, slT]) ?_) rfl
    simp only [go_sem, xP, xR, xS, H, h36]
    cases hI : (seekP c (n.toNat + 1) n sp).is
    ·by_cases hEr : (seekP c (n.toNat + 1) n sp).err = 0
     ·rw [if_neg (by rw [hI]; simp [hEr])] at hz
      simp only [go_sem, xP, xR, xS, H, h36, hI, hEr]
      exact ⟨hltc, by rw [wrap_succ _ (by omega)], by repeat (first | exact hD | refine Drop.upd ?_ zb), hz⟩
     ·rw [if_pos (.inr hEr)] at hz
      simp only [go_sem, xP, xR, xS, H, h36, hI, hEr]
      rw [hz]
      exact retP_drop (by repeat (first | exact hD | refine Drop.upd ?_ zb)) (by rw [hI])
    ·rw [if_pos (.inl hI)] at hz
     simp only [go_sem, xP, xR, xS, H, h36, hI]
     rw [hz]
     exact retP_drop (by repeat (first | exact hD | refine Drop.upd ?_ zb)) (by rw [hI])
  ·subst hi
   rw [List.drop_length, findL] at hz
   rw [hz]
   simp only [go_sem, xP, xR, xS, H, h36, Nat.lt_irrefl]
   exact ⟨.tup (.cons .nil (.cons (.refl _) (.cons (.refl _) .nil))), hD⟩
 ·rw [if_neg h, if_neg h, if_neg h]
  simp only [go_sem, xP, xR, xS, h]
  exact ⟨.tup (.cons .nil (.cons (.refl _) (.cons (.refl _) .nil))), Drop.refl _⟩
def prCs (p : List St) : List AV := [slS p]
attribute [go_sem] prCs
def slP (l : List (List St)) : AV := .sl (l.flatMap prCs) l.length
theorem prCs_len (p : List St) : (prCs p).length = 1 := rfl
theorem pr_part {l : List (List St)} {k : Nat} {t : List St} (h : l[k]? = some t) (z : List AV) : TK.part ⟨true, 1, z⟩ (l.flatMap prCs) (k * 1) = some (prA t) := part_rows (k := ⟨true, 1, z⟩) rfl prCs_len h
theorem pr_part1 {l : List (List St)} {k : Nat} {t : List St} (h : l[k]? = some t) (z : List AV) : TK.part ⟨true, 1, z⟩ (l.flatMap prCs) k = some (prA t) := by
 have := pr_part h z
 rwa [Nat.mul_one] at this
theorem pr_get {l : List (List St)} {k : Nat} {t : List St} (h : l[k]? = some t) : (l.flatMap prCs)[k]? = some (slS t) := by
 have := rows_get (j := 0) prCs_len h (by decide)
 simpa [prCs] using this
def FitP (p : List St) : Prop := Fits p.length ∧ ∀ s ∈ p, Fits s.factors.length
theorem f99 (l : List (List St)) (hl : Fits l.length) (hc : ∀ p ∈ l, FitP p) : PCalls Tryz.prog Γ 99 [slP l] (slP l) := by
 refine pcalls (ok99 Γ) fun σ => ?_
 simp only [go_sem, xP, xR, xS, Tryz.f99, slP]
 refine SemC.loopK mixed l.length (fun k ρ σ' ds => Drop σ' σ ∧ ds = [] ∧ ρ 6 = slP l ∧ ρ 7 = int l.length ∧ ρ 8 = int k ∧ Grow σ σ' 1 (ρ 3) ((l.take k).flatMap prCs) k) (by kernel_rfl) ⟨.refl _, rfl, by simp only [go_sem, xP, xR, xS, slP], rfl, rfl, .nil _ _ _⟩ ?_
 rintro k ρ σ' ds hk ⟨hD, rfl, h6, h7, h8, hG⟩
 rcases get_or_end l k hk with ⟨x, hx, hlt, hd⟩ | hk
 ·obtain ⟨hx1, hx2⟩ := hc x (mem_of_get hx)
  obtain ⟨a, ha⟩ : ∃ a, ρ 3 = a := ⟨_, rfl⟩
  rw [ha] at hG
  simp only [go_sem, xP, xR, xS, h6, h7, h8, hlt, slP, ↓pr_part hx, ↓pr_part1 hx, pr_get hx]
  intro b hb
  simp only [go_sem, xP, xR, xS, h6, h7, h8, hlt, slP, ↓pr_part hx, ↓pr_part1 hx, pr_get hx, ha]
  refine callB_use (f25 x hx1 hx2) rfl ?_
  simp only [go_sem, xP, xR, xS, h6, h7, h8, ha]
  refine appB_sl (appT_sl el147 tk36 by36 el147 (by decide) rfl (by decide)) (by repeat (first | exact hD | refine Drop.upd ?_ (hD.free hb))) (m := k) (cs := (l.take k).flatMap prCs) (by repeat (first | exact hG | refine Grow.updW ?_ (hG.neN hb) _)) rfl rfl (by omega) (fun a' σ2 hD2 hO hG2 => ?_)
  simp only [go_sem, xP, xR, xS, h6, h7, h8, hlt, slP]
  refine ⟨hD2, by rw [wrap_succ _ (by omega)], ?_⟩
  rw [take_succ hx, List.flatMap_append]
  simpa [prCs, slS] using hG2
 ·subst hk
  rw [List.take_length] at hG
  simp only [go_sem, xP, xR, xS, h6, h7, h8, Nat.lt_irrefl, slP]
  exact hG.retP hD
def cfE (f : Fm) (ps : List (List St)) : Int := firstE [(casesR f).2, whenE (!decide ((ps.length : Int) = (casesR f).1.length)) 2]
def cfL : List (List Tm) → List (List St) → Nat → Int × Int
 | c :: C, p :: P, i => if (checkP c p).2 = 0 then cfL C P (i + 1) else ((i : Int), (checkP c p).2)
 | _, _, _ => (0, 0)
def cfR (f : Fm) (ps : List (List St)) : Int × Int := if cfE f ps = 0 then cfL (casesR f).1 ps 0 else (0, cfE f ps)
set_option maxHeartbeats 2000000 in
theorem f98 (hG : Γ 0 = some sortsT) (hG1 : Γ 1 = some [int 0, int 0]) (hG2 : Γ 2 = some [int 0, int 0]) (f : Fm) (ps : List (List St)) (hl : f.nodes.length ≤ 1000000) (hc : ∀ n ∈ f.nodes, NdFit n) (hp : Fits ps.length) (hpc : ∀ p ∈ ps, FitP p) :
  PCalls Tryz.prog Γ 98 [fmA f, slP ps] (.tup [int (cfR f ps).1, int (cfR f ps).2]) := by
 have hE : firstE [(casesR f).2, whenE (!decide ((ps.length : Int) = (casesR f).1.length)) 2] = cfE f ps := rfl
 refine pcalls (ok98 Γ) fun σ => ?_
 simp only [go_sem, xP, xR, xS, Tryz.f98]
 refine callB_use (f179 hG hG2 f hl hc) rfl ?_
 simp only [go_sem, xP, xR, xS, slP, slC]
 refine callB_use (f121 _ _) rfl ?_
 simp only [go_sem, xP, xR, xS]
 refine callB_use (f120 [(casesR f).2, whenE (!decide ((ps.length : Int) = (casesR f).1.length)) 2] (by simp)) rfl ?_
 simp only [go_sem, xP, xR, xS, hE]
 by_cases h : cfE f ps = 0
 ·have h0 := (firstE_zero _).1 h
  have hc0 := h0 (casesR f).2 (by simp)
  have hw := (whenE_zero (by decide)).1 (h0 (whenE (!decide ((ps.length : Int) = (casesR f).1.length)) 2) (by simp))
  have hlen : ps.length = (casesR f).1.length := by
   simp at hw
   omega
  have hck : checkE f = 0 := by
   by_cases e : checkE f = 0
   ·exact e
   ·rw [casesR, if_neg e] at hc0
    exact absurd hc0 e
  obtain ⟨hC1, hC2⟩ := cases_tm hck hc0
  rw [cfR, if_pos h]
  simp only [go_sem, xP, xR, xS, h]
  refine SemC.loopK mixed (casesR f).1.length (fun i ρ σ' ds => ds = [] ∧ (ρ 1 = slP ps ∧ ρ 29 = slC (casesR f).1 ∧ ρ 30 = int (casesR f).1.length) ∧ ρ 31 = int i ∧ Drop σ' σ ∧ cfL (casesR f).1 ps 0 = cfL ((casesR f).1.drop i) (ps.drop i) i) (by kernel_rfl) ?_ ?_
  ·exact ⟨rfl, by simp only [go_sem, xP, xR, xS, slC, slP], rfl, Drop.refl _, rfl⟩
  rintro i ρ σ' ds hi ⟨rfl, H, h31, hD, hz⟩
  rcases get_or_end (casesR f).1 i hi with ⟨c, hcg0, hltc, hdc⟩ | hi
  ·obtain ⟨p, hp0⟩ : ∃ p, ps[i]? = some p := ⟨ps[i]'(by omega), List.getElem?_eq_getElem _⟩
   have hltp := lt_of_getElem? hp0
   have hcg := slC_get hcg0
   obtain ⟨c32, cT⟩ := hC2 c (mem_of_get hcg0)
   obtain ⟨p1, p2⟩ := hpc p (mem_of_get hp0)
   rw [hdc, drop_of_get hp0, cfL] at hz
   simp only [go_sem, xP, xR, xS, H, h31, hltc, hcg, hltp, slC, slP, ↓pr_part hp0, ↓pr_part1 hp0, pr_get hp0]
   refine callB_use (f23 c p (by omega) (fun t ht => by have := (cT t ht).len; have := (cT t ht).le; omega) p1 p2 hG1) rfl ?_
   simp only [go_sem, xP, xR, xS, H, h31]
   by_cases he : (checkP c p).2 = 0
   ·rw [if_pos he] at hz
    simp only [go_sem, xP, xR, xS, H, h31, he]
    exact ⟨hltc, by rw [wrap_succ _ (by omega)], hD, hz⟩
   ·rw [if_neg he] at hz
    simp only [go_sem, xP, xR, xS, H, h31, he]
    rw [hz]
    exact retP_drop hD rfl
  ·subst hi
   rw [List.drop_length] at hz
   have hz2 : cfL (casesR f).1 ps 0 = (0, 0) := by rw [hz]; cases ps.drop (casesR f).1.length <;> rfl
   rw [hz2]
   simp only [go_sem, xP, xR, xS, H, h31, Nat.lt_irrefl]
   exact retP_drop hD rfl
 ·rw [cfR, if_neg h]
  simp only [go_sem, xP, xR, xS, h]
theorem cfE_len {f : Fm} {ps : List (List St)} (h : (casesR f).2 = 0) : cfE f ps = if (ps.length : Int) = (casesR f).1.length then 0 else 2 := by
 rw [cfE, firstE_cons, if_pos h, firstE_cons, firstE_nil, whenE]
 by_cases e : (ps.length : Int) = (casesR f).1.length <;> simp [e]
def pvL : List (List Tm) → List (List St) → Option (List (List St))
 | [], acc => some acc
 | c :: C, acc => if (pairP c).2 = true then pvL C (acc ++ [(pairP c).1]) else none
def pvR (C : List (List Tm)) : List (List St) × Int := match pvL C [] with
 | some l => (l, 0)
 | none => ([], 28)
set_option maxHeartbeats 2000000 in
theorem f97 (hG : Γ 0 = some sortsT) (hG2 : Γ 2 = some [int 0, int 0]) (f : Fm) (hl : f.nodes.length ≤ 1000000) (hc : ∀ n ∈ f.nodes, NdFit n) :
  PCalls Tryz.prog Γ 97 [fmA f] (.tup [slP (if (casesR f).2 = 0 then (pvR (casesR f).1).1 else []), int (if (casesR f).2 = 0 then (pvR (casesR f).1).2 else (casesR f).2)]) := by
 refine pcalls (ok97 Γ) fun σ => ?_
 simp only [go_sem, xP, xR, xS, Tryz.f97]
 refine callB_use (f179 hG hG2 f hl hc) rfl ?_
 simp only [go_sem, xP, xR, xS]
 by_cases hc0 : (casesR f).2 = 0
 ·have hck : checkE f = 0 := by
   by_cases e : checkE f = 0
   ·exact e
   ·rw [casesR, if_neg e] at hc0
    exact absurd hc0 e
  obtain ⟨hC1, hC2⟩ := cases_tm hck hc0
  rw [if_pos hc0, if_pos hc0]
  simp only [go_sem, xP, xR, xS, hc0]
  refine SemC.loopK mixed (casesR f).1.length (fun i ρ σ' ds => ds = [] ∧ (ρ 19 = slC (casesR f).1 ∧ ρ 20 = int (casesR f).1.length ∧ ρ 2 = .v (.slice none 0 0)) ∧ ρ 21 = int i ∧ Drop σ' σ ∧ ∃ acc, (acc.length = i ∧ pvL (casesR f).1 [] = pvL ((casesR f).1.drop i) acc) ∧ Grow σ σ' 1 (ρ 6) (acc.flatMap prCs) i) (by kernel_rfl) ?_ ?_
  ·exact ⟨rfl, by simp only [go_sem, xP, xR, xS, slC], rfl, Drop.refl _, [], ⟨rfl, rfl⟩, .nil _ _ _⟩
  rintro i ρ σ' ds hi ⟨rfl, H, h21, hD, acc, ⟨ha, hz⟩, hG⟩
  rcases get_or_end (casesR f).1 i hi with ⟨c, hcg0, hltc, hdc⟩ | hi
  ·have hcg := slC_get hcg0
   obtain ⟨c32, cT⟩ := hC2 c (mem_of_get hcg0)
   rw [hdc, pvL] at hz
   obtain ⟨a, haa⟩ : ∃ a, ρ 6 = a := ⟨_, rfl⟩
   rw [haa] at hG
   simp only [go_sem, xP, xR, xS, H, h21, hltc, hcg, slC]
   refine callB_use (f175 c (by omega) (fun t ht => by have := (cT t ht).len; have := (cT t ht).le; omega)) rfl ?_
   simp only [go_sem, xP, xR, xS, H, h21]
   intro b hb
   have zb := hD.free hb
   simp only [go_sem, xP, xR, xS, H, h21]
   cases hp : (pairP c).2
   ·rw [hp, if_neg (by decide)] at hz
    rw [pvR, hz]
    simp only [go_sem, xP, xR, xS, H, h21, hp]
    exact ⟨.tup (.cons .nil (.cons (.refl _) .nil)), by repeat (first | exact hD | refine Drop.upd ?_ zb)⟩
   ·rw [hp, if_pos rfl] at hz
    simp only [go_sem, xP, xR, xS, H, h21, hp, haa]
    refine appB_sl (appT_sl el147 tk36 by36 el147 (by decide) rfl (by decide)) (by repeat (first | exact hD | refine Drop.upd ?_ zb)) (m := i) (cs := acc.flatMap prCs) (by repeat (first | exact hG | refine Grow.updW ?_ (hG.neN hb) _)) rfl rfl (by omega) (fun a' σ2 hD2 hO hG2 => ?_)
    simp only [go_sem, xP, xR, xS, H, h21, hltc]
    refine ⟨by rw [wrap_succ _ (by omega)], hD2, acc ++ [(pairP c).1], ⟨by simp [ha], hz⟩, ?_⟩
    rw [List.flatMap_append]
    simpa [prCs, slS] using hG2
  ·subst hi
   rw [List.drop_length, pvL] at hz
   rw [pvR, hz]
   simp only [go_sem, xP, xR, xS, H, h21, Nat.lt_irrefl]
   have hr := (hG.retP hD).1
   rw [← ha] at hr
   exact ⟨.tup (.cons hr (.cons (.refl _) .nil)), hD⟩
 ·rw [if_neg hc0, if_neg hc0]
  simp only [go_sem, xP, xR, xS, hc0]
  exact ⟨.tup (.cons .nil (.cons (.refl _) .nil)), Drop.refl _⟩
theorem pairP_nil {c : List Tm} (h : (c.length : Int) = 0) : (pairP c).2 = false := by
 have : c = [] := List.eq_nil_of_length_eq_zero (by omega)
 subst this
 rfl
end Go.AL
