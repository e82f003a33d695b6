import Derived.Test.YtjimmpldofoimaaGreatDoorWa
set_option linter.unusedVariables false
set_option linter.unusedSimpArgs false
namespace Go.AL
open Go.Proofs
variable {Γ : Glob}
attribute [local irreducible] codeW opsW dopsW
theorem retP_drop {σ σ' : Sig} {r x : AV} (hd : Drop σ' σ) (h : x = r) : retP σ r x σ' := ⟨h ▸ .refl x, hd⟩
def slS (l : List St) : AV := .sl (l.flatMap stC) l.length
def prA (l : List St) : AV := .agg [slS l]
attribute [go_sem] slS prA
theorem st_part {l : List St} {k : Nat} {t : St} (h : l[k]? = some t) (z : List AV) : TK.part ⟨true, 6, z⟩ (l.flatMap stC) (k * 6) = some (stA t) := part_rows (k := ⟨true, 6, z⟩) rfl stC_len h
theorem st_get {l : List St} {k : Nat} {t : St} (h : l[k]? = some t) (j : Nat) (hj : j < 6) : (l.flatMap stC)[k * 6 + j]? = (stC t)[j]? := rows_get stC_len h hj
def stepsE (vars : Int) : Nat → List St → Int
 | _, [] => 0
 | k, s :: l => if stepE s k vars = 0 then stepsE vars (k + 1) l else stepE s k vars
def checkFormE (l : List St) (vars : Int) : Int :=
 let e := firstE [withinE vars 0 8, whenE (decide ((l.length : Int) = 0)) 10, whenE (decide (127 < (l.length : Int))) 5]
 if e = 0 then stepsE vars 0 l else e
theorem f29 (l : List St) (vars : Int) (hl : Fits l.length) (hc : ∀ s ∈ l, Fits s.factors.length) (hG : Γ 1 = some [int 0, int 0]) : PCalls Tryz.prog Γ 29 [prA l, int vars] (int (checkFormE l vars)) := by
 refine pcalls (ok29 Γ) fun σ => ?_
 simp only [go_sem, Tryz.f29]
 refine dcallB_use (f124 _ _ _) rfl ?_
 simp only [go_sem]
 refine dcallB_use (f121 _ _) rfl ?_
 simp only [go_sem]
 refine callB_use (f121 _ _) rfl ?_
 simp only [go_sem]
 refine callB_use (f120 [_, _, _] (by simp)) rfl ?_
 by_cases he : firstE [withinE vars 0 8, whenE (decide ((l.length : Int) = 0)) 10, whenE (decide (127 < (l.length : Int))) 5] = 0
 ·have hres : checkFormE l vars = stepsE vars 0 l := by simp only [checkFormE, he, if_true]
  simp only [go_sem, he]
  refine SemC.loopK mixed l.length (fun k ρ σ' ds => Drop σ' σ ∧ ds = [] ∧ ρ 1 = int vars ∧ ρ 27 = slS l ∧ ρ 28 = int l.length ∧ ρ 29 = int k ∧ checkFormE l vars = stepsE vars k (l.drop k)) (by kernel_rfl) ⟨.refl _, rfl, rfl, rfl, rfl, rfl, by simpa using hres⟩ ?_
  rintro k ρ σ' ds hk ⟨hD, rfl, h1, h27, h28, h29, hz⟩
  rcases get_or_end l k hk with ⟨x, hx, hlt, hd⟩ | hk
  ·rw [hd, stepsE] at hz
   simp only [go_sem, h1, h27, h28, h29, hlt, hx, ↓st_part hx]
   intro b hb
   simp only [go_sem, h1, h27, h28, h29, hlt, hx, ↓st_part hx]
   refine callB_use (f125 x _ _ (hc x (mem_of_get hx)) hG) rfl ?_
   by_cases hx0 : stepE x k vars = 0
   ·simp only [go_sem, h1, h27, h28, h29, hx0]
    exact ⟨hlt, hD.upd (hD.free hb), by rw [wrap_succ _ (by omega)], by rw [hz, if_pos hx0]⟩
   ·simp only [go_sem, h1, h27, h28, h29, hx0]
    exact retP_drop (hD.upd (hD.free hb)) (by rw [hz, if_neg hx0])
  ·subst hk
   simp only [go_sem, h1, h27, h28, h29, Nat.lt_irrefl]
   exact retP_drop hD (by rw [hz]; simp [stepsE])
 ·simp only [go_sem, he]
  exact retP_eq (by simp only [checkFormE, he, if_false, int])
def shortStepB (s : St) : Bool := decide (s.factors.length ≤ 16) || decide (s.factors.length = 168)
def shortB (l : List St) : Bool := l.all shortStepB && (decide (l.length ≤ 12) || decide (l.length = 128))
theorem f21 (l : List St) (hl : l.length ≤ 9223372036854775807) : PCalls Tryz.prog Γ 21 [prA l] (.v (.bool (shortB l))) := by
 refine pcalls (ok21 Γ) fun σ => ?_
 simp only [go_sem, Tryz.f21]
 refine SemC.loopK mixed l.length (fun k ρ σ' ds => σ' = σ ∧ ds = [] ∧ ρ 1 = .pp [slS l] 0 ∧ ρ 3 = int k ∧ l.all shortStepB = (l.drop k).all shortStepB) (by kernel_rfl) ⟨rfl, rfl, rfl, rfl, by simp⟩ ?_
 rintro k ρ σ' ds hk ⟨rfl, rfl, h1, h3, hz⟩
 rcases get_or_end l k hk with ⟨x, hx, hlt, hd⟩ | hk
 ·rw [hd, List.all_cons] at hz
  have hg := st_get hx 1 (by decide)
  by_cases h16 : (16 : Int) < x.factors.length
  ·by_cases h168 : (x.factors.length : Int) = 168
   ·have hs : shortStepB x = true := by simp [shortStepB]; omega
    simp only [go_sem, h1, h3, hlt, hx, hg, h16, h168]
    exact ⟨by rw [wrap_succ _ (by omega)], by rw [hz, hs, Bool.true_and]⟩
   ·have hs : shortStepB x = false := by simp [shortStepB]; omega
    simp only [go_sem, h1, h3, hlt, hx, hg, h16, h168]
    exact retP_eq (by simp [shortB, hz, hs])
  ·have hs : shortStepB x = true := by simp [shortStepB]; omega
   simp only [go_sem, h1, h3, hlt, hx, hg, h16]
   exact ⟨by rw [wrap_succ _ (by omega)], by rw [hz, hs, Bool.true_and]⟩
 ·subst hk
  have hz' : l.all shortStepB = true := by simpa using hz
  by_cases h12 : (l.length : Int) ≤ 12
  ·simp only [go_sem, h1, h3, Nat.lt_irrefl, h12]
   have : l.length ≤ 12 := by omega
   exact retP_eq (by simp [shortB, hz', this])
  ·simp only [go_sem, h1, h3, Nat.lt_irrefl, h12]
   have : ¬ l.length ≤ 12 := by omega
   exact retP_eq (by simp [shortB, hz', this]; omega)
def stepR (s : St) (n vars : Int) : Int :=
 if s.leaf then
  if s.factors.length > 167 then 5
  else if firstE (s.factors.map fun n => withinE n 0 1000) = 0 then whenE (decide (s.var ≠ 0) || decide (s.bound ≠ 0) || !(decide (s.k0 = 0) && decide (s.k1 = 0))) 1 else firstE (s.factors.map fun n => withinE n 0 1000)
 else
  let e := firstE [whenE (decide (0 < s.factors.length)) 1, whenE (decide (s.var < 0) || decide (vars ≤ s.var)) 8, withinE s.bound (-4294967295) 4294967295]
  if e = 0 then (if s.k0 < 0 ∨ n ≤ s.k0 then 9 else if s.k1 < 0 ∨ n ≤ s.k1 then 9 else 0) else e
def stepsR (vars : Int) : Nat → List St → Int
 | _, [] => 0
 | k, s :: l => if stepR s k vars = 0 then stepsR vars (k + 1) l else stepR s k vars
def checkFormR (l : List St) (vars : Int) : Int :=
 let e := firstE [withinE vars 0 8, whenE (decide ((l.length : Int) = 0)) 10, whenE (decide (127 < (l.length : Int))) 5]
 if e = 0 then stepsR vars 0 l else e
theorem f30 (l : List St) (vars : Int) (hl : Fits l.length) (hc : ∀ s ∈ l, Fits s.factors.length) (h126 : ∀ s ∈ l, ∀ n v, PCalls Tryz.prog Γ 126 [stA s, int n, int v] (int (stepR s n v))) : PCalls Tryz.prog Γ 30 [prA l, int vars] (int (checkFormR l vars)) := by
 refine pcalls (ok30 Γ) fun σ => ?_
 simp only [go_sem, Tryz.f30]
 refine dcallB_use (f68 _) rfl ?_
 simp only [go_sem]
 refine dcallB_use (f67 _ _) rfl ?_
 simp only [go_sem]
 refine callB_use (f67 _ _) rfl ?_
 simp only [go_sem]
 refine callB_use (f33 [_, _, _] (by simp)) rfl ?_
 by_cases he : firstE [withinE vars 0 8, whenE (decide ((l.length : Int) = 0)) 10, whenE (decide (127 < (l.length : Int))) 5] = 0
 ·have hres : checkFormR l vars = stepsR vars 0 l := by simp only [checkFormR, he, if_true]
  simp only [go_sem, he]
  refine SemC.loopK mixed l.length (fun k ρ σ' ds => σ' = σ ∧ ds = [] ∧ ρ 1 = int vars ∧ ρ 2 = .pp [slS l] 0 ∧ ρ 6 = int k ∧ checkFormR l vars = stepsR vars k (l.drop k)) (by kernel_rfl) ⟨rfl, rfl, rfl, rfl, rfl, by simpa using hres⟩ ?_
  rintro k ρ σ' ds hk ⟨rfl, rfl, h1, h2, h6, hz⟩
  rcases get_or_end l k hk with ⟨x, hx, hlt, hd⟩ | hk
  ·rw [hd, stepsR] at hz
   simp only [go_sem, h1, h2, h6, hlt, hx, ↓st_part hx]
   refine callB_use (h126 x (mem_of_get hx) _ _) rfl ?_
   by_cases hx0 : stepR x k vars = 0
   ·simp only [go_sem, h1, h2, h6, hx0]
    exact ⟨hlt, by rw [wrap_succ _ (by omega)], by rw [hz, if_pos hx0]⟩
   ·simp only [go_sem, h1, h2, h6, hx0]
    exact retP_eq (by rw [hz, if_neg hx0])
  ·subst hk
   simp only [go_sem, h1, h2, h6, Nat.lt_irrefl]
   exact retP_eq (by rw [hz]; simp [stepsR])
 ·simp only [go_sem, he]
  exact retP_eq (by simp only [checkFormR, he, if_false])
theorem f126 (s : St) (n vars : Int) (hl : Fits s.factors.length) : PCalls Tryz.prog Γ 126 [stA s, int n, int vars] (int (stepR s n vars)) := by
 refine pcalls (ok126 Γ) fun σ => ?_
 cases hleaf : s.leaf with
 | true =>
  by_cases h167 : s.factors.length > 167
  ·have h167' : (167 : Int) < s.factors.length := by omega
   simp only [go_sem, Tryz.f126, hleaf, h167']
   exact retP_eq (by simp [stepR, hleaf, h167])
  ·have h167' : ¬ (167 : Int) < s.factors.length := by omega
   have hres : stepR s n vars = if firstE (s.factors.map fun n => withinE n 0 1000) = 0 then whenE (decide (s.var ≠ 0) || decide (s.bound ≠ 0) || !(decide (s.k0 = 0) && decide (s.k1 = 0))) 1 else firstE (s.factors.map fun n => withinE n 0 1000) := by
    simp only [stepR, hleaf, if_true, h167, if_false]
   simp only [go_sem, Tryz.f126, hleaf, h167']
   refine SemC.loopK mixed s.factors.length (fun k ρ σ' ds => σ' = σ ∧ ds = [] ∧ ρ 3 = .pp (stC { s with leaf := true }) 0 ∧ ρ 9 = int k ∧ firstE (s.factors.map fun n => withinE n 0 1000) = firstE ((s.factors.drop k).map fun n => withinE n 0 1000)) (by kernel_rfl) ⟨rfl, rfl, rfl, rfl, by simp⟩ ?_
   rintro k ρ σ' ds hk ⟨rfl, rfl, h3, h9, hz⟩
   rcases get_or_end s.factors k hk with ⟨x, hx, hlt, hd⟩ | hk
   ·rw [hd, List.map_cons, firstE_cons] at hz
    simp only [go_sem, h3, h9, hlt, hx]
    refine callB_use (f129 _ _ _) rfl ?_
    by_cases hx0 : withinE x 0 1000 = 0
    ·simp only [go_sem, h3, h9, hx0]
     exact ⟨hlt, by rw [wrap_succ _ (by omega)], by rw [hz, if_pos hx0]⟩
    ·simp only [go_sem, h3, h9, hx0]
     exact retP_eq (by rw [hres, hz, if_neg hx0, if_neg hx0])
   ·subst hk
    have hz' : firstE (s.factors.map fun n => withinE n 0 1000) = 0 := by rw [hz]; simp [firstE]
    rw [hz', if_pos rfl] at hres
    by_cases hv : s.var = 0
    ·by_cases hb : s.bound = 0
     ·simp only [go_sem, h3, h9, Nat.lt_irrefl, hv, hb]
      refine callB_use (f67 _ _) rfl ?_
      simp only [go_sem]
      exact retP_eq (by rw [hres]; simp [hv, hb])
     ·simp only [go_sem, h3, h9, Nat.lt_irrefl, hv, hb]
      refine callB_use (f67 _ _) rfl ?_
      simp only [go_sem]
      exact retP_eq (by rw [hres]; simp [hv, hb])
    ·simp only [go_sem, h3, h9, Nat.lt_irrefl, hv]
     refine callB_use (f67 _ _) rfl ?_
     simp only [go_sem]
     exact retP_eq (by rw [hres]; simp [hv])
 | false =>
  have key : ∀ (e : Int), e = firstE [whenE (decide (0 < s.factors.length)) 1, whenE (decide (s.var < 0) || decide (vars ≤ s.var)) 8, withinE s.bound (-4294967295) 4294967295] →
    stepR s n vars = if e = 0 then (if s.k0 < 0 ∨ n ≤ s.k0 then 9 else if s.k1 < 0 ∨ n ≤ s.k1 then 9 else 0) else e := by
   intro e he
   subst he
   simp only [stepR, hleaf, Bool.false_eq_true, if_false]
  have h0 : decide ((0 : Int) < s.factors.length) = decide (0 < s.factors.length) := by simp
  simp only [go_sem, Tryz.f126, hleaf]
  refine dcallB_use (f67 _ _) rfl ?_
  by_cases hv : s.var < 0
  ·simp only [go_sem, hv]
   refine dcallB_use (f67 _ _) rfl ?_
   simp only [go_sem]
   refine callB_use (f129 _ _ _) rfl ?_
   simp only [go_sem]
   refine callB_use (f33 [_, _, _] (by simp)) rfl ?_
   generalize he : firstE [whenE (decide ((0 : Int) < s.factors.length)) 1, whenE true 8, withinE s.bound (-4294967295) 4294967295] = e
   have hk := key e (by rw [← he]; simp [hv])
   by_cases h : e = 0
   ·simp only [go_sem, h]
    refine SemC.loopK mixed 2 (fun k ρ σ' ds => σ' = σ ∧ ds = [] ∧ ρ 1 = int n ∧ ρ 3 = .pp (stC { s with leaf := false }) 0 ∧ ρ 8 = int k ∧ stepR s n vars = if k = 0 then (if s.k0 < 0 ∨ n ≤ s.k0 then 9 else if s.k1 < 0 ∨ n ≤ s.k1 then 9 else 0) else if k = 1 then (if s.k1 < 0 ∨ n ≤ s.k1 then 9 else 0) else 0) (by kernel_rfl) ⟨rfl, rfl, rfl, rfl, rfl, by rw [hk, if_pos h]; rfl⟩ ?_
    rintro k ρ σ' ds hk2 ⟨rfl, rfl, h1, h3, h8, hz⟩
    rcases (by omega : k = 0 ∨ k = 1 ∨ k = 2) with rfl | rfl | rfl
    ·by_cases a : s.k0 < 0
     ·simp only [go_sem, h1, h3, h8, a]
      exact retP_eq (by rw [hz]; simp [a])
     ·by_cases b : n ≤ s.k0
      ·simp only [go_sem, h1, h3, h8, a, b]
       exact retP_eq (by rw [hz]; simp [a, b])
      ·simp only [go_sem, h1, h3, h8, a, b]
       exact ⟨by decide, by rw [wrap_i64 _ (by decide) (by decide)]; rfl, by rw [hz]; simp [a, b]⟩
    ·by_cases a : s.k1 < 0
     ·simp only [go_sem, h1, h3, h8, a]
      exact retP_eq (by rw [hz]; simp [a])
     ·by_cases b : n ≤ s.k1
      ·simp only [go_sem, h1, h3, h8, a, b]
       exact retP_eq (by rw [hz]; simp [a, b])
      ·simp only [go_sem, h1, h3, h8, a, b]
       exact ⟨by decide, by rw [wrap_i64 _ (by decide) (by decide)]; rfl, by rw [hz]; simp [a, b]⟩
    ·simp only [go_sem, h1, h3, h8]
     exact retP_eq (by rw [hz]; simp)
   ·simp only [go_sem, h]
    exact retP_eq (by rw [hk, if_neg h])
  ·simp only [go_sem, hv]
   refine dcallB_use (f67 _ _) rfl ?_
   simp only [go_sem]
   refine callB_use (f129 _ _ _) rfl ?_
   simp only [go_sem]
   refine callB_use (f33 [_, _, _] (by simp)) rfl ?_
   generalize he : firstE [whenE (decide ((0 : Int) < s.factors.length)) 1, whenE (decide (vars ≤ s.var)) 8, withinE s.bound (-4294967295) 4294967295] = e
   have hk := key e (by rw [← he]; simp [hv])
   by_cases h : e = 0
   ·simp only [go_sem, h]
    refine SemC.loopK mixed 2 (fun k ρ σ' ds => σ' = σ ∧ ds = [] ∧ ρ 1 = int n ∧ ρ 3 = .pp (stC { s with leaf := false }) 0 ∧ ρ 8 = int k ∧ stepR s n vars = if k = 0 then (if s.k0 < 0 ∨ n ≤ s.k0 then 9 else if s.k1 < 0 ∨ n ≤ s.k1 then 9 else 0) else if k = 1 then (if s.k1 < 0 ∨ n ≤ s.k1 then 9 else 0) else 0) (by kernel_rfl) ⟨rfl, rfl, rfl, rfl, rfl, by rw [hk, if_pos h]; rfl⟩ ?_
    rintro k ρ σ' ds hk2 ⟨rfl, rfl, h1, h3, h8, hz⟩
    rcases (by omega : k = 0 ∨ k = 1 ∨ k = 2) with rfl | rfl | rfl
    ·by_cases a : s.k0 < 0
     ·simp only [go_sem, h1, h3, h8, a]
      exact retP_eq (by rw [hz]; simp [a])
     ·by_cases b : n ≤ s.k0
      ·simp only [go_sem, h1, h3, h8, a, b]
       exact retP_eq (by rw [hz]; simp [a, b])
      ·simp only [go_sem, h1, h3, h8, a, b]
       exact ⟨by decide, by rw [wrap_i64 _ (by decide) (by decide)]; rfl, by rw [hz]; simp [a, b]⟩
    ·by_cases a : s.k1 < 0
     ·simp only [go_sem, h1, h3, h8, a]
      exact retP_eq (by rw [hz]; simp [a])
     ·by_cases b : n ≤ s.k1
      ·simp only [go_sem, h1, h3, h8, a, b]
       exact retP_eq (by rw [hz]; simp [a, b])
      ·simp only [go_sem, h1, h3, h8, a, b]
       exact ⟨by decide, by rw [wrap_i64 _ (by decide) (by decide)]; rfl, by rw [hz]; simp [a, b]⟩
    ·simp only [go_sem, h1, h3, h8]
     exact retP_eq (by rw [hz]; simp)
   ·simp only [go_sem, h]
    exact retP_eq (by rw [hk, if_neg h])
theorem f202 (c : Int) (l : List Int) : PCalls Tryz.prog Γ 202 [int c, slI l] (tmA ⟨l, c⟩) := by
 refine pcalls (ok202 Γ) fun σ => ?_
 simp only [go_sem, Tryz.f202]
 intro b hb
 simp only [go_sem, upd_same]
 exact retP_drop (((Drop.refl σ).upd hb).upd hb) rfl
structure Rg where
 lo : Int
 hi : Int
 deriving DecidableEq, Inhabited
def rgC (r : Rg) : List AV := [int r.lo, int r.hi]
def rgA (r : Rg) : AV := .agg (rgC r)
attribute [go_sem] rgC rgA
theorem f181 (r : Rg) : PCalls Tryz.prog Γ 181 [rgA r] (int r.lo) := by
 refine pcalls (ok181 Γ) fun σ => ?_
 simp only [go_sem, Tryz.f181]
theorem f213 (r : Rg) : PCalls Tryz.prog Γ 213 [rgA r] (int (IntKind.i64.wrap (r.hi - r.lo))) := by
 refine pcalls (ok213 Γ) fun σ => ?_
 simp only [go_sem, Tryz.f213]
theorem f38 (a b : List Int) (hl : Fits a.length) : PCalls Tryz.prog Γ 38 [slI a, slI b] (.v (.bool (decide (a = b)))) := by
 refine pcalls (ok38 Γ) fun σ => ?_
 by_cases hn : (a.length : Int) = b.length
 ·have hn' : a.length = b.length := by omega
  simp only [go_sem, Tryz.f38, hn]
  refine SemC.loopK mixed a.length (fun k ρ σ' ds => σ' = σ ∧ ds = [] ∧ ρ 0 = slI a ∧ ρ 1 = slI b ∧ ρ 5 = int k ∧ decide (a = b) = decide (a.drop k = b.drop k)) (by kernel_rfl) ⟨rfl, rfl, by rw [slI, hn']; rfl, rfl, rfl, by simp⟩ ?_
  rintro k ρ σ' ds hk ⟨rfl, rfl, h0, h1, h5, hz⟩
  rcases get_or_end a k hk with ⟨x, hx, hlt, hd⟩ | hk
  ·rcases get_or_end b k (by omega) with ⟨y, hy, hlt2, hd2⟩ | hk2
   ·rw [hd, hd2] at hz
    by_cases hxy : x = y
    ·simp only [go_sem, h0, h1, h5, hlt, hlt2, hx, hy, hxy]
     exact ⟨by rw [wrap_succ _ (by omega)], by rw [hz]; simp [hxy]⟩
    ·simp only [go_sem, h0, h1, h5, hlt, hlt2, hx, hy, hxy]
     exact retP_eq (by rw [hz]; simp [hxy])
   ·omega
  ·subst hk
   simp only [go_sem, h0, h1, h5, Nat.lt_irrefl]
   exact retP_eq (by rw [hz]; simp [hn'])
 ·have hne : a ≠ b := fun e => hn (by rw [e])
  simp only [go_sem, Tryz.f38, hn]
  exact retP_eq (by simp [hne])
theorem src_slI (σ : Sig) (l : List Int) : Src σ 1 (slI l) (ints l) l.length := ⟨rfl, rfl, by simp [ints]⟩
theorem f117 (t : Tm) (hl : Fits t.coeffs.length) : PCalls Tryz.prog Γ 117 [tmA t] (tmA t) := by
 refine pcalls (ok117 Γ) fun σ => ?_
 simp only [go_sem, Tryz.f117]
 intro b hb
 simp only [go_sem]
 refine appB_pure (appT_sl el46 tk3 by3 el46 (by decide) rfl (by decide)) (.inr rfl) (src_slI _ t.coeffs) (by simp [ints]) (by omega) ?_
 simp only [go_sem]
 exact retP_drop (((Drop.refl σ).upd hb).upd hb) rfl
theorem Grow.ne {σ0 σ : Sig} {s n b s' c' : Nat} {a : AV} {cs cs' : List AV} (h : Grow σ0 σ s a cs n) (hb : σ b = some (.row cs' s' c')) (hs : s' ≠ s) : ∀ s1 o m, a ≠ .own b s1 o m := by
 intro s1 o m e
 rcases h with ⟨h | h, _⟩ | ⟨b0, c, h0, _, h2, _⟩
 ·rw [h] at e; cases e
 ·rw [h] at e; cases e
 ·rw [h0] at e; cases e
  rw [h2] at hb
  cases hb
  exact hs rfl
theorem Grow.upd_row {σ0 σ : Sig} {s n b s' c' : Nat} {a : AV} {cs cs' : List AV} {x : Option Blk} (h : Grow σ0 σ s a cs n) (hb : σ b = some (.row cs' s' c')) (hs : s' ≠ s) : Grow σ0 (AL.upd σ b x) s a cs n := by
 have hne := h.ne hb hs
 rcases h with h | ⟨b0, c, h0, h1, h2, h3⟩
 ·exact .inl h
 ·refine .inr ⟨b0, c, h0, h1, ?_, h3⟩
  have : b0 ≠ b := fun e => hne s 0 n (by rw [h0, e])
  simp [AL.upd, this, h2]
theorem Grow.cells {σ0 σ : Sig} {s n : Nat} {a : AV} {cs : List AV} (h : Grow σ0 σ s a cs n) : a.cells? = some [a] := by
 rcases h with ⟨rfl | rfl, _⟩ | ⟨b0, c, rfl, _⟩ <;> rfl
theorem Grow.one {σ0 σ : Sig} {s n : Nat} {a : AV} {cs : List AV} (h : Grow σ0 σ s a cs n) : a.one = true := by
 rcases h with ⟨rfl | rfl, _⟩ | ⟨b0, c, rfl, _⟩ <;> rfl
theorem none_ne {σ : Sig} {b b' : Nat} {x : Blk} (h : σ b = none) (h' : σ b' = some x) : ¬ b' = b := fun e => by rw [e, h] at h'; cases h'
theorem f118 (l : List St) (hl : Fits l.length) (hc : ∀ s ∈ l, Fits s.factors.length) : PCalls Tryz.prog Γ 118 [prA l] (prA l) := by
 refine pcalls (ok118 Γ) fun σ => ?_
 simp only [go_sem, Tryz.f118]
 intro b2 hb2
 simp only [go_sem]
 intro bo hbo
 have hne : ¬ bo = b2 := fun e => by subst e; simp [upd_same] at hbo
 rw [upd_ne _ _ _ _ hne] at hbo
 have hne' : ¬ b2 = bo := fun e => hne e.symm
 simp only [go_sem]
 refine SemC.loopK mixed l.length (fun k ρ σ' ds => Drop σ' σ ∧ ds = [] ∧ ρ 1 = .pp [slS l] 0 ∧ ρ 2 = .v (.pointer (some ⟨b2, 0, none⟩)) ∧ ρ 3 = .v (.pointer (some ⟨bo, 0, none⟩)) ∧ ρ 4 = int k ∧ σ' b2 = some (.row [.v (.slice none 0 0)] 1 1) ∧
  ∃ a, σ' bo = some (.row [a] 1 1) ∧ Grow σ σ' 6 a ((l.take k).flatMap stC) k) (by kernel_rfl) ⟨((Drop.refl σ).upd hb2).upd hbo, rfl, rfl, rfl, rfl, rfl, by simp [upd, hne'], _, by simp [upd], .nil _ _ _⟩ ?_
 rintro k ρ σ' ds hk ⟨hD, rfl, h1, h2, h3, h4, hs2, a, hso, hG⟩
 rcases get_or_end l k hk with ⟨x, hx, hlt, hd⟩ | hk
 ·simp only [go_sem, h1, h2, h3, h4, hlt, hx, ↓st_part hx]
  intro b hb
  have n2 := none_ne hb hs2
  have no := none_ne hb hso
  simp only [go_sem, h1, h2, h3, h4, hlt, hx, ↓st_part hx]
  refine appB_pure (appT_sl el46 tk3 by3 el46 (by decide) rfl (by decide)) (.inr rfl) (src_slI _ x.factors) (by simp [ints]) (by have := hc x (mem_of_get hx); omega) ?_
  simp only [go_sem, h1, h2, h3, h4, hlt, hx, ↓st_part hx, n2, no, hs2, hso]
  have hD1 := (hD.upd (hD.free hb) (x := some (.row (stC x) 6 1)))
  have hG1 := hG.upd hb (x := some (.row (stC x) 6 1))
  refine appB_sl (appT_sl el23 tk176 by176 el23 (by decide) rfl (by decide)) hD1 hG1 rfl rfl (by omega) (fun a' σ2 hD2 hO hG2 => ?_)
  have e2 : σ2 b2 = some (.row [.v (.slice none 0 0)] 1 1) := by
   rw [hO b2 (hG.ne hs2 (by decide)) (by simp [upd, n2, hs2])]; simp [upd, n2, hs2]
  have eo : σ2 bo = some (.row [a] 1 1) := by
   rw [hO bo (hG.ne hso (by decide)) (by simp [upd, no, hso])]; simp [upd, no, hso]
  have hc2 := hG2.cells
  have ho2 := hG2.one
  simp only [go_sem, h1, h2, h3, h4, e2, eo, hc2, ho2, hne', hlt]
  refine ⟨hD2.upd hbo, by rw [wrap_succ _ (by omega)], a', by simp [upd], ?_⟩
  rw [take_succ hx, List.flatMap_append]
  have := hG2.upd_row (x := some (.row [a'] 1 1)) eo (by decide)
  simpa [stC, slI, int] using this
 ·subst hk
  have ho := hG.one
  rw [List.take_length] at hG
  simp only [go_sem, h1, h2, h3, h4, Nat.lt_irrefl, hs2, hso, hne, ho]
  have hG' := hG.upd_row (x := some (.row [a] 1 1)) hs2 (by decide)
  exact ⟨.agg (.cons (hG'.retP (hD.upd hb2)).1 .nil), hD.upd hb2⟩
theorem f25 (l : List St) (hl : Fits l.length) (hc : ∀ s ∈ l, Fits s.factors.length) : PCalls Tryz.prog Γ 25 [prA l] (prA l) := by
 refine pcalls (ok25 Γ) fun σ => ?_
 simp only [go_sem, Tryz.f25]
 intro b2 hb2
 simp only [go_sem]
 intro bo hbo
 have hne : ¬ bo = b2 := fun e => by subst e; simp [upd_same] at hbo
 rw [upd_ne _ _ _ _ hne] at hbo
 have hne' : ¬ b2 = bo := fun e => hne e.symm
 simp only [go_sem]
 refine callB_use (f118 l hl hc) rfl ?_
 simp only [go_sem]
 refine SemC.loopK mixed l.length (fun k ρ σ' ds => Drop σ' σ ∧ ds = [] ∧ ρ 8 = slS l ∧ ρ 9 = int l.length ∧ ρ 2 = .v (.pointer (some ⟨b2, 0, none⟩)) ∧ ρ 3 = .v (.pointer (some ⟨bo, 0, none⟩)) ∧ ρ 10 = int k ∧ σ' b2 = some (.row [.v (.slice none 0 0)] 1 1) ∧
  ∃ a, σ' bo = some (.row [a] 1 1) ∧ Grow σ σ' 6 a ((l.take k).flatMap stC) k) (by kernel_rfl) ⟨((Drop.refl σ).upd hb2).upd hbo, rfl, rfl, rfl, rfl, rfl, rfl, by simp [upd, hne'], _, by simp [upd], .nil _ _ _⟩ ?_
 rintro k ρ σ' ds hk ⟨hD, rfl, h8, h9, h2, h3, h10, hs2, a, hso, hG⟩
 rcases get_or_end l k hk with ⟨x, hx, hlt, hd⟩ | hk
 ·simp only [go_sem, h8, h9, h2, h3, h10, hlt, hx, ↓st_part hx]
  intro b hb
  have n2 := none_ne hb hs2
  have no := none_ne hb hso
  simp only [go_sem, h8, h9, h2, h3, h10, hlt, hx, ↓st_part hx, n2, no, hs2, hso]
  have hD1 := (hD.upd (hD.free hb) (x := some (.row (stC x) 6 1)))
  have hG1 := hG.upd hb (x := some (.row (stC x) 6 1))
  refine appB_sl (appT_sl el34 tk179 by179 el34 (by decide) rfl (by decide)) hD1 hG1 rfl rfl (by omega) (fun a' σ2 hD2 hO hG2 => ?_)
  have e2 : σ2 b2 = some (.row [.v (.slice none 0 0)] 1 1) := by
   rw [hO b2 (hG.ne hs2 (by decide)) (by simp [upd, n2, hs2])]; simp [upd, n2, hs2]
  have eo : σ2 bo = some (.row [a] 1 1) := by
   rw [hO bo (hG.ne hso (by decide)) (by simp [upd, no, hso])]; simp [upd, no, hso]
  have hc2 := hG2.cells
  have ho2 := hG2.one
  simp only [go_sem, h8, h9, h2, h3, h10, e2, eo, hc2, ho2, hne', hlt]
  refine ⟨hD2.upd hbo, by rw [wrap_succ _ (by omega)], a', by simp [upd], ?_⟩
  rw [take_succ hx, List.flatMap_append]
  have := hG2.upd_row (x := some (.row [a'] 1 1)) eo (by decide)
  simpa [stC, slI, int] using this
 ·subst hk
  have ho := hG.one
  rw [List.take_length] at hG
  simp only [go_sem, h8, h9, h2, h3, h10, Nat.lt_irrefl, hs2, hso, hne, ho]
  have hG' := hG.upd_row (x := some (.row [a] 1 1)) hs2 (by decide)
  exact ⟨.agg (.cons (hG'.retP (hD.upd hb2)).1 .nil), hD.upd hb2⟩
end Go.AL
