import Derived.Test.YtjimmpldofoimaaGreatDoorAlSeq
import Derived.Test.YtjimmpldofoimaaGreatDoorWb
set_option linter.unusedVariables false
set_option linter.unusedSimpArgs false
namespace Go.AL
open Go.Proofs
variable {Γ : Glob}
attribute [local irreducible] codeW opsW dopsW
theorem whenE_zero {b : Bool} {e : Int} (he : e ≠ 0) : whenE b e = 0 ↔ b = false := by cases b <;> simp [whenE, he]
theorem firstE_zero (l : List Int) : firstE l = 0 ↔ ∀ x ∈ l, x = 0 := by
 induction l with
 | nil => simp [firstE_nil]
 | cons x l ih =>
  rw [firstE_cons]
  by_cases h : x = 0
  ·rw [if_pos h, ih]; simp [h]
  ·rw [if_neg h]; simp [h]
def slR (l : List Rg) : AV := .sl (l.flatMap rgC) l.length
attribute [go_sem] slR
theorem rgC_len (r : Rg) : (rgC r).length = 2 := rfl
theorem rg_part {l : List Rg} {k : Nat} {t : Rg} (h : l[k]? = some t) (z : List AV) : TK.part ⟨true, 2, z⟩ (l.flatMap rgC) (k * 2) = some (rgA t) := part_rows (k := ⟨true, 2, z⟩) rfl rgC_len h
theorem rg_get0 {l : List Rg} {k : Nat} {t : Rg} (h : l[k]? = some t) : (l.flatMap rgC)[k * 2]? = some (int t.lo) := rows_get0 rgC_len h (by decide)
theorem rg_get1 {l : List Rg} {k : Nat} {t : Rg} (h : l[k]? = some t) : (l.flatMap rgC)[k * 2 + 1]? = some (int t.hi) := rows_get (j := 1) rgC_len h (by decide)
def spanE (r : Rg) : Int := firstE [withinE r.lo (-4294967295) 4294967295, withinE r.hi (-4294967295) 4294967295, whenE (decide (r.hi < r.lo)) 9]
def spansE (l : List Rg) (n : Int) : Int := firstE [whenE (!decide ((l.length : Int) = n)) 2, firstE (l.map spanE)]
def mn (a b : Int) : Int := if b < a then b else a
def mx (a b : Int) : Int := if a < b then b else a
def rangedF : List Int → List Rg → Rg → Rg
 | c :: cs, s :: ss, o => rangedF cs ss ⟨IntKind.i64.wrap (o.lo + mn (IntKind.i64.wrap (c * s.lo)) (IntKind.i64.wrap (c * s.hi))), IntKind.i64.wrap (o.hi + mx (IntKind.i64.wrap (c * s.lo)) (IntKind.i64.wrap (c * s.hi)))⟩
 | _, _, o => o
def valueF : List Int → List Int → Int → Int
 | c :: cs, v :: vs, n => valueF cs vs (IntKind.i64.wrap (n + IntKind.i64.wrap (c * v)))
 | _, _, n => n
def valueR (t : Tm) (vs : List Int) : Int := valueF t.coeffs vs t.const
theorem f78 (t : Tm) (vs : List Int) (hl : Fits vs.length) (hs : vs.length = t.coeffs.length) : PCalls Tryz.prog Γ 78 [tmA t, slI vs] (int (valueR t vs)) := by
 refine pcalls (ok78 Γ) fun σ => ?_
 simp only [go_sem, Tryz.f78]
 refine SemC.loopK mixed vs.length (fun k ρ σ' ds => σ' = σ ∧ ds = [] ∧ ρ 1 = slI vs ∧ ρ 2 = .pp (tmC t) 0 ∧ ρ 6 = int k ∧ ∃ n, ρ 5 = int n ∧ valueR t vs = valueF (t.coeffs.drop k) (vs.drop k) n) (by kernel_rfl) ⟨rfl, rfl, rfl, rfl, rfl, _, rfl, rfl⟩ ?_
 rintro k ρ σ' ds hk ⟨rfl, rfl, h1, h2, h6, n, h5, hz⟩
 rcases get_or_end vs k hk with ⟨v, hv, hlt, hd⟩ | hk
 ·rcases get_or_end t.coeffs k (by omega) with ⟨c, hc, hlts, hds⟩ | hk2
  ·rw [hd, hds, valueF] at hz
   simp only [go_sem, h1, h2, h5, h6, hlt, hlts, hc, hv]
   exact ⟨by rw [wrap_succ _ (by omega)], _, rfl, hz⟩
  ·omega
 ·subst hk
  simp only [go_sem, h1, h2, h5, h6, Nat.lt_irrefl]
  exact retP_eq (by rw [hz]; simp [valueF])
theorem f219 (n : Int) : PCalls Tryz.prog Γ 219 [int n] (int (withinE n (-4294967295) 4294967295)) := by
 refine pcalls (ok219 Γ) fun σ => ?_
 simp only [go_sem, Tryz.f219]
 refine callB_use (f228 n 4294967295 (by decide) (by decide)) rfl ?_
 simp only [go_sem]
def valuesE (l : List Int) (n : Int) : Int := firstE [whenE (!decide ((l.length : Int) = n)) 2, firstE (l.map fun x => withinE x (-4294967295) 4294967295)]
theorem f136 (l : List Int) (n : Int) (hl : Fits l.length) : PCalls Tryz.prog Γ 136 [slI l, int n] (int (valuesE l n)) := by
 refine pcalls (ok136 Γ) fun σ => ?_
 simp only [go_sem, Tryz.f136]
 refine callB_use (f144 _ _) rfl ?_
 simp only [go_sem]
 refine callB_use (f218 l hl _ (fun x => withinE x (-4294967295) 4294967295) (fun x _ => dcall_of (f219 x) rfl)) rfl ?_
 simp only [go_sem]
 refine callB_use (f135 _ (by simpa using hl)) rfl ?_
 simp only [go_sem]
 refine callB_use (f135 [_, _] (by simp)) rfl ?_
 simp only [go_sem]
 exact retP_eq rfl
theorem f45 (l : List Int) (n : Int) (hl' : (l.length : Int) = n → Fits l.length) : PCalls Tryz.prog Γ 45 [slI l, int n] (int (valuesE l n)) := by
 refine pcalls (ok45 Γ) fun σ => ?_
 by_cases hn : (l.length : Int) = n
 ·have hres : valuesE l n = firstE (l.map fun x => withinE x (-4294967295) 4294967295) := by
   simp [valuesE, hn, whenE, firstE_cons]
   intro h
   rw [h]
   rfl
  have hl := hl' hn
  simp only [go_sem, Tryz.f45, hn]
  refine SemC.loopK mixed l.length (fun k ρ σ' ds => σ' = σ ∧ ds = [] ∧ ρ 0 = slI l ∧ ρ 5 = int k ∧ valuesE l n = firstE ((l.drop k).map fun x => withinE x (-4294967295) 4294967295)) (by kernel_rfl) ⟨rfl, rfl, rfl, rfl, by simpa using hres⟩ ?_
  rintro k ρ σ' ds hk ⟨rfl, rfl, h0, h5, hz⟩
  rcases get_or_end l k hk with ⟨x, hx, hltk, hd⟩ | hk
  ·rw [hd, List.map_cons, firstE_cons] at hz
   simp only [go_sem, h0, h5, hltk, hx]
   refine callB_use (f129 _ _ _) rfl ?_
   by_cases hx0 : withinE x (-4294967295) 4294967295 = 0
   ·simp only [go_sem, h0, h5, hx0]
    exact ⟨hltk, by rw [wrap_succ _ (by omega)], by rw [hz, if_pos hx0]⟩
   ·simp only [go_sem, h0, h5, hx0, hz]
  ·subst hk
   simp only [go_sem, h0, h5, Nat.lt_irrefl]
   exact retP_eq (by rw [hz]; simp [firstE])
 ·simp only [go_sem, Tryz.f45, hn]
  exact retP_eq (by simp [valuesE, hn, whenE, firstE_cons])
theorem f160 (t : Tm) (hl : Fits t.coeffs.length) : PCalls Tryz.prog Γ 160 [tmA t] (int (checkTermE t t.coeffs.length)) := by
 refine pcalls (ok160 Γ) fun σ => ?_
 simp only [go_sem, Tryz.f160]
 refine callB_use (f80 t _ hl) rfl ?_
 simp only [go_sem]
theorem f138 (t : Tm) (vs : List Int) (hl : Fits vs.length) (hs : vs.length = t.coeffs.length) : PCalls Tryz.prog Γ 138 [tmA t, slI vs] (int (valueR t vs)) := by
 refine pcalls (ok138 Γ) fun σ => ?_
 simp only [go_sem, Tryz.f138]
 refine SemC.loopK mixed t.coeffs.length (fun k ρ σ' ds => σ' = σ ∧ ds = [] ∧ ρ 1 = slI vs ∧ ρ 11 = slI t.coeffs ∧ ρ 12 = int t.coeffs.length ∧ ρ 13 = int k ∧ ∃ n, ρ 5 = int n ∧ valueR t vs = valueF (t.coeffs.drop k) (vs.drop k) n) (by kernel_rfl) ⟨rfl, rfl, rfl, rfl, rfl, rfl, _, rfl, rfl⟩ ?_
 rintro k ρ σ' ds hk ⟨rfl, rfl, h1, h11, h12, h13, n, h5, hz⟩
 rcases get_or_end vs k (by omega) with ⟨v, hv, hlt, hd⟩ | hk
 ·rcases get_or_end t.coeffs k (by omega) with ⟨c, hc, hlts, hds⟩ | hk2
  ·rw [hd, hds, valueF] at hz
   simp only [go_sem, h1, h11, h12, h13, h5, hlt, hlts, hc, hv]
   exact ⟨by rw [wrap_succ _ (by omega)], _, rfl, hz⟩
  ·omega
 ·have hk' : k = t.coeffs.length := by omega
  subst hk'
  simp only [go_sem, h1, h11, h12, h13, h5, Nat.lt_irrefl]
  exact retP_eq (by rw [hz]; simp [valueF])
def valueE (t : Tm) (vs : List Int) : Int := firstE [checkTermE t t.coeffs.length, valuesE vs t.coeffs.length]
theorem f72 (t : Tm) (vs : List Int) (hl : Fits vs.length) (hc : Fits t.coeffs.length) : PCalls Tryz.prog Γ 72 [tmA t, slI vs] (.tup [int (if valueE t vs = 0 then valueR t vs else 0), int (valueE t vs)]) := by
 refine pcalls (ok72 Γ) fun σ => ?_
 simp only [go_sem, Tryz.f72]
 refine dcallB_use (f160 t hc) rfl ?_
 simp only [go_sem]
 refine callB_use (f136 vs _ hl) rfl ?_
 simp only [go_sem]
 refine callB_use (f135 [_, _] (by simp)) rfl ?_
 by_cases h : valueE t vs = 0
 ·have h' := h
  unfold valueE at h'
  have h2 := (firstE_zero _).1 h' (valuesE vs t.coeffs.length) (by simp)
  have h3 := (firstE_zero _).1 h2 (whenE (!decide ((vs.length : Int) = t.coeffs.length)) 2) (by simp)
  have h4 := (whenE_zero (by decide)).1 h3
  simp at h4
  simp only [go_sem, h', h]
  refine callB_use (f138 t vs hl (by omega)) rfl ?_
  simp only [go_sem]
 ·have h' := h
  unfold valueE at h'
  simp only [go_sem, h', h]
  exact retP_eq rfl
end Go.AL
