/- What both chapters call: values, spans, ranges. -/
import Derived.Test.YtjimmpldofoimaaGreatDoorAlSeq
import Derived.Test.YtjimmpldofoimaaGreatDoorWb
open Nat renaming reduceEqDiff → xQ, reduceAdd → xA, reduceMul → xM, reduceLeDiff → xL
open Int renaming reduceLT → xT, reduceLE → xE, reduceToNat → xN
set_option linter.unusedVariables false
set_option linter.unusedSimpArgs false
namespace Go.AL
open Go.Proofs
variable {Γ : Glob}
attribute [local irreducible] codeW opsW dopsW
theorem whenE_zero {b : Bool} {e : Int} (he : e ≠ 0) : whenE b e = 0 ↔ b = false := by cases b <;> simp [whenE, he]
theorem firstE_zero (l : List Int) : firstE l = 0 ↔ ∀ x ∈ l, x = 0 := by
  induction l with
  | nil => simp [firstE_nil]
  | cons x l ih =>
    rw [firstE_cons]
    by_cases h : x = 0
    · rw [if_pos h, ih]; simp [h]
    · rw [if_neg h]; simp [h]
def slR (l : List Rg) : AV := .sl (l.flatMap rgC) l.length
attribute [go_sem] slR
theorem rgC_len (r : Rg) : (rgC r).length = 2 := rfl
theorem rg_part {l : List Rg} {k : Nat} {t : Rg} (h : l[k]? = some t) (z : List AV) : TK.part ⟨true, 2, z⟩ (l.flatMap rgC) (k * 2) = some (rgA t) := part_rows (k := ⟨true, 2, z⟩) rfl rgC_len h
theorem rg_get0 {l : List Rg} {k : Nat} {t : Rg} (h : l[k]? = some t) : (l.flatMap rgC)[k * 2]? = some (int t.lo) := rows_get0 rgC_len h (by decide)
theorem rg_get1 {l : List Rg} {k : Nat} {t : Rg} (h : l[k]? = some t) : (l.flatMap rgC)[k * 2 + 1]? = some (int t.hi) := rows_get (j := 1) rgC_len h (by decide)
def spanE (r : Rg) : Int := firstE [withinE r.lo (-4294967295) 4294967295, withinE r.hi (-4294967295) 4294967295, whenE (decide (r.hi < r.lo)) 9]
def spansE (l : List Rg) (n : Int) : Int := firstE [whenE (!decide ((l.length : Int) = n)) 2, firstE (l.map spanE)]
def mn (a b : Int) : Int := if b < a then b else a
def mx (a b : Int) : Int := if a < b then b else a
/-- The range of a term by spans, as the reference adds it up. -/
def rangedF : List Int → List Rg → Rg → Rg
  | c :: cs, s :: ss, o => rangedF cs ss ⟨IntKind.i64.wrap (o.lo + mn (IntKind.i64.wrap (c * s.lo)) (IntKind.i64.wrap (c * s.hi))), IntKind.i64.wrap (o.hi + mx (IntKind.i64.wrap (c * s.lo)) (IntKind.i64.wrap (c * s.hi)))⟩
  | _, _, o => o
def rangedR (t : Tm) (sp : List Rg) : Rg := rangedF t.coeffs sp ⟨t.const, t.const⟩
def valueF : List Int → List Int → Int → Int
  | c :: cs, v :: vs, n => valueF cs vs (IntKind.i64.wrap (n + IntKind.i64.wrap (c * v)))
  | _, _, n => n
def valueR (t : Tm) (vs : List Int) : Int := valueF t.coeffs vs t.const
theorem f78 (t : Tm) (vs : List Int) (hl : Fits vs.length) (hs : vs.length = t.coeffs.length) : PCalls Tryz.prog Γ 78 [tmA t, slI vs] (int (valueR t vs)) := by
  refine pcalls (ok78 Γ) fun σ => ?_
  simp only [go_sem, xQ, ↓reduceIte, xA, xM, xL, xT, xE, xN, Tryz.f78]
  refine SemC.loopK mixed vs.length (fun k ρ σ' ds => σ' = σ ∧ ds = [] ∧ ρ 1 = slI vs ∧ ρ 2 = .pp (tmC t) 0 ∧ ρ 6 = int k ∧ ∃ n, ρ 5 = int n ∧ valueR t vs = valueF (t.coeffs.drop k) (vs.drop k) n) (by kernel_rfl) ⟨rfl, rfl, rfl, rfl, rfl, _, rfl, rfl⟩ ?_
  rintro k ρ σ' ds hk ⟨rfl, rfl, h1, h2, h6, n, h5, hz⟩
  rcases get_or_end vs k hk with ⟨v, hv, hlt, hd⟩ | hk
  · rcases get_or_end t.coeffs k (by omega) with ⟨c, hc, hlts, hds⟩ | hk2
    · rw [hd, hds, valueF] at hz
      simp only [go_sem, xQ, ↓reduceIte, xA, xM, xL, xT, xE, xN, h1, h2, h5, h6, hlt, hlts, hc, hv]
      exact ⟨by rw [wrap_succ _ (by omega)], _, rfl, hz⟩
    · omega
  · subst hk
    simp only [go_sem, xQ, ↓reduceIte, xA, xM, xL, xT, xE, xN, h1, h2, h5, h6, Nat.lt_irrefl]
    exact retP_eq (by rw [hz]; simp [valueF])
theorem f34 (l : List Rg) (n : Int) (hl : Fits l.length) : PCalls Tryz.prog Γ 34 [slR l, int n] (int (spansE l n)) := by
  refine pcalls (ok34 Γ) fun σ => ?_
  by_cases hn : (l.length : Int) = n
  · have hres : spansE l n = firstE (l.map spanE) := by
      simp [spansE, hn, whenE, firstE_cons]
      intro h
      rw [h]
      rfl
    simp only [go_sem, xQ, ↓reduceIte, xA, xM, xL, xT, xE, xN, Tryz.f34, hn]
    refine SemC.loopK mixed l.length (fun k ρ σ' ds => σ' = σ ∧ ds = [] ∧ ρ 0 = slR l ∧ ρ 5 = int k ∧ spansE l n = firstE ((l.drop k).map spanE)) (by kernel_rfl) ⟨rfl, rfl, rfl, rfl, by simpa using hres⟩ ?_
    rintro k ρ σ' ds hk ⟨rfl, rfl, h0, h5, hz⟩
    rcases get_or_end l k hk with ⟨x, hx, hltk, hd⟩ | hk
    · rw [hd, List.map_cons, firstE_cons] at hz
      simp only [go_sem, xQ, ↓reduceIte, xA, xM, xL, xT, xE, xN, h0, h5, hltk, hx, ↓rg_get0 hx, ↓rg_get1 hx]
      refine dcallB_use (f129 _ _ _) rfl ?_
      simp only [go_sem, xQ, ↓reduceIte, xA, xM, xL, xT, xE, xN, h0, h5, hltk, hx, ↓rg_get0 hx, ↓rg_get1 hx]
      refine dcallB_use (f129 _ _ _) rfl ?_
      simp only [go_sem, xQ, ↓reduceIte, xA, xM, xL, xT, xE, xN, h0, h5, hltk, hx, ↓rg_get0 hx, ↓rg_get1 hx]
      refine callB_use (f67 _ _) rfl ?_
      simp only [go_sem, xQ, ↓reduceIte, xA, xM, xL, xT, xE, xN, h0, h5, hltk, hx]
      refine callB_use (f33 [_, _, _] (by simp)) rfl ?_
      by_cases hx0 : spanE x = 0
      · have hx0' := hx0
        unfold spanE at hx0'
        simp only [go_sem, xQ, ↓reduceIte, xA, xM, xL, xT, xE, xN, h0, h5, hx0']
        exact ⟨hltk, by rw [wrap_succ _ (by omega)], by rw [hz, if_pos hx0]⟩
      · have hx0' := hx0
        unfold spanE at hx0'
        simp only [go_sem, xQ, ↓reduceIte, xA, xM, xL, xT, xE, xN, h0, h5, hx0', hz, hx0]
        exact retP_eq rfl
    · subst hk
      simp only [go_sem, xQ, ↓reduceIte, xA, xM, xL, xT, xE, xN, h0, h5, Nat.lt_irrefl]
      exact retP_eq (by rw [hz]; simp [firstE])
  · simp only [go_sem, xQ, ↓reduceIte, xA, xM, xL, xT, xE, xN, Tryz.f34, hn]
    exact retP_eq (by simp [spansE, hn, whenE, firstE_cons])
theorem f63 (t : Tm) (sp : List Rg) (hl : Fits sp.length) (hs : sp.length = t.coeffs.length) : PCalls Tryz.prog Γ 63 [tmA t, slR sp] (rgA (rangedR t sp)) := by
  refine pcalls (ok63 Γ) fun σ => ?_
  simp only [go_sem, xQ, ↓reduceIte, xA, xM, xL, xT, xE, xN, Tryz.f63]
  intro b4 hb4
  simp only [go_sem, xQ, ↓reduceIte, xA, xM, xL, xT, xE, xN]
  intro b5 hb5
  have n5 : ¬ b5 = b4 := fun e => by rw [e] at hb5; simp [upd] at hb5
  have n5' : ¬ b4 = b5 := fun e => n5 e.symm
  simp only [go_sem, xQ, ↓reduceIte, xA, xM, xL, xT, xE, xN, upd_at, n5, n5']
  refine SemC.loopK mixed sp.length (fun k ρ σ' ds => Drop σ' σ ∧ ds = [] ∧ ρ 1 = slR sp ∧ ρ 2 = .pp (tmC t) 0 ∧ ρ 4 = .v (.pointer (some ⟨b4, 0, none⟩)) ∧ ρ 5 = .v (.pointer (some ⟨b5, 0, none⟩)) ∧ ρ 6 = int k ∧ ∃ o o4, σ' b4 = some (.row (rgC o4) 2 1) ∧ σ' b5 = some (.row (rgC o) 2 1) ∧ rangedR t sp = rangedF (t.coeffs.drop k) (sp.drop k) o) (by kernel_rfl)
    ⟨by repeat (first | exact Drop.refl _ | refine Drop.upd ?_ (by first | assumption | simpa [upd, n5] using hb5)), rfl, rfl, rfl, rfl, rfl, rfl, ⟨t.const, t.const⟩, ⟨0, 0⟩, by simp [upd, n5', rgC, int], by simp [upd, rgC, int, putL], rfl⟩ ?_
  rintro k ρ σ' ds hk ⟨hD, rfl, h1, h2, h4, h5, h6, o, o4, hs4, hs5, hz⟩
  rcases get_or_end sp k hk with ⟨r, hr, hlt, hd⟩ | hk
  · rcases get_or_end t.coeffs k (by omega) with ⟨c, hc, hlts, hds⟩ | hk2
    · rw [hd, hds, rangedF] at hz
      simp only [go_sem, xQ, ↓reduceIte, xA, xM, xL, xT, xE, xN, h1, h2, h4, h5, h6, hlt, hlts, hc, hs4, hs5, ↓rg_get0 hr, ↓rg_get1 hr]
      rw [if_neg n5']
      exact ⟨hD.upd (by rw [upd_ne _ _ _ _ n5] at hb5; exact hb5), by rw [wrap_succ _ (by omega)], ⟨_, _⟩, o4, rfl, rfl, hz⟩
    · omega
  · subst hk
    simp only [go_sem, xQ, ↓reduceIte, xA, xM, xL, xT, xE, xN, h1, h2, h4, h5, h6, Nat.lt_irrefl, hs4, hs5]
    have ho : o = rangedR t sp := by rw [hz]; simp [rangedF]
    subst ho
    exact retP_drop (hD.upd hb4) rfl
theorem f219 (n : Int) : PCalls Tryz.prog Γ 219 [int n] (int (withinE n (-4294967295) 4294967295)) := by
  refine pcalls (ok219 Γ) fun σ => ?_
  simp only [go_sem, xQ, ↓reduceIte, xA, xM, xL, xT, xE, xN, Tryz.f219]
  refine callB_use (f228 n 4294967295 (by decide) (by decide)) rfl ?_
  simp only [go_sem, xQ, ↓reduceIte, xA, xM, xL, xT, xE, xN]
theorem f138 (t : Tm) (vs : List Int) (hl : Fits vs.length) (hs : vs.length = t.coeffs.length) : PCalls Tryz.prog Γ 138 [tmA t, slI vs] (int (valueR t vs)) := by
  refine pcalls (ok138 Γ) fun σ => ?_
  simp only [go_sem, xQ, ↓reduceIte, xA, xM, xL, xT, xE, xN, Tryz.f138]
  refine SemC.loopK mixed t.coeffs.length (fun k ρ σ' ds => σ' = σ ∧ ds = [] ∧ ρ 1 = slI vs ∧ ρ 11 = slI t.coeffs ∧ ρ 12 = int t.coeffs.length ∧ ρ 13 = int k ∧ ∃ n, ρ 5 = int n ∧ valueR t vs = valueF (t.coeffs.drop k) (vs.drop k) n) (by kernel_rfl) ⟨rfl, rfl, rfl, rfl, rfl, rfl, _, rfl, rfl⟩ ?_
  rintro k ρ σ' ds hk ⟨rfl, rfl, h1, h11, h12, h13, n, h5, hz⟩
  rcases get_or_end vs k (by omega) with ⟨v, hv, hlt, hd⟩ | hk
  · rcases get_or_end t.coeffs k (by omega) with ⟨c, hc, hlts, hds⟩ | hk2
    · rw [hd, hds, valueF] at hz
      simp only [go_sem, xQ, ↓reduceIte, xA, xM, xL, xT, xE, xN, h1, h11, h12, h13, h5, hlt, hlts, hc, hv]
      exact ⟨by rw [wrap_succ _ (by omega)], _, rfl, hz⟩
    · omega
  · have hk' : k = t.coeffs.length := by omega
    subst hk'
    simp only [go_sem, xQ, ↓reduceIte, xA, xM, xL, xT, xE, xN, h1, h11, h12, h13, h5, Nat.lt_irrefl]
    exact retP_eq (by rw [hz]; simp [valueF])
end Go.AL
