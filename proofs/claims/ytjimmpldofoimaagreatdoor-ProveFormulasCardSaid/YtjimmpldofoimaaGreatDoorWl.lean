/- IsModel, the reference's Pair, what ProveModels calls. -/
import Derived.Test.YtjimmpldofoimaaGreatDoorWk
open Nat renaming reduceEqDiff → xQ, reduceAdd → xA, reduceMul → xM, reduceLeDiff → xL
open Int renaming reduceLT → xT, reduceLE → xE, reduceToNat → xN
set_option linter.unusedVariables false
set_option linter.unusedSimpArgs false
namespace Go.AL
open Go.Proofs
variable {Γ : Glob}
attribute [local irreducible] codeW opsW dopsW
def plainB (t : Tm) : Bool := t.coeffs.all fun c => decide (c = 0)
theorem f176 (t : Tm) (hl : Fits t.coeffs.length) : PCalls Tryz.prog Γ 176 [tmA t] (.v (.bool (plainB t))) := by
 refine pcalls (ok176 Γ) fun σ => ?_
 simp only [go_sem, xQ, ↓reduceIte, xA, xM, xL, xT, xE, xN, Tryz.f176]
 refine SemC.loopK mixed t.coeffs.length (fun k ρ σ' ds => σ' = σ ∧ ds = [] ∧ ρ 1 = .pp (tmC t) 0 ∧ ρ 3 = int k ∧ plainB t = (t.coeffs.drop k).all fun c => decide (c = 0)) (by kernel_rfl) ⟨rfl, rfl, rfl, rfl, rfl⟩ ?_
 rintro k ρ σ' ds hk ⟨rfl, rfl, h1, h3, hz⟩
 rcases get_or_end t.coeffs k hk with ⟨c, hc, hlt, hd⟩ | hk
 ·rw [hd, List.all_cons] at hz
  by_cases h : c = 0
  ·simp only [go_sem, xQ, ↓reduceIte, xA, xM, xL, xT, xE, xN, h1, h3, hlt, hc, h]
   exact ⟨by rw [wrap_succ _ (by omega)], by simpa [h] using hz⟩
  ·simp only [go_sem, xQ, ↓reduceIte, xA, xM, xL, xT, xE, xN, h1, h3, hlt, hc, h]
   exact retP_eq (by rw [hz]; simp [h])
 ·subst hk
  simp only [go_sem, xQ, ↓reduceIte, xA, xM, xL, xT, xE, xN, h1, h3, Nat.lt_irrefl]
  exact retP_eq (by rw [hz]; simp)
def opposedB : List Int → List Int → Bool
 | c :: cs, d :: ds => decide (IntKind.i64.wrap (c + d) = 0) && opposedB cs ds
 | _, _ => true
theorem f177 (a b : Tm) (hl : Fits a.coeffs.length) (hs : b.coeffs.length = a.coeffs.length) : PCalls Tryz.prog Γ 177 [tmA a, tmA b] (.v (.bool (opposedB a.coeffs b.coeffs))) := by
 refine pcalls (ok177 Γ) fun σ => ?_
 simp only [go_sem, xQ, ↓reduceIte, xA, xM, xL, xT, xE, xN, Tryz.f177]
 refine SemC.loopK mixed a.coeffs.length (fun k ρ σ' ds => σ' = σ ∧ ds = [] ∧ ρ 2 = .pp (tmC a) 0 ∧ ρ 3 = .pp (tmC b) 0 ∧ ρ 5 = int k ∧ opposedB a.coeffs b.coeffs = opposedB (a.coeffs.drop k) (b.coeffs.drop k)) (by kernel_rfl) ⟨rfl, rfl, rfl, rfl, rfl, rfl⟩ ?_
 rintro k ρ σ' ds hk ⟨rfl, rfl, h2, h3, h5, hz⟩
 rcases get_or_end a.coeffs k hk with ⟨c, hc, hlt, hd⟩ | hk
 ·rcases get_or_end b.coeffs k (by omega) with ⟨d, hcd, hlt2, hd2⟩ | hk2
  ·rw [hd, hd2, opposedB] at hz
   by_cases h : IntKind.i64.wrap (c + d) = 0
   ·simp only [go_sem, xQ, ↓reduceIte, xA, xM, xL, xT, xE, xN, h2, h3, h5, hlt, hlt2, hc, hcd, h]
    exact ⟨by rw [wrap_succ _ (by omega)], by simpa [h] using hz⟩
   ·simp only [go_sem, xQ, ↓reduceIte, xA, xM, xL, xT, xE, xN, h2, h3, h5, hlt, hlt2, hc, hcd, h]
    exact retP_eq (by rw [hz]; simp [h])
  ·omega
 ·subst hk
  simp only [go_sem, xQ, ↓reduceIte, xA, xM, xL, xT, xE, xN, h2, h3, h5, Nat.lt_irrefl]
  exact retP_eq (by rw [hz]; simp [opposedB])
theorem f91 (l : List St) (hl : Fits l.length) : PCalls Tryz.prog Γ 91 [prA l] (prA l) := by
 refine pcalls (ok91 Γ) fun σ => ?_
 simp only [go_sem, xQ, ↓reduceIte, xA, xM, xL, xT, xE, xN, Tryz.f91]
 intro b2 hb2
 simp only [go_sem, xQ, ↓reduceIte, xA, xM, xL, xT, xE, xN]
 intro bo hbo
 have hne : ¬ bo = b2 := fun e => by subst e; simp [upd_same] at hbo
 rw [upd_ne _ _ _ _ hne] at hbo
 have hne' : ¬ b2 = bo := fun e => hne e.symm
 simp only [go_sem, xQ, ↓reduceIte, xA, xM, xL, xT, xE, xN]
 refine SemC.loopK mixed l.length (fun k ρ σ' ds => Drop σ' σ ∧ ds = [] ∧ ρ 7 = slS l ∧ ρ 8 = int l.length ∧ ρ 2 = .v (.pointer (some ⟨b2, 0, none⟩)) ∧ ρ 3 = .v (.pointer (some ⟨bo, 0, none⟩)) ∧ ρ 9 = int k ∧ σ' b2 = some (.row [.v (.slice none 0 0)] 1 1) ∧
  ∃ a, σ' bo = some (.row [a] 1 1) ∧ Grow σ σ' 6 a ((l.take k).flatMap stC) k) (by kernel_rfl) ⟨((Drop.refl σ).upd hb2).upd hbo, rfl, rfl, rfl, rfl, rfl, rfl, by simp [upd, hne'], _, by simp [upd], .nil _ _ _⟩ ?_
 rintro k ρ σ' ds hk ⟨hD, rfl, h8, h9, h2, h3, h10, hs2, a, hso, hG⟩
 rcases get_or_end l k hk with ⟨x, hx, hlt, hd⟩ | hk
 ·simp only [go_sem, xQ, ↓reduceIte, xA, xM, xL, xT, xE, xN, h8, h9, h2, h3, h10, hlt, hx, ↓st_part hx]
  intro b hb
  have n2 := none_ne hb hs2
  have no := none_ne hb hso
  simp only [go_sem, xQ, ↓reduceIte, xA, xM, xL, xT, xE, xN, h8, h9, h2, h3, h10, hlt, hx, ↓st_part hx, n2, no, hs2, hso]
  have hD1 := (hD.upd (hD.free hb) (x := some (.row (stC x) 6 1)))
  have hG1 := hG.upd hb (x := some (.row (stC x) 6 1))
  refine appB_sl (appT_sl el23 tk176 by176 el23 (by decide) rfl (by decide)) hD1 hG1 rfl rfl (by omega) (fun a' σ2 hD2 hO hG2 => ?_)
  have e2 : σ2 b2 = some (.row [.v (.slice none 0 0)] 1 1) := by
   rw [hO b2 (hG.ne hs2 (by decide)) (by simp [upd, n2, hs2])]; simp [upd, n2, hs2]
  have eo : σ2 bo = some (.row [a] 1 1) := by
   rw [hO bo (hG.ne hso (by decide)) (by simp [upd, no, hso])]; simp [upd, no, hso]
  have hc2 := hG2.cells
  have ho2 := hG2.one
  simp only [go_sem, xQ, ↓reduceIte, xA, xM, xL, xT, xE, xN, h8, h9, h2, h3, h10, e2, eo, hc2, ho2, hne', hlt]
  refine ⟨hD2.upd hbo, by rw [wrap_succ _ (by omega)], a', by simp [upd], ?_⟩
  rw [take_succ hx, List.flatMap_append]
  have := hG2.upd_row (x := some (.row [a'] 1 1)) eo (by decide)
  simpa [stC, slI, int] using this
 ·subst hk
  have ho := hG.one
  rw [List.take_length] at hG
  simp only [go_sem, xQ, ↓reduceIte, xA, xM, xL, xT, xE, xN, h8, h9, h2, h3, h10, Nat.lt_irrefl, hs2, hso, hne, ho]
  have hG' := hG.upd_row (x := some (.row [a] 1 1)) hs2 (by decide)
  exact ⟨.agg (.cons (hG'.retP (hD.upd hb2)).1 .nil), hD.upd hb2⟩
end Go.AL

/- Same and Pair of the reference. -/
set_option linter.unusedVariables false
set_option linter.unusedSimpArgs false
namespace Go.AL
open Go.Proofs
variable {Γ : Glob}
attribute [local irreducible] codeW opsW dopsW
theorem f90 (a b : List St) (hl : Fits a.length) (hc : ∀ s ∈ a, Fits s.factors.length) : PCalls Tryz.prog Γ 90 [prA a, prA b] (.v (.bool (decide (a = b)))) := by
 refine pcalls (ok90 Γ) fun σ => ?_
 by_cases hn : a.length = b.length
 ·have hn' : ((a.length : Int) = b.length) = True := eq_true (by omega)
  simp only [go_sem, xQ, ↓reduceIte, xA, xM, xL, xT, xE, xN, Tryz.f90, hn']
  refine SemC.loopK mixed a.length (fun k ρ σ' ds => (ds = [] ∧ ρ 2 = .pp [slS a] 0 ∧ ρ 3 = .pp [slS b] 0 ∧ ρ 5 = int k) ∧ Drop σ' σ ∧ a.take k = b.take k) (by kernel_rfl) ⟨⟨rfl, rfl, rfl, rfl⟩, Drop.refl _, rfl⟩ ?_
  rintro k ρ σ' ds hk ⟨⟨rfl, h2, h3, h5⟩, hD, hz⟩
  rcases get_or_end a k hk with ⟨x, hx, hlt, hd⟩ | hk
  ·rcases get_or_end b k (by omega) with ⟨y, hy, hlt2, hd2⟩ | hk2
   ·have hne : x ≠ y → decide (a = b) = false := fun h => by
     simp only [decide_eq_false_iff_not]
     intro e
     rw [e, hy] at hx
     exact h (Option.some.inj hx).symm
    simp only [go_sem, xQ, ↓reduceIte, xA, xM, xL, xT, xE, xN, h2, h3, h5, hlt, hlt2, hx, hy, ↓st_part hx, ↓st_part hy]
    intro b6 hb6
    simp only [go_sem, xQ, ↓reduceIte, xA, xM, xL, xT, xE, xN, h2, h3, h5, hlt, hlt2, hx, hy, ↓st_part hx, ↓st_part hy]
    intro b7 hb7
    obtain ⟨n1, hb7⟩ := upd_none hb7
    have n1' : ¬ b6 = b7 := fun e => n1 e.symm
    have hD2 : ∀ x y : Blk, Drop (upd (upd σ' b6 (some x)) b7 (some y)) σ := fun x y => (hD.upd (hD.free hb6)).upd (hD.free hb7)
    have hD4 : ∀ x y z u : Blk, Drop (upd (upd (upd (upd σ' b6 (some x)) b7 (some y)) b6 (some z)) b7 (some u)) σ := fun x y z u => (((hD.upd (hD.free hb6)).upd (hD.free hb7)).upd (hD.free hb6)).upd (hD.free hb7)
    by_cases e1 : x.leaf = y.leaf
    ·have q1 : (x.leaf == y.leaf) = true := by simpa using e1
     simp only [go_sem, xQ, ↓reduceIte, xA, xM, xL, xT, xE, xN, h2, h3, h5, hlt, hlt2, hx, hy, n1, n1', q1]
     refine callB_use (f38 _ _ (hc x (mem_of_get hx))) rfl ?_
     by_cases e2 : x.factors = y.factors
     ·simp only [go_sem, xQ, ↓reduceIte, xA, xM, xL, xT, xE, xN, h2, h3, h5, hlt, hlt2, hx, hy, n1, n1', q1, e2]
      by_cases e3 : x.var = y.var
      ·simp only [go_sem, xQ, ↓reduceIte, xA, xM, xL, xT, xE, xN, h2, h3, h5, hlt, hlt2, hx, hy, n1, n1', q1, e2, e3]
       by_cases e4 : x.bound = y.bound
       ·simp only [go_sem, xQ, ↓reduceIte, xA, xM, xL, xT, xE, xN, h2, h3, h5, hlt, hlt2, hx, hy, n1, n1', q1, e2, e3, e4]
        by_cases e5 : x.k0 = y.k0
        ·by_cases e6 : x.k1 = y.k1
         ·simp only [go_sem, xQ, ↓reduceIte, xA, xM, xL, xT, xE, xN, h2, h3, h5, hlt, hlt2, hx, hy, n1, n1', q1, e2, e3, e4, e5, e6]
          refine ⟨by rw [wrap_succ _ (by omega)], ?_, ?_⟩
          ·repeat (first | assumption | refine Drop.upd ?_ (hD.free (by assumption)))
          ·have : x = y := by cases x; cases y; simp_all
           rw [take_succ hx, take_succ hy, hz, this]
         ·simp only [go_sem, xQ, ↓reduceIte, xA, xM, xL, xT, xE, xN, h2, h3, h5, hlt, hlt2, hx, hy, n1, n1', q1, e2, e3, e4, e5, e6, Bool.and_false]
          exact retP_drop (by repeat (first | assumption | refine Drop.upd ?_ (hD.free (by assumption)))) (by rw [hne fun e => e6 (by rw [e])])
        ·simp only [go_sem, xQ, ↓reduceIte, xA, xM, xL, xT, xE, xN, h2, h3, h5, hlt, hlt2, hx, hy, n1, n1', q1, e2, e3, e4, e5, Bool.false_and]
         exact retP_drop (by repeat (first | assumption | refine Drop.upd ?_ (hD.free (by assumption)))) (by rw [hne fun e => e5 (by rw [e])])
       ·simp only [go_sem, xQ, ↓reduceIte, xA, xM, xL, xT, xE, xN, h2, h3, h5, hlt, hlt2, hx, hy, n1, n1', q1, e2, e3, e4]
        exact retP_drop (by repeat (first | assumption | refine Drop.upd ?_ (hD.free (by assumption)))) (by rw [hne fun e => e4 (by rw [e])])
      ·simp only [go_sem, xQ, ↓reduceIte, xA, xM, xL, xT, xE, xN, h2, h3, h5, hlt, hlt2, hx, hy, n1, n1', q1, e2, e3]
       exact retP_drop (by repeat (first | assumption | refine Drop.upd ?_ (hD.free (by assumption)))) (by rw [hne fun e => e3 (by rw [e])])
     ·simp only [go_sem, xQ, ↓reduceIte, xA, xM, xL, xT, xE, xN, h2, h3, h5, hlt, hlt2, hx, hy, n1, n1', q1, e2]
      exact retP_drop (by repeat (first | assumption | refine Drop.upd ?_ (hD.free (by assumption)))) (by rw [hne fun e => e2 (by rw [e])])
    ·have q1 : (x.leaf == y.leaf) = false := by simpa using e1
     simp only [go_sem, xQ, ↓reduceIte, xA, xM, xL, xT, xE, xN, h2, h3, h5, hlt, hlt2, hx, hy, n1, n1', q1]
     exact retP_drop (by repeat (first | assumption | refine Drop.upd ?_ (hD.free (by assumption)))) (by rw [hne fun e => e1 (by rw [e])])
   ·omega
  ·subst hk
   simp only [go_sem, xQ, ↓reduceIte, xA, xM, xL, xT, xE, xN, h2, h3, h5, Nat.lt_irrefl]
   have : a = b := by rwa [List.take_length, hn, List.take_length] at hz
   exact retP_drop hD (by simp [this])
 ·have hn' : ((a.length : Int) = b.length) = False := eq_false (by omega)
  simp only [go_sem, xQ, ↓reduceIte, xA, xM, xL, xT, xE, xN, Tryz.f90, hn']
  exact retP_eq (by simp; intro e; exact hn (by rw [e]))
/-- The first term of a list that stands to a term as g says. -/
def oppGF (g : Tm → Tm → Bool) (a : Tm) : Nat → List Tm → Option Nat
 | _, [] => none
 | k, x :: l => if g a x then some k else oppGF g a (k + 1) l
def pairsGF (g : Tm → Tm → Bool) : Nat → List Tm → Option (List Nat)
 | _, [] => none
 | i, a :: l => match oppGF g a (i + 1) l with
  | some k => some [i, k]
  | none => pairsGF g (i + 1) l
def pnB (t : Tm) : Bool := plainB t && decide (t.const < 0)
def oppR (a b : Tm) : Bool := opposedB a.coeffs b.coeffs && decide (IntKind.i64.wrap (a.const + b.const) < 0)
def pairAtR (l : List Tm) : Option (List Nat) := if 0 ≤ idxE pnB 0 l then some [(idxE pnB 0 l).toNat] else pairsGF oppR 0 l
def pairR (l : List Tm) : List St × Bool := match pairAtR l with
 | some is => ([leafSt l.length is], true)
 | none => ([], false)
theorem f87 (l : List Tm) (m : Nat) (hl : Fits l.length) (hc : ∀ t ∈ l, t.coeffs.length = m) (hm : Fits m) : PCalls Tryz.prog Γ 87 [slT l] (.tup [prA (pairR l).1, .v (.bool (pairR l).2)]) := by
 have hA8 : (8 : Int) * l.length ≤ 140737488355328 := by omega
 have hA9 : (l.length : Int) ≤ 9223372036854775807 := by omega
 refine pcalls (ok87 Γ) fun σ => ?_
 simp only [go_sem, xQ, ↓reduceIte, xA, xM, xL, xT, xE, xN, Tryz.f87]
 intro b2 hb2
 simp only [go_sem, xQ, ↓reduceIte, xA, xM, xL, xT, xE, xN, hA8, hA9, ints_zeros]
 intro b4 hb4
 obtain ⟨n1, hb4⟩ := upd_none hb4
 have n1' : ¬ b2 = b4 := fun e => n1 e.symm
 simp only [go_sem, xQ, ↓reduceIte, xA, xM, xL, xT, xE, xN, hA8, hA9, ints_zeros, n1, n1']
 refine SemC.loopK mixed l.length (fun i ρ σ' ds => (ds = [] ∧ ρ 0 = slT l ∧ ρ 2 = .v (.pointer (some ⟨b2, 0, none⟩)) ∧ ρ 4 = .own b4 1 0 l.length ∧ ρ 5 = int i ∧ σ' b2 = some (.row [.v (.slice none 0 0)] 1 1) ∧ σ' b4 = some (.row (ints (List.replicate l.length 0)) 1 l.length)) ∧ Drop σ' σ ∧ idxE pnB 0 l = idxE pnB i (l.drop i)) (by kernel_rfl)
  ⟨by simp only [go_sem, xQ, ↓reduceIte, xA, xM, xL, xT, xE, xN, upd_at, n1, n1', ints_zeros], by repeat (first | exact Drop.refl _ | refine Drop.upd ?_ (by assumption)), rfl⟩ ?_
 rintro i ρ σ' ds hi ⟨⟨rfl, h0, h2, h4, h5, hs2, hs4⟩, hD, hz⟩
 rcases get_or_end l i hi with ⟨x, hx, hlt, hd⟩ | hk
 ·rw [hd, idxE] at hz
  have hput := ints_put (l := List.replicate l.length 0) (k := i) (x := 1) (by simpa using hlt)
  simp only [go_sem, xQ, ↓reduceIte, xA, xM, xL, xT, xE, xN, h0, h2, h4, h5, hlt, hx, ↓tm_part hx]
  refine callB_use (f176 x (by rw [hc x (mem_of_get hx)]; exact hm)) rfl ?_
  by_cases hp : pnB x = true
  ·rw [if_pos hp] at hz
   have hp' := hp
   simp only [pnB, Bool.and_eq_true, decide_eq_true_eq] at hp'
   have hr : pairR l = ([leafSt l.length [i]], true) := by rw [pairR, pairAtR, hz, if_pos (by omega)]; rfl
   have e : [leafSt l.length [i]].flatMap stC = [.v (.bool true), .sl (ints ((List.replicate l.length 0).set i 1)) l.length, int 0, int 0, int 0, int 0] := by simp [leafSt, stC, slI, onesF]
   have hlen : i + 1 ≤ l.length := hlt
   simp only [go_sem, xQ, ↓reduceIte, xA, xM, xL, xT, xE, xN, h0, h2, h4, h5, hlt, hx, hp'.1, hp'.2, hs4, hs2, ints_len, List.length_replicate, ↓hput, n1, n1', ↓tm_get1 hx, hlen]
   rw [hr]
   simp only [prA, slS]
   rw [e]
   refine ⟨.tup (.cons (.agg (.cons (.sl (.cons (.refl _) (.cons (put_own (c := l.length) ?_ ?_ ?_) (FzL.refl _)))) .nil)) (.cons (.refl _) .nil)), ?_⟩
   ·simp only [upd, n1, n1', if_true, if_false, hput]
   ·simp [ints_len]
   ·exact hb4
   ·repeat (first | assumption | refine Drop.upd ?_ (by assumption))
  ·have hp0 : pnB x = false := by simpa using hp
   rw [if_neg hp] at hz
   by_cases hp1 : plainB x = true
   ·have hcn : ¬ x.const < 0 := by simp [pnB, hp1] at hp0; omega
    simp only [go_sem, xQ, ↓reduceIte, xA, xM, xL, xT, xE, xN, h0, h2, h4, h5, hlt, hx, hp1, hcn, ↓tm_get1 hx]
    exact ⟨⟨by rw [wrap_succ _ (by omega)], hs2, hs4⟩, hD, hz⟩
   ·have hp2 : plainB x = false := by simpa using hp1
    simp only [go_sem, xQ, ↓reduceIte, xA, xM, xL, xT, xE, xN, h0, h2, h4, h5, hlt, hx, hp2]
    exact ⟨⟨by rw [wrap_succ _ (by omega)], hs2, hs4⟩, hD, hz⟩
 ·subst hk
  rw [List.drop_length, idxE] at hz
  have hp0 : pairAtR l = pairsGF oppR 0 l := by rw [pairAtR, hz]; rfl
  simp only [go_sem, xQ, ↓reduceIte, xA, xM, xL, xT, xE, xN, h0, h2, h4, h5, Nat.lt_irrefl]
  refine SemC.loopK mixed l.length (fun i ρ σ' ds => (ds = [] ∧ ρ 0 = slT l ∧ ρ 2 = .v (.pointer (some ⟨b2, 0, none⟩)) ∧ ρ 4 = .own b4 1 0 l.length ∧ ρ 6 = int i ∧ σ' b2 = some (.row [.v (.slice none 0 0)] 1 1) ∧ σ' b4 = some (.row (ints (List.replicate l.length 0)) 1 l.length)) ∧ Drop σ' σ ∧ pairAtR l = pairsGF oppR i (l.drop i)) (by kernel_rfl)
   ⟨by simp only [go_sem, xQ, ↓reduceIte, xA, xM, xL, xT, xE, xN, h0, h2, h4, hs2, hs4], hD, hp0⟩ ?_
  clear h0 h2 h4 h5 hs2 hs4 hD
  rintro i ρ σ' ds hi ⟨⟨rfl, h0, h2, h4, h6, hs2, hs4⟩, hD, hz⟩
  rcases get_or_end l i hi with ⟨x, hx, hlt, hd⟩ | hk
  ·rw [hd, pairsGF] at hz
   have hw : IntKind.i64.wrap ((i : Int) + 1) = ((i + 1 : Nat) : Int) := wrap_succ _ (by omega)
   simp only [go_sem, xQ, ↓reduceIte, xA, xM, xL, xT, xE, xN, h0, h2, h4, h6, hlt]
   refine SemC.loopS mixed (fun k ρ σ'' ds => (ds = [] ∧ ρ 0 = slT l ∧ ρ 2 = .v (.pointer (some ⟨b2, 0, none⟩)) ∧ ρ 4 = .own b4 1 0 l.length ∧ ρ 6 = int i ∧ ρ 7 = int (k : Nat) ∧ σ'' b2 = some (.row [.v (.slice none 0 0)] 1 1) ∧ σ'' b4 = some (.row (ints (List.replicate l.length 0)) 1 l.length)) ∧
    Drop σ'' σ ∧ k ≤ l.length ∧ i < k ∧ oppGF oppR x (i + 1) (l.drop (i + 1)) = oppGF oppR x k (l.drop k)) (fun k => l.length - k) (i + 1) (by kernel_rfl) ⟨by simp only [go_sem, xQ, ↓reduceIte, xA, xM, xL, xT, xE, xN, h0, h2, h4, h6, hw, hs2, hs4], hD, by omega, by omega, rfl⟩ ?_
   clear h0 h2 h4 h6 hs2 hs4 hD
   rintro k ρ σ'' ds ⟨⟨rfl, h0, h2, h4, h6, h7, hs2, hs4⟩, hD, hkl, hik, hz2⟩
   rcases get_or_end l k hkl with ⟨y, hy, hltk, hdk⟩ | hk
   ·rw [hdk, oppGF] at hz2
    simp only [go_sem, xQ, ↓reduceIte, xA, xM, xL, xT, xE, xN, h0, h2, h4, h6, h7, hltk, hlt, hx, hy, ↓tm_part hx, ↓tm_part hy]
    refine callB_use (f177 x y (by rw [hc x (mem_of_get hx)]; exact hm) (by rw [hc x (mem_of_get hx), hc y (mem_of_get hy)])) rfl ?_
    by_cases hp : oppR x y = true
    ·rw [if_pos hp] at hz2
     rw [hz2] at hz
     simp only at hz
     have hp' := hp
     simp only [oppR, Bool.and_eq_true, decide_eq_true_eq] at hp'
     have hr : pairR l = ([leafSt l.length [i, k]], true) := by rw [pairR, hz]
     have e : [leafSt l.length [i, k]].flatMap stC = [.v (.bool true), .sl (ints (((List.replicate l.length 0).set i 1).set k 1)) l.length, int 0, int 0, int 0, int 0] := by simp [leafSt, stC, slI, onesF]
     have hlen : i + 1 ≤ l.length := hlt
     have hlen2 : k + 1 ≤ l.length := hltk
     have hput := ints_put (l := List.replicate l.length 0) (k := i) (x := 1) (by simpa using hlt)
     have hput2 := ints_put (l := (List.replicate l.length 0).set i 1) (k := k) (x := 1) (by simpa using hltk)
     simp only [go_sem, xQ, ↓reduceIte, xA, xM, xL, xT, xE, xN, h0, h2, h4, h6, h7, hlt, hltk, hx, hy, hp'.1, hp'.2, hs4, hs2, ints_len, List.length_replicate, List.length_set, ↓hput, ↓hput2, n1, n1', ↓tm_get1 hx, ↓tm_get1 hy, hlen, hlen2]
     rw [hr]
     simp only [prA, slS]
     rw [e]
     refine ⟨.tup (.cons (.agg (.cons (.sl (.cons (.refl _) (.cons (put_own (c := l.length) ?_ ?_ ?_) (FzL.refl _)))) .nil)) (.cons (.refl _) .nil)), ?_⟩
     ·simp only [upd, n1, n1', if_true, if_false, hput, hput2]
     ·simp [ints_len]
     ·exact hb4
     ·repeat (first | assumption | refine Drop.upd ?_ (by assumption))
    ·have hp0 : oppR x y = false := by simpa using hp
     rw [if_neg hp] at hz2
     by_cases hp1 : opposedB x.coeffs y.coeffs = true
     ·have hcn : ¬ IntKind.i64.wrap (x.const + y.const) < 0 := by simp [oppR, hp1] at hp0; omega
      simp only [go_sem, xQ, ↓reduceIte, xA, xM, xL, xT, xE, xN, h0, h2, h4, h6, h7, hlt, hltk, hx, hy, hp1, hcn, ↓tm_get1 hx, ↓tm_get1 hy]
      exact ⟨k + 1, by omega, ⟨by rw [wrap_succ _ (by omega)], hs2, hs4⟩, hD, by omega, by omega, hz2⟩
     ·have hp2 : opposedB x.coeffs y.coeffs = false := by simpa using hp1
      simp only [go_sem, xQ, ↓reduceIte, xA, xM, xL, xT, xE, xN, h0, h2, h4, h6, h7, hlt, hltk, hx, hy, hp2]
      exact ⟨k + 1, by omega, ⟨by rw [wrap_succ _ (by omega)], hs2, hs4⟩, hD, by omega, by omega, hz2⟩
   ·subst hk
    rw [List.drop_length, oppGF] at hz2
    simp only [go_sem, xQ, ↓reduceIte, xA, xM, xL, xT, xE, xN, h0, h2, h4, h6, h7, Nat.lt_irrefl]
    rw [hz2] at hz
    exact ⟨hlt, ⟨by rw [hw], hs2, hs4⟩, hD, hz⟩
  ·subst hk
   rw [List.drop_length] at hz
   have hr : pairR l = ([], false) := by rw [pairR, hz]; rfl
   simp only [go_sem, xQ, ↓reduceIte, xA, xM, xL, xT, xE, xN, h0, h2, h4, h6, Nat.lt_irrefl, hs2]
   rw [hr]
   exact ⟨.tup (.cons (.agg (.cons .nil .nil)) (.cons (.refl _) .nil)), by repeat (first | assumption | refine Drop.upd ?_ (by assumption))⟩
end Go.AL

/- The laws of models and pairs; ProveModels. -/
set_option linter.unusedVariables false
set_option linter.unusedSimpArgs false
namespace Go.AL
open Go.Proofs
variable {Γ : Glob}
attribute [local irreducible] codeW opsW dopsW
theorem opposed_eq {m : Nat} : ∀ (a b : List Int), a.length = m → b.length = m → Cs a → Cs b → eqFB (fun x y => decide (x = IntKind.i64.wrap (0 - y))) a b = opposedB a b
 | [], [], _, _, _, _ => rfl
 | x :: a, y :: b, h1, h2, h3, h4 => by
  have hx := h3 x (by simp)
  have hy := h4 y (by simp)
  cases m with
  | zero => simp at h1
  | succ m =>
   rw [eqFB, opposedB, opposed_eq (m := m) a b (by simpa using h1) (by simpa using h2) (fun c h => h3 c (by simp [h])) (fun c h => h4 c (by simp [h]))]
   rw [wrap_i64 (0 - y) (by omega) (by omega), wrap_i64 (x + y) (by omega) (by omega)]
   have : (x = 0 - y) = (x + y = 0) := propext (by omega)
   simp only [this]
 | [], _ :: _, h1, h2, _, _ => by simp at h1 h2; omega
 | _ :: _, [], h1, h2, _, _ => by simp at h1 h2; omega
theorem plain_zeros : ∀ (a : List Int), Cs a → eqFB (fun x y => decide (x = IntKind.i64.wrap (0 - y))) a (List.replicate a.length 0) = a.all fun c => decide (c = 0)
 | [], _ => rfl
 | x :: a, h => by
  rw [List.length_cons, List.replicate_succ, eqFB, plain_zeros a fun c hc => h c (by simp [hc]), List.all_cons]
  have : IntKind.i64.wrap (0 - 0) = 0 := rfl
  rw [this]
theorem oppB_eq {a b : Tm} {m : Nat} (ha : TmOk a m) (hb : TmOk b m) : oppB a b = oppR a b := by
 rw [oppB, oppR, opposed_eq (m := m) _ _ ha.len hb.len ha.cs hb.cs, Bool.and_comm]
theorem flatB_eq {a : Tm} {m : Nat} (ha : TmOk a m) : flatB a = pnB a := by
 have h1 := ha.lo
 have h2 := ha.hi
 rw [flatB, oppB, pnB, plainB]
 simp only
 rw [plain_zeros _ ha.cs, Bool.and_comm, wrap_i64 (a.const + 0) (by omega) (by omega), Int.add_zero]
theorem idxE_congr {α : Type} {g g' : α → Bool} : ∀ (l : List α) (k : Nat), (∀ x ∈ l, g x = g' x) → idxE g k l = idxE g' k l
 | [], _, _ => rfl
 | x :: l, k, h => by rw [idxE, idxE, h x (by simp), idxE_congr l (k + 1) fun y hy => h y (by simp [hy])]
theorem oppF_eq {a : Tm} : ∀ (l : List Tm) (k : Nat), (∀ x ∈ l, oppB a x = oppR a x) → oppF a k l = oppGF oppR a k l
 | [], _, _ => rfl
 | x :: l, k, h => by rw [oppF, oppGF, h x (by simp), oppF_eq l (k + 1) fun y hy => h y (by simp [hy])]
theorem pairsF_eq : ∀ (l : List Tm) (k : Nat), (∀ x ∈ l, ∀ y ∈ l, oppB x y = oppR x y) → pairsF k l = pairsGF oppR k l
 | [], _, _ => rfl
 | x :: l, k, h => by rw [pairsF, pairsGF, oppF_eq l (k + 1) (fun y hy => h x (by simp) y (by simp [hy])), pairsF_eq l (k + 1) fun y hy z hz => h y (by simp [hy]) z (by simp [hz])]; rfl
theorem pair_eq {l : List Tm} {m : Nat} (h : ∀ t ∈ l, TmOk t m) : pairP l = pairR l := by
 rw [pairP, pairR, pairAt, pairAtR, idxE_congr l 0 fun x hx => flatB_eq (h x hx), pairsF_eq l 0 fun x hx y hy => oppB_eq (h x hx) (h y hy)]
 rfl
theorem pairP_fits (l : List Tm) (h : Fits l.length) : Fits (pairP l).1.length ∧ ∀ s ∈ (pairP l).1, Fits s.factors.length := by
 rw [pairP]
 split
 ·refine ⟨by simp, fun s hs => ?_⟩
  simp at hs
  subst hs
  simpa [leafSt, onesF_len] using h
 ·exact ⟨by simp, fun s hs => by cases hs⟩
end Go.AL
