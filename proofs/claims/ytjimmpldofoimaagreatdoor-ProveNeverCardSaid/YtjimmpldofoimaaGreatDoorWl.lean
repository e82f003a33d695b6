import Derived.Test.YtjimmpldofoimaaGreatDoorWk
set_option linter.unusedVariables false
set_option linter.unusedSimpArgs false
namespace Go.AL
open Go.Proofs
variable {Γ : Glob}
attribute [local irreducible] codeW opsW dopsW
def modelF (vs : List Int) : List Tm → Bool → Bool × Int
 | [], is => (is, 0)
 | t :: l, is => if valueE t vs = 0 then modelF vs l (is && decide (0 ≤ valueR t vs)) else (false, valueE t vs)
def IsModelP (l : List Tm) (vs : List Int) : Bool × Int := if checkTermsE l = 0 then modelF vs l true else (false, checkTermsE l)
theorem f83 (l : List Tm) (vs : List Int) (hl : Fits l.length) (hc : ∀ t ∈ l, Fits t.coeffs.length) (hv : Fits vs.length) : PCalls Tryz.prog Γ 83 [slT l, slI vs] (.tup [.v (.bool (IsModelP l vs).1), int (IsModelP l vs).2]) := by
 refine pcalls (ok83 Γ) fun σ => ?_
 simp only [go_sem, Tryz.f83]
 refine callB_use (f27 l hl hc) rfl ?_
 by_cases h1 : checkTermsE l = 0
 ·have hr : IsModelP l vs = modelF vs l true := if_pos h1
  rw [hr]
  simp only [go_sem, h1]
  refine SemC.loopK mixed l.length (fun k ρ σ' ds => (ds = [] ∧ ρ 1 = slI vs ∧ ρ 17 = slT l ∧ ρ 18 = int l.length ∧ ρ 19 = int k) ∧ Drop σ' σ ∧ ∃ is, ρ 7 = .v (.bool is) ∧ modelF vs l true = modelF vs (l.drop k) is) (by kernel_rfl) ⟨⟨rfl, rfl, rfl, rfl, rfl⟩, Drop.refl _, true, rfl, rfl⟩ ?_
  rintro k ρ σ' ds hk ⟨⟨rfl, h1, h17, h18, h19⟩, hD, is, h7, hz⟩
  rcases get_or_end l k hk with ⟨t, ht, hlt, hd⟩ | hk
  ·rw [hd, modelF] at hz
   simp only [go_sem, h1, h17, h18, h19, h7, hlt, ht, ↓tm_part ht]
   intro b hb
   simp only [go_sem, h1, h17, h18, h19, h7, hlt, ht, ↓tm_part ht]
   refine callB_use (f72 t vs hv (hc t (mem_of_get ht))) rfl ?_
   by_cases h : valueE t vs = 0
   ·rw [if_pos h] at hz
    cases is with
    | true =>
     simp only [go_sem, h1, h17, h18, h19, h7, h]
     exact ⟨hlt, by rw [wrap_succ _ (by omega)], hD.upd (hD.free hb), _, rfl, by simpa using hz⟩
    | false =>
     simp only [go_sem, h1, h17, h18, h19, h7, h]
     exact ⟨hlt, by rw [wrap_succ _ (by omega)], hD.upd (hD.free hb), _, rfl, by simpa using hz⟩
   ·rw [if_neg h] at hz
    simp only [go_sem, h1, h17, h18, h19, h7, h]
    exact retP_drop (hD.upd (hD.free hb)) (by rw [hz])
  ·subst hk
   rw [List.drop_length, modelF] at hz
   simp only [go_sem, h1, h17, h18, h19, h7, Nat.lt_irrefl]
   exact retP_drop hD (by rw [hz])
 ·have hr : IsModelP l vs = (false, checkTermsE l) := if_neg h1
  rw [hr]
  simp only [go_sem, h1]
theorem f84 (l : List Int) (hl : Fits l.length) : PCalls Tryz.prog Γ 84 [slI l] (slI l) := by
 refine pcalls (ok84 Γ) fun σ => ?_
 simp only [go_sem, Tryz.f84]
 refine appB_pure (appT_sl el46 tk3 by3 el46 (by decide) rfl (by decide)) (.inr rfl) (src_slI _ l) (by simp [ints]) (by omega) ?_
 simp only [go_sem]
def plainB (t : Tm) : Bool := t.coeffs.all fun c => decide (c = 0)
def opposedB : List Int → List Int → Bool
 | c :: cs, d :: ds => decide (IntKind.i64.wrap (c + d) = 0) && opposedB cs ds
 | _, _ => true
theorem f91 (l : List St) (hl : Fits l.length) : PCalls Tryz.prog Γ 91 [prA l] (prA l) := by
 refine pcalls (ok91 Γ) fun σ => ?_
 simp only [go_sem, Tryz.f91]
 intro b2 hb2
 simp only [go_sem]
 intro bo hbo
 have hne : ¬ bo = b2 := fun e => by subst e; simp [upd_same] at hbo
 rw [upd_ne _ _ _ _ hne] at hbo
 have hne' : ¬ b2 = bo := fun e => hne e.symm
 simp only [go_sem]
 refine SemC.loopK mixed l.length (fun k ρ σ' ds => Drop σ' σ ∧ ds = [] ∧ ρ 7 = slS l ∧ ρ 8 = int l.length ∧ ρ 2 = .v (.pointer (some ⟨b2, 0, none⟩)) ∧ ρ 3 = .v (.pointer (some ⟨bo, 0, none⟩)) ∧ ρ 9 = int k ∧ σ' b2 = some (.row [.v (.slice none 0 0)] 1 1) ∧
  ∃ a, σ' bo = some (.row [a] 1 1) ∧ Grow σ σ' 6 a ((l.take k).flatMap stC) k) (by kernel_rfl) ⟨((Drop.refl σ).upd hb2).upd hbo, rfl, rfl, rfl, rfl, rfl, rfl, by simp [upd, hne'], _, by simp [upd], .nil _ _ _⟩ ?_
 rintro k ρ σ' ds hk ⟨hD, rfl, h8, h9, h2, h3, h10, hs2, a, hso, hG⟩
 rcases get_or_end l k hk with ⟨x, hx, hlt, hd⟩ | hk
 ·simp only [go_sem, h8, h9, h2, h3, h10, hlt, hx, ↓st_part hx]
  intro b hb
  have n2 := none_ne hb hs2
  have no := none_ne hb hso
  simp only [go_sem, h8, h9, h2, h3, h10, hlt, hx, ↓st_part hx, n2, no, hs2, hso]
  have hD1 := (hD.upd (hD.free hb) (x := some (.row (stC x) 6 1)))
  have hG1 := hG.upd hb (x := some (.row (stC x) 6 1))
  refine appB_sl (appT_sl el23 tk176 by176 el23 (by decide) rfl (by decide)) hD1 hG1 rfl rfl (by omega) (fun a' σ2 hD2 hO hG2 => ?_)
  have e2 : σ2 b2 = some (.row [.v (.slice none 0 0)] 1 1) := by
   rw [hO b2 (hG.ne hs2 (by decide)) (by simp [upd, n2, hs2])]; simp [upd, n2, hs2]
  have eo : σ2 bo = some (.row [a] 1 1) := by
   rw [hO bo (hG.ne hso (by decide)) (by simp [upd, no, hso])]; simp [upd, no, hso]
  have hc2 := hG2.cells
  have ho2 := hG2.one
  simp only [go_sem, h8, h9, h2, h3, h10, e2, eo, hc2, ho2, hne', hlt]
  refine ⟨hD2.upd hbo, by rw [wrap_succ _ (by omega)], a', by simp [upd], ?_⟩
  rw [take_succ hx, List.flatMap_append]
  have := hG2.upd_row (x := some (.row [a'] 1 1)) eo (by decide)
  simpa [stC, slI, int] using this
 ·subst hk
  have ho := hG.one
  rw [List.take_length] at hG
  simp only [go_sem, h8, h9, h2, h3, h10, Nat.lt_irrefl, hs2, hso, hne, ho]
  have hG' := hG.upd_row (x := some (.row [a] 1 1)) hs2 (by decide)
  exact ⟨.agg (.cons (hG'.retP (hD.upd hb2)).1 .nil), hD.upd hb2⟩
theorem f90 (a b : List St) (hl : Fits a.length) (hc : ∀ s ∈ a, Fits s.factors.length) : PCalls Tryz.prog Γ 90 [prA a, prA b] (.v (.bool (decide (a = b)))) := by
 refine pcalls (ok90 Γ) fun σ => ?_
 by_cases hn : a.length = b.length
 ·have hn' : ((a.length : Int) = b.length) = True := eq_true (by omega)
  simp only [go_sem, Tryz.f90, hn']
  refine SemC.loopK mixed a.length (fun k ρ σ' ds => (ds = [] ∧ ρ 2 = .pp [slS a] 0 ∧ ρ 3 = .pp [slS b] 0 ∧ ρ 5 = int k) ∧ Drop σ' σ ∧ a.take k = b.take k) (by kernel_rfl) ⟨⟨rfl, rfl, rfl, rfl⟩, Drop.refl _, rfl⟩ ?_
  rintro k ρ σ' ds hk ⟨⟨rfl, h2, h3, h5⟩, hD, hz⟩
  rcases get_or_end a k hk with ⟨x, hx, hlt, hd⟩ | hk
  ·rcases get_or_end b k (by omega) with ⟨y, hy, hlt2, hd2⟩ | hk2
   ·have hne : x ≠ y → decide (a = b) = false := fun h => by
     simp only [decide_eq_false_iff_not]
     intro e
     rw [e, hy] at hx
     exact h (Option.some.inj hx).symm
    simp only [go_sem, h2, h3, h5, hlt, hlt2, hx, hy, ↓st_part hx, ↓st_part hy]
    intro b6 hb6
    simp only [go_sem, h2, h3, h5, hlt, hlt2, hx, hy, ↓st_part hx, ↓st_part hy]
    intro b7 hb7
    obtain ⟨n1, hb7⟩ := upd_none hb7
    have n1' : ¬ b6 = b7 := fun e => n1 e.symm
    have hD2 : ∀ x y : Blk, Drop (upd (upd σ' b6 (some x)) b7 (some y)) σ := fun x y => (hD.upd (hD.free hb6)).upd (hD.free hb7)
    have hD4 : ∀ x y z u : Blk, Drop (upd (upd (upd (upd σ' b6 (some x)) b7 (some y)) b6 (some z)) b7 (some u)) σ := fun x y z u => (((hD.upd (hD.free hb6)).upd (hD.free hb7)).upd (hD.free hb6)).upd (hD.free hb7)
    by_cases e1 : x.leaf = y.leaf
    ·have q1 : (x.leaf == y.leaf) = true := by simpa using e1
     simp only [go_sem, h2, h3, h5, hlt, hlt2, hx, hy, n1, n1', q1]
     refine callB_use (f38 _ _ (hc x (mem_of_get hx))) rfl ?_
     by_cases e2 : x.factors = y.factors
     ·simp only [go_sem, h2, h3, h5, hlt, hlt2, hx, hy, n1, n1', q1, e2]
      by_cases e3 : x.var = y.var
      ·simp only [go_sem, h2, h3, h5, hlt, hlt2, hx, hy, n1, n1', q1, e2, e3]
       by_cases e4 : x.bound = y.bound
       ·simp only [go_sem, h2, h3, h5, hlt, hlt2, hx, hy, n1, n1', q1, e2, e3, e4]
        by_cases e5 : x.k0 = y.k0
        ·by_cases e6 : x.k1 = y.k1
         ·simp only [go_sem, h2, h3, h5, hlt, hlt2, hx, hy, n1, n1', q1, e2, e3, e4, e5, e6]
          refine ⟨by rw [wrap_succ _ (by omega)], ?_, ?_⟩
          ·repeat (first | assumption | refine Drop.upd ?_ (hD.free (by assumption)))
          ·have : x = y := by cases x; cases y; simp_all
           rw [take_succ hx, take_succ hy, hz, this]
         ·simp only [go_sem, h2, h3, h5, hlt, hlt2, hx, hy, n1, n1', q1, e2, e3, e4, e5, e6, Bool.and_false]
          exact retP_drop (by repeat (first | assumption | refine Drop.upd ?_ (hD.free (by assumption)))) (by rw [hne fun e => e6 (by rw [e])])
        ·simp only [go_sem, h2, h3, h5, hlt, hlt2, hx, hy, n1, n1', q1, e2, e3, e4, e5, Bool.false_and]
         exact retP_drop (by repeat (first | assumption | refine Drop.upd ?_ (hD.free (by assumption)))) (by rw [hne fun e => e5 (by rw [e])])
       ·simp only [go_sem, h2, h3, h5, hlt, hlt2, hx, hy, n1, n1', q1, e2, e3, e4]
        exact retP_drop (by repeat (first | assumption | refine Drop.upd ?_ (hD.free (by assumption)))) (by rw [hne fun e => e4 (by rw [e])])
      ·simp only [go_sem, h2, h3, h5, hlt, hlt2, hx, hy, n1, n1', q1, e2, e3]
       exact retP_drop (by repeat (first | assumption | refine Drop.upd ?_ (hD.free (by assumption)))) (by rw [hne fun e => e3 (by rw [e])])
     ·simp only [go_sem, h2, h3, h5, hlt, hlt2, hx, hy, n1, n1', q1, e2]
      exact retP_drop (by repeat (first | assumption | refine Drop.upd ?_ (hD.free (by assumption)))) (by rw [hne fun e => e2 (by rw [e])])
    ·have q1 : (x.leaf == y.leaf) = false := by simpa using e1
     simp only [go_sem, h2, h3, h5, hlt, hlt2, hx, hy, n1, n1', q1]
     exact retP_drop (by repeat (first | assumption | refine Drop.upd ?_ (hD.free (by assumption)))) (by rw [hne fun e => e1 (by rw [e])])
   ·omega
  ·subst hk
   simp only [go_sem, h2, h3, h5, Nat.lt_irrefl]
   have : a = b := by rwa [List.take_length, hn, List.take_length] at hz
   exact retP_drop hD (by simp [this])
 ·have hn' : ((a.length : Int) = b.length) = False := eq_false (by omega)
  simp only [go_sem, Tryz.f90, hn']
  exact retP_eq (by simp; intro e; exact hn (by rw [e]))
def pnB (t : Tm) : Bool := plainB t && decide (t.const < 0)
def oppR (a b : Tm) : Bool := opposedB a.coeffs b.coeffs && decide (IntKind.i64.wrap (a.const + b.const) < 0)
theorem opposed_eq {m : Nat} : ∀ (a b : List Int), a.length = m → b.length = m → Cs a → Cs b → eqFB (fun x y => decide (x = IntKind.i64.wrap (0 - y))) a b = opposedB a b
 | [], [], _, _, _, _ => rfl
 | x :: a, y :: b, h1, h2, h3, h4 => by
  have hx := h3 x (by simp)
  have hy := h4 y (by simp)
  cases m with
  | zero => simp at h1
  | succ m =>
   rw [eqFB, opposedB, opposed_eq (m := m) a b (by simpa using h1) (by simpa using h2) (fun c h => h3 c (by simp [h])) (fun c h => h4 c (by simp [h]))]
   rw [wrap_i64 (0 - y) (by omega) (by omega), wrap_i64 (x + y) (by omega) (by omega)]
   have : (x = 0 - y) = (x + y = 0) := propext (by omega)
   simp only [this]
 | [], _ :: _, h1, h2, _, _ => by simp at h1 h2; omega
 | _ :: _, [], h1, h2, _, _ => by simp at h1 h2; omega
theorem plain_zeros : ∀ (a : List Int), Cs a → eqFB (fun x y => decide (x = IntKind.i64.wrap (0 - y))) a (List.replicate a.length 0) = a.all fun c => decide (c = 0)
 | [], _ => rfl
 | x :: a, h => by
  rw [List.length_cons, List.replicate_succ, eqFB, plain_zeros a fun c hc => h c (by simp [hc]), List.all_cons]
  have : IntKind.i64.wrap (0 - 0) = 0 := rfl
  rw [this]
theorem oppB_eq {a b : Tm} {m : Nat} (ha : TmOk a m) (hb : TmOk b m) : oppB a b = oppR a b := by
 rw [oppB, oppR, opposed_eq (m := m) _ _ ha.len hb.len ha.cs hb.cs, Bool.and_comm]
theorem flatB_eq {a : Tm} {m : Nat} (ha : TmOk a m) : flatB a = pnB a := by
 have h1 := ha.lo
 have h2 := ha.hi
 rw [flatB, oppB, pnB, plainB]
 simp only
 rw [plain_zeros _ ha.cs, Bool.and_comm, wrap_i64 (a.const + 0) (by omega) (by omega), Int.add_zero]
theorem pairP_fits (l : List Tm) (h : Fits l.length) : Fits (pairP l).1.length ∧ ∀ s ∈ (pairP l).1, Fits s.factors.length := by
 rw [pairP]
 split
 ·refine ⟨by simp, fun s hs => ?_⟩
  simp at hs
  subst hs
  simpa [leafSt, onesF_len] using h
 ·exact ⟨by simp, fun s hs => by cases hs⟩
end Go.AL
