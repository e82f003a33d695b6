import Derived.Test.YtjimmpldofoimaaGreatDoorAlEq
open Nat renaming reduceEqDiff → xQ, reduceAdd → xA, reduceMul → xM, reduceLeDiff → xL
set_option linter.unusedVariables false
set_option linter.unusedSimpArgs false
namespace Go.AL
open Go.Proofs
variable {Γ : Glob}
attribute [local irreducible] codeW opsW dopsW
def whenE (b : Bool) (e : Int) : Int := if b then e else 0
theorem f121 (b : Bool) (e : Int) : PCalls Tryz.prog Γ 121 [.v (.bool b), int e] (int (whenE b e)) := by
 refine pcalls (ok121 Γ) fun σ => ?_
 cases b <;> simp only [go_sem, Tryz.f121, xQ, ↓reduceIte, whenE]
theorem f144 (b : Bool) (e : Int) : PCalls Tryz.prog Γ 144 [.v (.bool b), int e] (int (whenE b e)) := by
 refine pcalls (ok144 Γ) fun σ => ?_
 cases b <;> simp only [go_sem, Tryz.f144, xQ, ↓reduceIte, whenE]
theorem f67 (b : Bool) (e : Int) : PCalls Tryz.prog Γ 67 [.v (.bool b), int e] (int (whenE b e)) := by
 refine pcalls (ok67 Γ) fun σ => ?_
 cases b <;> simp only [go_sem, Tryz.f67, xQ, ↓reduceIte, whenE]
def withinE (n a b : Int) : Int := if n < a ∨ b < n then 3 else 0
theorem f124 (n a b : Int) : PCalls Tryz.prog Γ 124 [int n, int a, int b] (int (withinE n a b)) := by
 refine pcalls (ok124 Γ) fun σ => ?_
 by_cases h1 : n < a <;> by_cases h2 : b < n <;> simp only [go_sem, Tryz.f124, xQ, ↓reduceIte, h1, h2] <;>
  refine callB_use (f121 _ _) rfl ?_ <;> simp only [go_sem, whenE, withinE, h1, h2, or_true, or_false, false_or, true_or]
end Go.AL

namespace Go.AL
open Go.Proofs
variable {Γ : Glob}
def firstE (l : List Int) : Int := (l.find? (· != 0)).getD 0
theorem firstE_nil : firstE [] = 0 := rfl
theorem firstE_cons (x : Int) (l : List Int) : firstE (x :: l) = if x = 0 then firstE l else x := by
 unfold firstE
 by_cases h : x = 0 <;> simp [h]
theorem lt_of_getElem? {α : Type} {l : List α} {k : Nat} {x : α} (h : l[k]? = some x) : k < l.length := by
 rcases Nat.lt_or_ge k l.length with h' | h'
 ·exact h'
 ·simp [List.getElem?_eq_none h'] at h
theorem drop_of_get {α : Type} {l : List α} {k : Nat} {x : α} (h : l[k]? = some x) : l.drop k = x :: l.drop (k + 1) := by
 have hk := lt_of_getElem? h
 have : x = l[k] := by simpa [hk] using h.symm
 rw [this, List.drop_eq_getElem_cons hk]
theorem get_or_end {α : Type} (l : List α) (k : Nat) (hk : k ≤ l.length) : (∃ x, l[k]? = some x ∧ k < l.length ∧ l.drop k = x :: l.drop (k + 1)) ∨ k = l.length := by
 rcases Nat.lt_or_ge k l.length with h | h
 ·exact .inl ⟨l[k], by simp [h], h, drop_of_get (by simp [h])⟩
 ·exact .inr (by omega)
attribute [local irreducible] codeW opsW dopsW
theorem take_succ {α : Type} {l : List α} {k : Nat} {x : α} (h : l[k]? = some x) : l.take (k + 1) = l.take k ++ [x] := by
 rw [List.take_add_one, h]; rfl
theorem mem_of_get {α : Type} {l : List α} {k : Nat} {x : α} (h : l[k]? = some x) : x ∈ l := List.mem_of_getElem? h
theorem wrap_succ (k : Nat) (h : k + 1 ≤ 9223372036854775807) : IntKind.i64.wrap ((k : Int) + 1) = ((k + 1 : Nat) : Int) := by
 rw [show ((k : Int) + 1) = ((k + 1 : Nat) : Int) by omega, wrap_nat _ h]
abbrev Fits (n : Nat) : Prop := n ≤ 1000000000000
theorem f208 (l : List Int) (hl : Fits l.length) (fv : AV) (g : Int → Int) (hg : ∀ x ∈ l, DCall Tryz.prog Γ fv [int x] (int (g x))) : PCalls Tryz.prog Γ 208 [slI l, fv] (slI (l.map g)) := by
 refine pcalls (ok208 Γ) fun σ => ?_
 simp only [go_sem, Tryz.f208, slI, xQ, ↓reduceIte]
 refine SemC.loopK mixed l.length (fun k ρ σ' ds => Drop σ' σ ∧ ds = [] ∧ ρ 1 = fv ∧ ρ 8 = slI l ∧ ρ 9 = int l.length ∧ ρ 10 = int k ∧ Grow σ σ' 1 (ρ 5) (ints ((l.take k).map g)) k) (by kernel_rfl) ⟨.refl _, rfl, rfl, rfl, rfl, rfl, .nil _ _ _⟩ ?_
 rintro k ρ σ' ds hk ⟨hD, rfl, h1, h8, h9, h10, hG⟩
 rcases get_or_end l k hk with ⟨x, hx, hlt, hd⟩ | rfl
 ·simp only [go_sem, h1, h8, h9, h10, hlt, hx, slI]
  refine callB_d (hg x (mem_of_get hx)) ?_
  simp only [go_sem]
  refine appB_sl (appT_sl el191 tk29 by29 el191 (by decide) rfl (by decide)) hD hG rfl rfl (by omega) (fun a' σ2 hD2 hO hG2 => ?_)
  simp only [go_sem, h1, h8, h9, h10]
  refine ⟨hD2, rfl, by rw [wrap_succ _ (by omega)], ?_⟩
  rw [take_succ hx]
  simpa [ints, int] using hG2
 ·simp only [go_sem, h8, h9, h10, slI, Nat.lt_irrefl]
  have := hG.retP hD
  simpa [slI] using this
theorem f218 (l : List Int) (hl : Fits l.length) (fv : AV) (g : Int → Int) (hg : ∀ x ∈ l, DCall Tryz.prog Γ fv [int x] (int (g x))) : PCalls Tryz.prog Γ 218 [slI l, fv] (slI (l.map g)) := by
 refine pcalls (ok218 Γ) fun σ => ?_
 simp only [go_sem, Tryz.f218, slI, xQ, ↓reduceIte]
 refine SemC.loopK mixed l.length (fun k ρ σ' ds => Drop σ' σ ∧ ds = [] ∧ ρ 1 = fv ∧ ρ 8 = slI l ∧ ρ 9 = int l.length ∧ ρ 10 = int k ∧ Grow σ σ' 1 (ρ 5) (ints ((l.take k).map g)) k) (by kernel_rfl) ⟨.refl _, rfl, rfl, rfl, rfl, rfl, .nil _ _ _⟩ ?_
 rintro k ρ σ' ds hk ⟨hD, rfl, h1, h8, h9, h10, hG⟩
 rcases get_or_end l k hk with ⟨x, hx, hlt, hd⟩ | rfl
 ·simp only [go_sem, h1, h8, h9, h10, hlt, hx, slI]
  refine callB_d (hg x (mem_of_get hx)) ?_
  simp only [go_sem]
  refine appB_sl (appT_sl el191 tk29 by29 el191 (by decide) rfl (by decide)) hD hG rfl rfl (by omega) (fun a' σ2 hD2 hO hG2 => ?_)
  simp only [go_sem, h1, h8, h9, h10]
  refine ⟨hD2, rfl, by rw [wrap_succ _ (by omega)], ?_⟩
  rw [take_succ hx]
  simpa [ints, int] using hG2
 ·simp only [go_sem, h8, h9, h10, slI, Nat.lt_irrefl]
  have := hG.retP hD
  simpa [slI] using this
theorem f120 (l : List Int) (hl : Fits l.length) : PCalls Tryz.prog Γ 120 [slI l] (int (firstE l)) := by
 refine pcalls (ok120 Γ) fun σ => ?_
 simp only [go_sem, Tryz.f120, slI, xQ, ↓reduceIte]
 refine SemC.loopK mixed l.length (fun k ρ σ' ds => σ' = σ ∧ ds = [] ∧ ρ 5 = slI l ∧ ρ 6 = int l.length ∧ ρ 7 = int k ∧ firstE l = firstE (l.drop k)) (by kernel_rfl) ⟨rfl, rfl, rfl, rfl, rfl, rfl⟩ ?_
 rintro k ρ σ' ds hk ⟨rfl, rfl, h5, h6, h7, hz⟩
 rcases get_or_end l k hk with ⟨x, hx, hlt, hd⟩ | rfl
 ·rw [hd, firstE_cons] at hz
  by_cases h0 : x = 0
  ·simp only [go_sem, h5, h6, h7, hlt, hx, slI, h0]
   exact ⟨by rw [wrap_succ _ (by omega)], by rw [hz, if_pos h0]⟩
  ·simp only [go_sem, h5, h6, h7, hlt, hx, slI, h0, hz]
 ·simp only [go_sem, h5, h6, h7, slI, hz, Nat.lt_irrefl, List.drop_length, firstE_nil]
theorem f135 (l : List Int) (hl : Fits l.length) : PCalls Tryz.prog Γ 135 [slI l] (int (firstE l)) := by
 refine pcalls (ok135 Γ) fun σ => ?_
 simp only [go_sem, Tryz.f135, slI, xQ, ↓reduceIte]
 refine SemC.loopK mixed l.length (fun k ρ σ' ds => σ' = σ ∧ ds = [] ∧ ρ 5 = slI l ∧ ρ 6 = int l.length ∧ ρ 7 = int k ∧ firstE l = firstE (l.drop k)) (by kernel_rfl) ⟨rfl, rfl, rfl, rfl, rfl, rfl⟩ ?_
 rintro k ρ σ' ds hk ⟨rfl, rfl, h5, h6, h7, hz⟩
 rcases get_or_end l k hk with ⟨x, hx, hlt, hd⟩ | rfl
 ·rw [hd, firstE_cons] at hz
  by_cases h0 : x = 0
  ·simp only [go_sem, h5, h6, h7, hlt, hx, slI, h0]
   exact ⟨by rw [wrap_succ _ (by omega)], by rw [hz, if_pos h0]⟩
  ·simp only [go_sem, h5, h6, h7, hlt, hx, slI, h0, hz]
 ·simp only [go_sem, h5, h6, h7, slI, hz, Nat.lt_irrefl, List.drop_length, firstE_nil]
theorem f33 (l : List Int) (hl : Fits l.length) : PCalls Tryz.prog Γ 33 [slI l] (int (firstE l)) := by
 refine pcalls (ok33 Γ) fun σ => ?_
 simp only [go_sem, Tryz.f33, slI, xQ, ↓reduceIte]
 refine SemC.loopK mixed l.length (fun k ρ σ' ds => σ' = σ ∧ ds = [] ∧ ρ 0 = slI l ∧ ρ 3 = int k ∧ firstE l = firstE (l.drop k)) (by kernel_rfl) ⟨rfl, rfl, rfl, rfl, rfl⟩ ?_
 rintro k ρ σ' ds hk ⟨rfl, rfl, h0, h3, hz⟩
 rcases get_or_end l k hk with ⟨x, hx, hlt, hd⟩ | rfl
 ·rw [hd, firstE_cons] at hz
  by_cases hx0 : x = 0
  ·simp only [go_sem, h0, h3, hlt, hx, slI, hx0]
   exact ⟨by rw [wrap_succ _ (by omega)], by rw [hz, if_pos hx0]⟩
  ·simp only [go_sem, h0, h3, hlt, hx, slI, hx0, hz]
 ·simp only [go_sem, h0, h3, slI, hz, Nat.lt_irrefl, List.drop_length, firstE_nil]
theorem f129 (n a b : Int) : PCalls Tryz.prog Γ 129 [int n, int a, int b] (int (withinE n a b)) := by
 refine pcalls (ok129 Γ) fun σ => ?_
 by_cases h1 : n < a <;> by_cases h2 : b < n <;> simp only [go_sem, Tryz.f129, xQ, ↓reduceIte, h1, h2] <;>
  refine callB_use (f67 _ _) rfl ?_ <;> simp only [go_sem, whenE, withinE, h1, h2, or_true, or_false, false_or, true_or]
theorem f143 (n a b : Int) : PCalls Tryz.prog Γ 143 [int n, int a, int b] (int (withinE n a b)) := by
 refine pcalls (ok143 Γ) fun σ => ?_
 by_cases h1 : n < a <;> by_cases h2 : b < n <;> simp only [go_sem, Tryz.f143, xQ, ↓reduceIte, h1, h2] <;>
  refine callB_use (f144 _ _) rfl ?_ <;> simp only [go_sem, whenE, withinE, h1, h2, or_true, or_false, false_or, true_or]
theorem f228 (n b : Int) (hb : 0 ≤ b) (hb' : b ≤ 9223372036854775807) : PCalls Tryz.prog Γ 228 [int n, int b] (int (withinE n (-b) b)) := by
 refine pcalls (ok228 Γ) fun σ => ?_
 have hw : IntKind.i64.wrap (0 - b) = -b := by rw [wrap_i64 _ (by omega) (by omega)]; omega
 by_cases h1 : n < -b <;> by_cases h2 : b < n <;> simp only [go_sem, Tryz.f228, xQ, ↓reduceIte, h1, h2, hw] <;>
  refine callB_use (f144 _ _) rfl ?_ <;> simp only [go_sem, whenE, withinE, h1, h2, or_true, or_false, false_or, true_or]
theorem f170 (n : Int) : PCalls Tryz.prog Γ 170 [int n] (int (withinE n (-1000000) 1000000)) := by
 refine pcalls (ok170 Γ) fun σ => ?_
 simp only [go_sem, Tryz.f170, xQ, ↓reduceIte]
 refine callB_use (f228 _ _ (by decide) (by decide)) rfl ?_
 simp only [go_sem]
theorem f229 (n : Int) : PCalls Tryz.prog Γ 229 [int n] (int (withinE n (-1000000000000) 1000000000000)) := by
 refine pcalls (ok229 Γ) fun σ => ?_
 simp only [go_sem, Tryz.f229, xQ, ↓reduceIte]
 refine callB_use (f228 _ _ (by decide) (by decide)) rfl ?_
 simp only [go_sem]
theorem f68 (n : Int) : PCalls Tryz.prog Γ 68 [int n] (int (withinE n 0 8)) := by
 refine pcalls (ok68 Γ) fun σ => ?_
 simp only [go_sem, Tryz.f68, xQ, ↓reduceIte]
 refine callB_use (f129 _ _ _) rfl ?_
 simp only [go_sem]
def numbersE (t : Tm) : Int := firstE [firstE (t.coeffs.map fun n => withinE n (-1000000) 1000000), withinE t.const (-1000000000000) 1000000000000]
def checkTermE (t : Tm) (n : Int) : Int := firstE [withinE n 0 8, whenE (decide (¬ (t.coeffs.length : Int) = n)) 2, numbersE t]
def tmA (t : Tm) : AV := .agg (tmC t)
attribute [go_sem] tmA tmC slI
theorem f173 (t : Tm) (hl : Fits t.coeffs.length) : PCalls Tryz.prog Γ 173 [tmA t] (int (numbersE t)) := by
 refine pcalls (ok173 Γ) fun σ => ?_
 simp only [go_sem, Tryz.f173, xQ, ↓reduceIte, xA, xM, xL]
 refine dcallB_use (f218 t.coeffs hl _ _ (fun x _ => dcall_of (f170 x) rfl)) rfl ?_
 simp only [go_sem]
 refine dcallB_use (f135 _ (by simpa using hl)) rfl ?_
 simp only [go_sem]
 refine callB_use (f229 _) rfl ?_
 simp only [go_sem]
 refine callB_use (f135 [_, _] (by simp)) rfl ?_
 simp only [go_sem]
 exact retP_eq rfl
theorem f80 (t : Tm) (n : Int) (hl : Fits t.coeffs.length) : PCalls Tryz.prog Γ 80 [tmA t, int n] (int (checkTermE t n)) := by
 refine pcalls (ok80 Γ) fun σ => ?_
 simp only [go_sem, Tryz.f80, xQ, ↓reduceIte, xA, xM, xL]
 refine dcallB_use (f143 _ _ _) rfl ?_
 simp only [go_sem]
 refine dcallB_use (f144 _ _) rfl ?_
 simp only [go_sem]
 refine callB_use (f173 t hl) rfl ?_
 simp only [go_sem]
 refine callB_use (f135 [_, _, _] (by simp)) rfl ?_
 simp only [go_sem]
 refine retP_eq ?_
 simp only [checkTermE, decide_not]
@[irreducible] def inRangeB (t : Tm) : Bool := t.coeffs.all (fun n => decide (withinE n (-1000000) 1000000 = 0)) && decide (withinE t.const (-1000000000000) 1000000000000 = 0)
theorem inRangeB_eq (t : Tm) : inRangeB t = (t.coeffs.all (fun n => decide (withinE n (-1000000) 1000000 = 0)) && decide (withinE t.const (-1000000000000) 1000000000000 = 0)) := by unfold inRangeB; rfl
theorem f172 (t : Tm) (hl : Fits t.coeffs.length) : PCalls Tryz.prog Γ 172 [tmA t] (.v (.bool (inRangeB t))) := by
 refine pcalls (ok172 Γ) fun σ => ?_
 simp only [go_sem, Tryz.f172]
 refine SemC.loopK mixed t.coeffs.length (fun k ρ σ' ds => σ' = σ ∧ ds = [] ∧ ρ 1 = .pp (tmC t) 0 ∧ ρ 3 = int k ∧ inRangeB t = inRangeB ⟨t.coeffs.drop k, t.const⟩) (by kernel_rfl) ⟨rfl, rfl, rfl, rfl, by simp⟩ ?_
 rintro k ρ σ' ds hk ⟨rfl, rfl, h1, h3, hz⟩
 rcases get_or_end t.coeffs k hk with ⟨x, hx, hlt, hd⟩ | hk
 ·simp only [go_sem, h1, h3, hlt, hx]
  refine callB_use (f129 _ _ _) rfl ?_
  by_cases hx0 : withinE x (-1000000) 1000000 = 0
  ·simp only [go_sem, h1, h3, hlt, hx, hx0]
   refine ⟨by rw [wrap_succ _ (by omega)], ?_⟩
   rw [hz, hd]
   simp [inRangeB_eq, hx0]
  ·simp only [go_sem, h1, h3, hlt, hx, hx0]
   refine retP_eq ?_
   rw [hz, hd]
   simp [inRangeB_eq, hx0]
 ·subst hk
  simp only [go_sem, h1, h3, Nat.lt_irrefl]
  refine callB_use (f129 _ _ _) rfl ?_
  simp only [go_sem]
  refine retP_eq ?_
  rw [hz]
  simp [inRangeB_eq]
def checkTermR (t : Tm) (n : Int) : Int := firstE [withinE n 0 8, whenE (decide (¬ (t.coeffs.length : Int) = n)) 2, whenE (!inRangeB t) 3]
theorem f76 (t : Tm) (n : Int) (hl : Fits t.coeffs.length) : PCalls Tryz.prog Γ 76 [tmA t, int n] (int (checkTermR t n)) := by
 refine pcalls (ok76 Γ) fun σ => ?_
 simp only [go_sem, Tryz.f76]
 refine dcallB_use (f68 _) rfl ?_
 simp only [go_sem]
 refine dcallB_use (f67 _ _) rfl ?_
 simp only [go_sem]
 refine callB_use (f172 t hl) rfl ?_
 simp only [go_sem]
 refine callB_use (f67 _ _) rfl ?_
 simp only [go_sem]
 refine callB_use (f33 [_, _, _] (by simp)) rfl ?_
 simp only [go_sem]
 exact retP_eq (by simp [checkTermR, decide_not])
theorem f58 (t : Tm) : PCalls Tryz.prog Γ 58 [tmA t] (.v (.bool (decide (t.coeffs.length ≤ 10)))) := by
 refine pcalls (ok58 Γ) fun σ => ?_
 simp only [go_sem, Tryz.f58]
 exact retP_eq (by congr 3; simp; omega)
attribute [go_sem] slT
theorem tm_part {l : List Tm} {k : Nat} {t : Tm} (h : l[k]? = some t) (z : List AV) : TK.part ⟨true, 2, z⟩ (l.flatMap tmC) (k * 2) = some (tmA t) := part_rows (k := ⟨true, 2, z⟩) rfl tmC_len h
theorem tm_get0 {l : List Tm} {k : Nat} {t : Tm} (h : l[k]? = some t) : (l.flatMap tmC)[k * 2]? = some (slI t.coeffs) := rows_get0 tmC_len h (by decide)
theorem tm_get1 {l : List Tm} {k : Nat} {t : Tm} (h : l[k]? = some t) : (l.flatMap tmC)[k * 2 + 1]? = some (int t.const) := rows_get (j := 1) tmC_len h (by decide)
def shortTermB (t : Tm) : Bool := decide (t.coeffs.length ≤ 10)
def shortTermsB (l : List Tm) : Bool := l.all shortTermB && (decide (l.length ≤ 8) || decide (l.length = 41))
theorem f122 (l : List Tm) (hl : Fits l.length) (fv : AV) (g : Tm → Int) (hg : ∀ x ∈ l, DCall Tryz.prog Γ fv [tmA x] (int (g x))) : PCalls Tryz.prog Γ 122 [slT l, fv] (slI (l.map g)) := by
 refine pcalls (ok122 Γ) fun σ => ?_
 simp only [go_sem, Tryz.f122]
 refine SemC.loopK mixed l.length (fun k ρ σ' ds => Drop σ' σ ∧ ds = [] ∧ ρ 1 = fv ∧ ρ 8 = slT l ∧ ρ 9 = int l.length ∧ ρ 10 = int k ∧ Grow σ σ' 1 (ρ 5) (ints ((l.take k).map g)) k) (by kernel_rfl) ⟨.refl _, rfl, rfl, rfl, rfl, rfl, .nil _ _ _⟩ ?_
 rintro k ρ σ' ds hk ⟨hD, rfl, h1, h8, h9, h10, hG⟩
 rcases get_or_end l k hk with ⟨x, hx, hlt, hd⟩ | rfl
 ·simp only [go_sem, h1, h8, h9, h10, hlt, hx, ↓tm_part hx]
  intro b hb
  simp only [go_sem, h1, h8, h9, h10, hlt, hx, ↓tm_part hx]
  refine callB_d (hg x (mem_of_get hx)) ?_
  simp only [go_sem]
  have hb0 : σ b = none := hD.free hb
  refine appB_sl (appT_sl el191 tk29 by29 el191 (by decide) rfl (by decide)) (hD.upd hb0) (hG.upd hb) rfl rfl (by omega) (fun a' σ2 hD2 hO hG2 => ?_)
  simp only [go_sem, h1, h8, h9, h10]
  refine ⟨hD2, by rw [wrap_succ _ (by omega)], ?_⟩
  rw [take_succ hx]
  simpa [ints, int] using hG2
 ·simp only [go_sem, h8, h9, h10, Nat.lt_irrefl]
  have := hG.retP hD
  simpa [slI] using this
theorem f123 (t : Tm) (n : Int) (hl : Fits t.coeffs.length) : PCalls Tryz.prog Γ 123 [tmA t, .pp [int n] 0] (int (checkTermE t n)) := by
 refine pcalls (ok123 Γ) fun σ => ?_
 simp only [go_sem, Tryz.f123]
 refine callB_use (f80 t n hl) rfl ?_
 simp only [go_sem]
def checkTermsE (l : List Tm) : Int :=
 let e := firstE [whenE (decide ((l.length : Int) = 0)) 10, whenE (decide (40 < (l.length : Int))) 5]
 if e = 0 then firstE (l.map fun t => checkTermE t ((l.head?.map fun t => (t.coeffs.length : Int)).getD 0)) else e
theorem f27 (l : List Tm) (hl : Fits l.length) (hc : ∀ t ∈ l, Fits t.coeffs.length) : PCalls Tryz.prog Γ 27 [slT l] (int (checkTermsE l)) := by
 refine pcalls (ok27 Γ) fun σ => ?_
 simp only [go_sem, Tryz.f27]
 refine callB_use (f121 _ _) rfl ?_
 simp only [go_sem]
 refine callB_use (f121 _ _) rfl ?_
 simp only [go_sem]
 refine callB_use (f120 [_, _] (by simp)) rfl ?_
 by_cases he : firstE [whenE (decide ((l.length : Int) = 0)) 10, whenE (decide (40 < (l.length : Int))) 5] = 0
 ·have hne : ∃ t0, l[0]? = some t0 := by
   cases l with
   | nil => simp [firstE, whenE] at he
   | cons t0 l => exact ⟨t0, rfl⟩
  obtain ⟨t0, ht0⟩ := hne
  have hlt := lt_of_getElem? ht0
  have hlt' : (0 : Int) < l.length := by omega
  have hg0 : (l.flatMap tmC)[0]? = some (slI t0.coeffs) := by simpa using tm_get0 ht0
  have hh : ((l.head?.map fun t => (t.coeffs.length : Int)).getD 0) = t0.coeffs.length := by rw [List.head?_eq_getElem?, ht0]; rfl
  simp only [go_sem, he, hlt', hg0, Int.le_refl, Int.toNat_zero, Nat.zero_mul]
  intro b hb
  simp only [go_sem, he, hlt', hg0]
  refine callB_drop ((Drop.refl σ).upd hb) (f122 l hl (.fn (.func 123) [] [.pp [int t0.coeffs.length] 0]) (fun t => checkTermE t t0.coeffs.length) (fun t ht => dcall_of (f123 t _ (hc t ht)) rfl))
   (.cons (.refl _) (.cons (.fn .nil (.cons (.ptr (upd_same _ _ _) hb (.refl _)) .nil)) .nil)) ?_
  simp only [go_sem]
  refine callB_use (f120 _ (by simpa using hl)) rfl ?_
  simp only [go_sem]
  exact retP_eq (by simp only [checkTermsE, he, if_true, hh, int])
 ·simp only [go_sem, he]
  exact retP_eq (by simp only [checkTermsE, he, if_false, int])
def checkTermsR (l : List Tm) : Int :=
 let e := firstE [whenE (decide ((l.length : Int) = 0)) 10, whenE (decide (40 < (l.length : Int))) 5]
 if e = 0 then firstE (l.map fun t => checkTermR t ((l.head?.map fun t => (t.coeffs.length : Int)).getD 0)) else e
theorem f28 (l : List Tm) (hl : Fits l.length) (hc : ∀ t ∈ l, Fits t.coeffs.length) : PCalls Tryz.prog Γ 28 [slT l] (int (checkTermsR l)) := by
 refine pcalls (ok28 Γ) fun σ => ?_
 simp only [go_sem, Tryz.f28]
 refine callB_use (f67 _ _) rfl ?_
 simp only [go_sem]
 refine callB_use (f67 _ _) rfl ?_
 simp only [go_sem]
 refine callB_use (f33 [_, _] (by simp)) rfl ?_
 by_cases he : firstE [whenE (decide ((l.length : Int) = 0)) 10, whenE (decide (40 < (l.length : Int))) 5] = 0
 ·have hne : ∃ t0, l[0]? = some t0 := by
   cases l with
   | nil => simp [firstE, whenE] at he
   | cons t0 l => exact ⟨t0, rfl⟩
  obtain ⟨t0, ht0⟩ := hne
  have hlt := lt_of_getElem? ht0
  have hlt' : (0 : Int) < l.length := by omega
  have hg0 : (l.flatMap tmC)[0]? = some (slI t0.coeffs) := by simpa using tm_get0 ht0
  have hh : ((l.head?.map fun t => (t.coeffs.length : Int)).getD 0) = t0.coeffs.length := by rw [List.head?_eq_getElem?, ht0]; rfl
  have hres : checkTermsR l = firstE (l.map fun t => checkTermR t t0.coeffs.length) := by simp only [checkTermsR, he, if_true, hh]
  simp only [go_sem, he]
  refine SemC.loopK mixed l.length (fun k ρ σ' ds => σ' = σ ∧ ds = [] ∧ ρ 0 = slT l ∧ ρ 4 = int k ∧ checkTermsR l = firstE ((l.drop k).map fun t => checkTermR t t0.coeffs.length)) (by kernel_rfl) ⟨rfl, rfl, rfl, rfl, by simpa using hres⟩ ?_
  rintro k ρ σ' ds hk ⟨rfl, rfl, h0, h4, hz⟩
  rcases get_or_end l k hk with ⟨x, hx, hltk, hd⟩ | hk
  ·rw [hd, List.map_cons, firstE_cons] at hz
   simp only [go_sem, h0, h4, hltk, hx, ↓tm_part hx, hlt', hg0, Int.le_refl, Int.toNat_zero, Nat.zero_mul]
   refine callB_use (f76 x _ (hc x (mem_of_get hx))) rfl ?_
   by_cases hx0 : checkTermR x t0.coeffs.length = 0
   ·simp only [go_sem, h0, h4, hx0]
    exact ⟨hltk, by rw [wrap_succ _ (by omega)], by rw [hz, if_pos hx0]⟩
   ·simp only [go_sem, h0, h4, hx0, hz]
  ·subst hk
   simp only [go_sem, h0, h4, Nat.lt_irrefl]
   exact retP_eq (by rw [hz]; simp [firstE])
 ·simp only [go_sem, he]
  exact retP_eq (by simp only [checkTermsR, he, if_false])
structure St where
 leaf : Bool
 factors : List Int
 var : Int
 bound : Int
 k0 : Int
 k1 : Int
 deriving DecidableEq, Inhabited
def stC (s : St) : List AV := [.v (.bool s.leaf), slI s.factors, int s.var, int s.bound, int s.k0, int s.k1]
def stA (s : St) : AV := .agg (stC s)
theorem stC_len (s : St) : (stC s).length = 6 := rfl
attribute [go_sem] stA stC
theorem f209 (n : Int) : PCalls Tryz.prog Γ 209 [int n] (int (withinE n 0 1000)) := by
 refine pcalls (ok209 Γ) fun σ => ?_
 simp only [go_sem, Tryz.f209]
 refine callB_use (f124 _ _ _) rfl ?_
 simp only [go_sem]
def earlierE (k n : Int) : Int := whenE (decide (k < 0) || decide (n ≤ k)) 9
theorem f210 (k n : Int) : PCalls Tryz.prog Γ 210 [int k, .pp [int n] 0] (int (earlierE k n)) := by
 refine pcalls (ok210 Γ) fun σ => ?_
 by_cases h1 : k < 0 <;> simp only [go_sem, Tryz.f210, h1] <;> refine callB_use (f121 _ _) rfl ?_ <;> simp only [go_sem, earlierE, h1, Bool.true_or, Bool.false_or]
def stepE (s : St) (n vars : Int) : Int :=
 if s.leaf then
  if s.factors.length > 167 then 5
  else firstE [firstE (s.factors.map fun n => withinE n 0 1000), whenE (decide (s.var ≠ 0) || decide (s.bound ≠ 0) || !(decide (s.k0 = 0) && decide (s.k1 = 0))) 1]
 else firstE [whenE (decide (0 < s.factors.length)) 1, whenE (decide (s.var < 0) || decide (vars ≤ s.var)) 8, withinE s.bound (-4294967295) 4294967295, earlierE s.k0 n, earlierE s.k1 n]
theorem f125 (s : St) (n vars : Int) (hl : Fits s.factors.length) (hG : Γ 1 = some [int 0, int 0]) : PCalls Tryz.prog Γ 125 [stA s, int n, int vars] (int (stepE s n vars)) := by
 refine pcalls (ok125 Γ) fun σ => ?_
 cases hleaf : s.leaf with
 | true =>
  by_cases h167 : s.factors.length > 167
  ·have h167' : (167 : Int) < s.factors.length := by omega
   simp only [go_sem, Tryz.f125, hleaf, h167']
   exact retP_eq (by simp [stepE, hleaf, h167, int])
  ·have h167' : ¬ (167 : Int) < s.factors.length := by omega
   simp only [go_sem, Tryz.f125, hleaf, h167']
   refine dcallB_use (f208 s.factors hl _ _ (fun x _ => dcall_of (f209 x) rfl)) rfl ?_
   simp only [go_sem]
   refine dcallB_use (f120 _ (by simpa using hl)) rfl ?_
   have hres : stepE s n vars = firstE [firstE (s.factors.map fun n => withinE n 0 1000), whenE (decide (s.var ≠ 0) || decide (s.bound ≠ 0) || !(decide (s.k0 = 0) && decide (s.k1 = 0))) 1] := by
    simp only [stepE, hleaf, if_true, h167, if_false]
   by_cases hv : s.var = 0
   ·by_cases hb : s.bound = 0
    ·simp only [go_sem, hv, hb, hG, List.take_succ_cons]
     refine callB_use (f121 _ _) rfl ?_
     simp only [go_sem]
     refine callB_use (f120 [_, _] (by simp)) rfl ?_
     simp only [go_sem]
     exact retP_eq (by rw [hres]; simp [hv, hb, int])
    ·simp only [go_sem, hv, hb, hG]
     refine callB_use (f121 _ _) rfl ?_
     simp only [go_sem]
     refine callB_use (f120 [_, _] (by simp)) rfl ?_
     simp only [go_sem]
     exact retP_eq (by rw [hres]; simp [hv, hb, int])
   ·simp only [go_sem, hv, hG]
    refine callB_use (f121 _ _) rfl ?_
    simp only [go_sem]
    refine callB_use (f120 [_, _] (by simp)) rfl ?_
    simp only [go_sem]
    exact retP_eq (by rw [hres]; simp [hv, int])
 | false =>
  have hres : stepE s n vars = firstE [whenE (decide (0 < s.factors.length)) 1, whenE (decide (s.var < 0) || decide (vars ≤ s.var)) 8, withinE s.bound (-4294967295) 4294967295, earlierE s.k0 n, earlierE s.k1 n] := by
   simp only [stepE, hleaf, Bool.false_eq_true, if_false]
  have h0 : decide ((0 : Int) < s.factors.length) = decide (0 < s.factors.length) := by simp
  simp only [go_sem, Tryz.f125, hleaf]
  refine dcallB_use (f121 _ _) rfl ?_
  by_cases hv : s.var < 0
  ·simp only [go_sem, hv]
   refine dcallB_use (f121 _ _) rfl ?_
   simp only [go_sem]
   refine dcallB_use (f124 _ _ _) rfl ?_
   simp only [go_sem]
   refine dcallB_use (f210 _ _) rfl ?_
   simp only [go_sem]
   refine callB_use (f210 _ _) rfl ?_
   simp only [go_sem]
   refine callB_use (f120 [_, _, _, _, _] (by simp)) rfl ?_
   simp only [go_sem]
   exact retP_eq (by rw [hres, ← h0]; simp [hv, int])
  ·simp only [go_sem, hv]
   refine dcallB_use (f121 _ _) rfl ?_
   simp only [go_sem]
   refine dcallB_use (f124 _ _ _) rfl ?_
   simp only [go_sem]
   refine dcallB_use (f210 _ _) rfl ?_
   simp only [go_sem]
   refine callB_use (f210 _ _) rfl ?_
   simp only [go_sem]
   refine callB_use (f120 [_, _, _, _, _] (by simp)) rfl ?_
   simp only [go_sem]
   exact retP_eq (by rw [hres, ← h0]; simp [hv, int])
end Go.AL
