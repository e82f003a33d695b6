import Derived.Test.YtjimmpldofoimaaGreatDoorWh
set_option linter.unusedVariables false
set_option linter.unusedSimpArgs false
namespace Go.AL
open Go.Proofs
variable {Γ : Glob}
attribute [local irreducible] codeW opsW dopsW
end Go.AL

namespace Go.AL
open Go.Proofs
def Vs (sp : List Rg) : Prop := ∀ r ∈ sp, -4294967295 ≤ r.lo ∧ r.lo ≤ r.hi ∧ r.hi ≤ 4294967295
def Cs (cs : List Int) : Prop := ∀ c ∈ cs, -1000000 ≤ c ∧ c ≤ 1000000
theorem mul_bound {c h : Int} (hc : -1000000 ≤ c ∧ c ≤ 1000000) (hh : -4294967295 ≤ h ∧ h ≤ 4294967295) : -4294967295000000 ≤ c * h ∧ c * h ≤ 4294967295000000 := by
 have h1 : (c * h).natAbs ≤ 4294967295000000 := by
  rw [Int.natAbs_mul]
  exact Nat.le_trans (Nat.mul_le_mul (show c.natAbs ≤ 1000000 by omega) (show h.natAbs ≤ 4294967295 by omega)) (by decide)
 omega
def prodP (c : Int) (r : Rg) : Int := if 0 < c then c * r.hi else c * r.lo
theorem prodP_bound {c : Int} {r : Rg} (hc : -1000000 ≤ c ∧ c ≤ 1000000) (hr : -4294967295 ≤ r.lo ∧ r.lo ≤ r.hi ∧ r.hi ≤ 4294967295) : -4294967295000000 ≤ prodP c r ∧ prodP c r ≤ 4294967295000000 := by
 unfold prodP
 split
 ·exact mul_bound hc (by omega)
 ·exact mul_bound hc (by omega)
theorem mx_prod {c : Int} {r : Rg} (hc : -1000000 ≤ c ∧ c ≤ 1000000) (hr : -4294967295 ≤ r.lo ∧ r.lo ≤ r.hi ∧ r.hi ≤ 4294967295) : mx (IntKind.i64.wrap (c * r.lo)) (IntKind.i64.wrap (c * r.hi)) = prodP c r := by
 have h1 := mul_bound (h := r.lo) hc (by omega)
 have h2 := mul_bound (h := r.hi) hc (by omega)
 rw [wrap_i64 _ (by omega) (by omega), wrap_i64 _ (by omega) (by omega)]
 unfold mx prodP
 by_cases h : 0 < c
 ·have := Int.mul_le_mul_of_nonneg_left hr.2.1 (Int.le_of_lt h)
  rw [if_pos h]
  split <;> omega
 ·have := Int.mul_le_mul_of_nonpos_left (show c ≤ 0 by omega) hr.2.1
  rw [if_neg h]
  split <;> omega
def zat (w : Int) : Nat → List Int → List Int
 | _, [] => []
 | k, c :: cs => (if (k : Int) = w then 0 else c) :: zat w (k + 1) cs
theorem zat_none : ∀ (cs : List Int) (k : Nat), zat (-1) k cs = cs
 | [], _ => rfl
 | c :: cs, k => by
  have : ¬ ((k : Int) = -1) := by omega
  rw [zat, zat_none, if_neg this]
theorem zat_past : ∀ (cs : List Int) (k i : Nat), i < k → zat i k cs = cs
 | [], _, _, _ => rfl
 | c :: cs, k, i, h => by
  have : ¬ ((k : Int) = i) := by omega
  rw [zat, zat_past _ _ _ (by omega), if_neg this]
theorem zat_set : ∀ (cs : List Int) (k i : Nat), zat ((k + i : Nat) : Int) k cs = cs.set i 0
 | [], _, _ => rfl
 | c :: cs, k, 0 => by
  rw [Nat.add_zero, zat, if_pos rfl, zat_past _ _ _ (by omega)]
  rfl
 | c :: cs, k, i + 1 => by
  have : ¬ ((k : Int) = ((k + (i + 1) : Nat) : Int)) := by omega
  have ih := zat_set cs (k + 1) i
  rw [show k + 1 + i = k + (i + 1) by omega] at ih
  rw [zat, if_neg this, ih]
  rfl
theorem drop_get {α : Type} {l : List α} {k : Nat} (h : k < l.length) : ∃ x, l[k]? = some x ∧ l.drop k = x :: l.drop (k + 1) :=
 ⟨l[k], List.getElem?_eq_getElem h, List.drop_eq_getElem_cons h⟩
theorem great_cons {sp : List Rg} {w : Int} {k : Nat} {c : Int} {cs : List Int} {n : Int} {r : Rg} (hr : sp[k]? = some r) (hc : -1000000 ≤ c ∧ c ≤ 1000000) (hv : -4294967295 ≤ r.lo ∧ r.lo ≤ r.hi ∧ r.hi ≤ 4294967295) :
  greatF sp w k (c :: cs) n = greatF sp w (k + 1) cs (if (k : Int) = w then n else IntKind.i64.wrap (n + prodP c r)) := by
 rw [greatF, hr]
 congr 1
 split
 ·rfl
 ·have h1 := mul_bound (h := r.lo) hc (by omega)
  have h2 := mul_bound (h := r.hi) hc (by omega)
  simp only [prodP]
  rw [wrap_i64 (c * r.hi) (by omega) (by omega), wrap_i64 (c * r.lo) (by omega) (by omega)]
  split <;> rfl
theorem great_bound {sp : List Rg} (hV : Vs sp) (w : Int) : ∀ (cs : List Int) (k : Nat) (n : Int) (B : Int), -B ≤ n → n ≤ B → B + cs.length * 4294967295000000 ≤ 9000000000000000000 → Cs cs → cs.length + k = sp.length →
  -(B + cs.length * 4294967295000000) ≤ greatF sp w k cs n ∧ greatF sp w k cs n ≤ B + cs.length * 4294967295000000
 | [], k, n, B, h1, h2, _, _, _ => by simp only [greatF, List.length_nil]; omega
 | c :: cs, k, n, B, h1, h2, hB, hc, hl => by
  obtain ⟨r, hr, hd⟩ := drop_get (l := sp) (k := k) (by simp only [List.length_cons] at hl; omega)
  have hv := hV r (mem_of_get hr)
  have hcc := hc c List.mem_cons_self
  have hp := prodP_bound hcc hv
  simp only [List.length_cons] at hB hl ⊢
  rw [great_cons hr hcc hv]
  have := great_bound hV w cs (k + 1) (if (k : Int) = w then n else IntKind.i64.wrap (n + prodP c r)) (B + 4294967295000000) ?_ ?_ (by omega) (fun x hx => hc x (List.mem_cons_of_mem _ hx)) (by omega)
  ·omega
  ·split
   ·omega
   ·rw [wrap_i64 _ (by omega) (by omega)]; omega
  ·split
   ·omega
   ·rw [wrap_i64 _ (by omega) (by omega)]; omega
structure TmOk (t : Tm) (m : Nat) : Prop where
 len : t.coeffs.length = m
 le : m ≤ 8
 cs : Cs t.coeffs
 lo : -1000000000000 ≤ t.const
 hi : t.const ≤ 1000000000000
theorem TmOk.great {t : Tm} {m : Nat} (h : TmOk t m) {sp : List Rg} (hV : Vs sp) (hs : sp.length = m) (w : Int) : -40000000000000000 ≤ greatP t sp w ∧ greatP t sp w ≤ 40000000000000000 := by
 have := great_bound hV w t.coeffs 0 t.const 1000000000000 (by have := h.lo; omega) h.hi (by have := h.len; have := h.le; omega) h.cs (by rw [h.len, hs]; rfl)
 have h1 := h.len
 have h2 := h.le
 unfold greatP
 omega
theorem tdiv_bound {r c : Int} (hc : 1 ≤ c) : -r.natAbs ≤ r.tdiv c ∧ r.tdiv c ≤ r.natAbs := by
 have : (r.tdiv c).natAbs ≤ r.natAbs := by
  rw [Int.natAbs_tdiv]
  exact Nat.div_le_self _ _
 omega
theorem floorP_bound {r c : Int} (hc : 1 ≤ c) (h1 : -40000000000000000 ≤ r) (h2 : r ≤ 40000000000000000) : -40000000000000001 ≤ floorP r c ∧ floorP r c ≤ 40000000000000000 := by
 have h := tdiv_bound (r := r) hc
 unfold floorP
 rw [wrap_i64 (r.tdiv c) (by omega) (by omega), wrap_i64 (r.tdiv c - 1) (by omega) (by omega)]
 split <;> omega
theorem TmOk.narrow {t : Tm} {m : Nat} (h : TmOk t m) {sp : List Rg} (hV : Vs sp) (hs : sp.length = m) {i : Nat} {c : Int} (hc : t.coeffs[i]? = some c) (h0 : c ≠ 0) {x : Rg} (hx : sp[i]? = some x) :
  x.lo ≤ (narrowP t sp i c x).lo ∧ (narrowP t sp i c x).hi ≤ x.hi ∧ (sizeP (narrowP t sp i c x) < 0 ↔ (narrowP t sp i c x).hi < (narrowP t sp i c x).lo) := by
 have hv := hV x (mem_of_get hx)
 have hg := h.great hV hs i
 have hcc := h.cs c (mem_of_get hc)
 unfold sizeP narrowP
 split
 ·have hf := floorP_bound (c := c) (by omega) hg.1 hg.2
  rw [wrap_i64 (0 - floorP (greatP t sp i) c) (by omega) (by omega)]
  simp only
  split
  ·rw [wrap_i64 _ (by omega) (by omega)]; omega
  ·rw [wrap_i64 _ (by omega) (by omega)]; omega
 ·rw [wrap_i64 (0 - c) (by omega) (by omega)]
  have hf := floorP_bound (c := 0 - c) (by omega) hg.1 hg.2
  simp only
  split
  ·rw [wrap_i64 _ (by omega) (by omega)]; omega
  ·rw [wrap_i64 _ (by omega) (by omega)]; omega
theorem Vs.set {sp : List Rg} (hV : Vs sp) {i : Nat} {y : Rg} (hy : -4294967295 ≤ y.lo ∧ y.lo ≤ y.hi ∧ y.hi ≤ 4294967295) : Vs (sp.set i y) := fun r hr => by
 rcases List.mem_or_eq_of_mem_set hr with h | h
 ·exact hV r h
 ·rw [h]; exact hy
theorem Vs.narrow {t : Tm} {m : Nat} (h : TmOk t m) {sp : List Rg} (hV : Vs sp) (hs : sp.length = m) {i : Nat} {c : Int} (hc : t.coeffs[i]? = some c) (h0 : c ≠ 0) {x : Rg} (hx : sp[i]? = some x) (hz : ¬ sizeP (narrowP t sp i c x) < 0) :
  Vs (sp.set i (narrowP t sp i c x)) := by
 obtain ⟨h1, h2, h3⟩ := h.narrow hV hs hc h0 hx
 have hv := hV x (mem_of_get hx)
 have : ¬ _ := fun e => hz (h3.2 e)
 exact hV.set ⟨by omega, by omega, by omega⟩
variable {Γ : Glob}
attribute [local irreducible] codeW opsW dopsW
def modelB (l : List Tm) (vs : List Int) : Bool := !(l.any fun t => decide (valueR t vs < 0))
end Go.AL
