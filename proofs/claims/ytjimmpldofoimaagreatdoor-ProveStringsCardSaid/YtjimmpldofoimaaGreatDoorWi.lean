import Derived.Test.YtjimmpldofoimaaGreatDoorWh
open Nat renaming reduceEqDiff → xQ, reduceAdd → xA, reduceMul → xM, reduceLeDiff → xL
open Int renaming reduceLT → xT, reduceLE → xE, reduceToNat → xN
set_option linter.unusedVariables false
set_option linter.unusedSimpArgs false
namespace Go.AL
open Go.Proofs
variable {Γ : Glob}
attribute [local irreducible] codeW opsW dopsW
theorem f32 (l : List Rg) (hl : Fits l.length) : PCalls Tryz.prog Γ 32 [slR l] (slR l) := by
  refine pcalls (ok32 Γ) fun σ => ?_
  simp only [go_sem, xQ, ↓reduceIte, xA, xM, xL, xT, xE, xN, Tryz.f32]
  refine SemC.loopK mixed l.length (fun k ρ σ' ds => Drop σ' σ ∧ ds = [] ∧ ρ 6 = slR l ∧ ρ 7 = int l.length ∧ ρ 8 = int k ∧ Grow σ σ' 2 (ρ 3) ((l.take k).flatMap rgC) k) (by kernel_rfl) ⟨.refl _, rfl, rfl, rfl, rfl, .nil _ _ _⟩ ?_
  rintro k ρ σ' ds hk ⟨hD, rfl, h6, h7, h8, hG⟩
  rcases get_or_end l k hk with ⟨x, hx, hlt, hd⟩ | rfl
  · simp only [go_sem, xQ, ↓reduceIte, xA, xM, xL, xT, xE, xN, h6, h7, h8, hlt, hx, ↓rg_part hx]
    intro b hb
    simp only [go_sem, xQ, ↓reduceIte, xA, xM, xL, xT, xE, xN, h6, h7, h8, hlt, hx, ↓rg_part hx]
    refine appB_sl (appT_sl el49 tk91 by91 el49 (by decide) rfl (by decide)) (hD.upd (hD.free hb)) (hG.upd hb) rfl rfl (by omega) (fun a' σ2 hD2 hO hG2 => ?_)
    simp only [go_sem, xQ, ↓reduceIte, xA, xM, xL, xT, xE, xN, h6, h7, h8]
    refine ⟨hD2, by rw [wrap_succ _ (by omega)], ?_⟩
    rw [take_succ hx, List.flatMap_append]
    simpa [rgC, int] using hG2
  · simp only [go_sem, xQ, ↓reduceIte, xA, xM, xL, xT, xE, xN, h6, h7, h8, Nat.lt_irrefl]
    have := hG.retP hD
    rw [List.take_length] at this
    exact this
theorem f35 (l : List Tm) : PCalls Tryz.prog Γ 35 [slT l] (int (varsOf l)) := by
  refine pcalls (ok35 Γ) fun σ => ?_
  by_cases hl0 : (l.length : Int) = 0
  · have : l = [] := List.eq_nil_of_length_eq_zero (by omega)
    subst this
    simp only [go_sem, xQ, ↓reduceIte, xA, xM, xL, xT, xE, xN, Tryz.f35]
    exact retP_eq rfl
  · obtain ⟨t, ht⟩ : ∃ t, l[0]? = some t := by
      cases l with
      | nil => simp at hl0
      | cons t l => exact ⟨t, rfl⟩
    have hg0 : (l.flatMap tmC)[0]? = some (slI t.coeffs) := by simpa using tm_get0 ht
    have hlt := lt_of_getElem? ht
    have hlt' : (0 : Int) < l.length := by omega
    have hr : varsOf l = t.coeffs.length := by
      cases l with
      | nil => simp at ht
      | cons t' l => simp at ht; subst ht; rfl
    simp only [go_sem, xQ, ↓reduceIte, xA, xM, xL, xT, xE, xN, Tryz.f35, hl0, hg0, hlt, hlt', Int.le_refl, Int.toNat_zero, Nat.zero_mul]
    exact retP_eq (by rw [hr])
theorem f216 (a b : Int) (hb : b ≠ 0) : PCalls Tryz.prog Γ 216 [int a, int b] (int (floorP a b)) := by
  refine pcalls (ok216 Γ) fun σ => ?_
  by_cases h : a.tmod b < 0
  · simp only [go_sem, xQ, ↓reduceIte, xA, xM, xL, xT, xE, xN, Tryz.f216, hb, h]
    exact retP_eq (by simp [floorP, h])
  · simp only [go_sem, xQ, ↓reduceIte, xA, xM, xL, xT, xE, xN, Tryz.f216, hb, h]
    exact retP_eq (by simp [floorP, h])
theorem f36 (n : Int) : PCalls Tryz.prog Γ 36 [int n] (int (withinE n 1 200)) := by
  refine pcalls (ok36 Γ) fun σ => ?_
  simp only [go_sem, xQ, ↓reduceIte, xA, xM, xL, xT, xE, xN, Tryz.f36]
  exact callB_use (f129 _ _ _) rfl (by simp only [go_sem, xQ, ↓reduceIte, xA, xM, xL, xT, xE, xN])
end Go.AL

/- The spans of the searches: bounds, and the reference's range against the program's greatest value. -/
set_option linter.unusedVariables false
set_option linter.unusedSimpArgs false
namespace Go.AL
open Go.Proofs
def Vs (sp : List Rg) : Prop := ∀ r ∈ sp, -4294967295 ≤ r.lo ∧ r.lo ≤ r.hi ∧ r.hi ≤ 4294967295
def Cs (cs : List Int) : Prop := ∀ c ∈ cs, -1000000 ≤ c ∧ c ≤ 1000000
def InR (n : Int) : Prop := -9223372036854775808 ≤ n ∧ n ≤ 9223372036854775807
theorem inR_wrap (n : Int) : InR (IntKind.i64.wrap n) := by
  unfold InR
  rw [IntKind.wrap_i64]
  omega
theorem wrap_inR {n : Int} (h : InR n) : IntKind.i64.wrap n = n := wrap_i64 n h.1 h.2
theorem mul_bound {c h : Int} (hc : -1000000 ≤ c ∧ c ≤ 1000000) (hh : -4294967295 ≤ h ∧ h ≤ 4294967295) : -4294967295000000 ≤ c * h ∧ c * h ≤ 4294967295000000 := by
  have h1 : (c * h).natAbs ≤ 4294967295000000 := by
    rw [Int.natAbs_mul]
    exact Nat.le_trans (Nat.mul_le_mul (show c.natAbs ≤ 1000000 by omega) (show h.natAbs ≤ 4294967295 by omega)) (by decide)
  omega
def prodP (c : Int) (r : Rg) : Int := if 0 < c then c * r.hi else c * r.lo
theorem prodP_bound {c : Int} {r : Rg} (hc : -1000000 ≤ c ∧ c ≤ 1000000) (hr : -4294967295 ≤ r.lo ∧ r.lo ≤ r.hi ∧ r.hi ≤ 4294967295) : -4294967295000000 ≤ prodP c r ∧ prodP c r ≤ 4294967295000000 := by
  unfold prodP
  split
  · exact mul_bound hc (by omega)
  · exact mul_bound hc (by omega)
theorem mx_prod {c : Int} {r : Rg} (hc : -1000000 ≤ c ∧ c ≤ 1000000) (hr : -4294967295 ≤ r.lo ∧ r.lo ≤ r.hi ∧ r.hi ≤ 4294967295) : mx (IntKind.i64.wrap (c * r.lo)) (IntKind.i64.wrap (c * r.hi)) = prodP c r := by
  have h1 := mul_bound (h := r.lo) hc (by omega)
  have h2 := mul_bound (h := r.hi) hc (by omega)
  rw [wrap_i64 _ (by omega) (by omega), wrap_i64 _ (by omega) (by omega)]
  unfold mx prodP
  by_cases h : 0 < c
  · have := Int.mul_le_mul_of_nonneg_left hr.2.1 (Int.le_of_lt h)
    rw [if_pos h]
    split <;> omega
  · have := Int.mul_le_mul_of_nonpos_left (show c ≤ 0 by omega) hr.2.1
    rw [if_neg h]
    split <;> omega
def zat (w : Int) : Nat → List Int → List Int
  | _, [] => []
  | k, c :: cs => (if (k : Int) = w then 0 else c) :: zat w (k + 1) cs
theorem zat_none : ∀ (cs : List Int) (k : Nat), zat (-1) k cs = cs
  | [], _ => rfl
  | c :: cs, k => by
    have : ¬ ((k : Int) = -1) := by omega
    rw [zat, zat_none, if_neg this]
theorem zat_past : ∀ (cs : List Int) (k i : Nat), i < k → zat i k cs = cs
  | [], _, _, _ => rfl
  | c :: cs, k, i, h => by
    have : ¬ ((k : Int) = i) := by omega
    rw [zat, zat_past _ _ _ (by omega), if_neg this]
theorem zat_set : ∀ (cs : List Int) (k i : Nat), zat ((k + i : Nat) : Int) k cs = cs.set i 0
  | [], _, _ => rfl
  | c :: cs, k, 0 => by
    rw [Nat.add_zero, zat, if_pos rfl, zat_past _ _ _ (by omega)]
    rfl
  | c :: cs, k, i + 1 => by
    have : ¬ ((k : Int) = ((k + (i + 1) : Nat) : Int)) := by omega
    have ih := zat_set cs (k + 1) i
    rw [show k + 1 + i = k + (i + 1) by omega] at ih
    rw [zat, if_neg this, ih]
    rfl
theorem drop_get {α : Type} {l : List α} {k : Nat} (h : k < l.length) : ∃ x, l[k]? = some x ∧ l.drop k = x :: l.drop (k + 1) :=
  ⟨l[k], List.getElem?_eq_getElem h, List.drop_eq_getElem_cons h⟩
theorem great_cons {sp : List Rg} {w : Int} {k : Nat} {c : Int} {cs : List Int} {n : Int} {r : Rg} (hr : sp[k]? = some r) (hc : -1000000 ≤ c ∧ c ≤ 1000000) (hv : -4294967295 ≤ r.lo ∧ r.lo ≤ r.hi ∧ r.hi ≤ 4294967295) :
    greatF sp w k (c :: cs) n = greatF sp w (k + 1) cs (if (k : Int) = w then n else IntKind.i64.wrap (n + prodP c r)) := by
  rw [greatF, hr]
  congr 1
  split
  · rfl
  · have h1 := mul_bound (h := r.lo) hc (by omega)
    have h2 := mul_bound (h := r.hi) hc (by omega)
    simp only [prodP]
    rw [wrap_i64 (c * r.hi) (by omega) (by omega), wrap_i64 (c * r.lo) (by omega) (by omega)]
    split <;> rfl
theorem ranged_great {sp : List Rg} (hV : Vs sp) (w : Int) : ∀ (cs : List Int) (k : Nat) (o : Rg) (n : Int), o.hi = n → InR n → Cs cs → cs.length + k = sp.length → (rangedF (zat w k cs) (sp.drop k) o).hi = greatF sp w k cs n
  | [], k, o, n, ho, _, _, _ => by
    rw [zat, greatF]
    simp [rangedF, ho]
  | c :: cs, k, o, n, ho, hn, hc, hl => by
    obtain ⟨r, hr, hd⟩ := drop_get (l := sp) (k := k) (by simp only [List.length_cons] at hl; omega)
    have hv := hV r (mem_of_get hr)
    have hcc := hc c List.mem_cons_self
    rw [great_cons hr hcc hv, zat, hd, rangedF]
    refine ranged_great hV w cs (k + 1) _ _ ?_ ?_ (fun x hx => hc x (List.mem_cons_of_mem _ hx)) (by simp only [List.length_cons] at hl; omega)
    · split
      · simp only [Int.zero_mul]
        rw [show IntKind.i64.wrap 0 = 0 from wrap_i64 _ (by decide) (by decide)]
        simp only [mx, Int.lt_irrefl, if_false, Int.add_zero, ho]
        exact wrap_inR hn
      · simp only [mx_prod hcc hv, ho]
    · split
      · exact hn
      · exact inR_wrap _
theorem great_bound {sp : List Rg} (hV : Vs sp) (w : Int) : ∀ (cs : List Int) (k : Nat) (n : Int) (B : Int), -B ≤ n → n ≤ B → B + cs.length * 4294967295000000 ≤ 9000000000000000000 → Cs cs → cs.length + k = sp.length →
    -(B + cs.length * 4294967295000000) ≤ greatF sp w k cs n ∧ greatF sp w k cs n ≤ B + cs.length * 4294967295000000
  | [], k, n, B, h1, h2, _, _, _ => by simp only [greatF, List.length_nil]; omega
  | c :: cs, k, n, B, h1, h2, hB, hc, hl => by
    obtain ⟨r, hr, hd⟩ := drop_get (l := sp) (k := k) (by simp only [List.length_cons] at hl; omega)
    have hv := hV r (mem_of_get hr)
    have hcc := hc c List.mem_cons_self
    have hp := prodP_bound hcc hv
    simp only [List.length_cons] at hB hl ⊢
    rw [great_cons hr hcc hv]
    have := great_bound hV w cs (k + 1) (if (k : Int) = w then n else IntKind.i64.wrap (n + prodP c r)) (B + 4294967295000000) ?_ ?_ (by omega) (fun x hx => hc x (List.mem_cons_of_mem _ hx)) (by omega)
    · omega
    · split
      · omega
      · rw [wrap_i64 _ (by omega) (by omega)]; omega
    · split
      · omega
      · rw [wrap_i64 _ (by omega) (by omega)]; omega
/-- A term that the searches are asked for. -/
structure TmOk (t : Tm) (m : Nat) : Prop where
  len : t.coeffs.length = m
  le : m ≤ 8
  cs : Cs t.coeffs
  lo : -1000000000000 ≤ t.const
  hi : t.const ≤ 1000000000000
theorem TmOk.great {t : Tm} {m : Nat} (h : TmOk t m) {sp : List Rg} (hV : Vs sp) (hs : sp.length = m) (w : Int) : -40000000000000000 ≤ greatP t sp w ∧ greatP t sp w ≤ 40000000000000000 := by
  have := great_bound hV w t.coeffs 0 t.const 1000000000000 (by have := h.lo; omega) h.hi (by have := h.len; have := h.le; omega) h.cs (by rw [h.len, hs]; rfl)
  have h1 := h.len
  have h2 := h.le
  unfold greatP
  omega
theorem TmOk.ranged {t : Tm} {m : Nat} (h : TmOk t m) {sp : List Rg} (hV : Vs sp) (hs : sp.length = m) : (rangedR t sp).hi = greatP t sp (-1) := by
  have := ranged_great hV (-1) t.coeffs 0 ⟨t.const, t.const⟩ t.const rfl ⟨by have := h.lo; omega, by have := h.hi; omega⟩ h.cs (by rw [h.len, hs]; rfl)
  rw [zat_none] at this
  exact this
theorem TmOk.ranged_at {t : Tm} {m : Nat} (h : TmOk t m) {sp : List Rg} (hV : Vs sp) (hs : sp.length = m) (i : Nat) : (rangedR ⟨t.coeffs.set i 0, t.const⟩ sp).hi = greatP t sp i := by
  have := ranged_great hV i t.coeffs 0 ⟨t.const, t.const⟩ t.const rfl ⟨by have := h.lo; omega, by have := h.hi; omega⟩ h.cs (by rw [h.len, hs]; rfl)
  have hz := zat_set t.coeffs 0 i
  rw [Nat.zero_add] at hz
  rw [hz] at this
  exact this
theorem tdiv_bound {r c : Int} (hc : 1 ≤ c) : -r.natAbs ≤ r.tdiv c ∧ r.tdiv c ≤ r.natAbs := by
  have : (r.tdiv c).natAbs ≤ r.natAbs := by
    rw [Int.natAbs_tdiv]
    exact Nat.div_le_self _ _
  omega
theorem floorP_bound {r c : Int} (hc : 1 ≤ c) (h1 : -40000000000000000 ≤ r) (h2 : r ≤ 40000000000000000) : -40000000000000001 ≤ floorP r c ∧ floorP r c ≤ 40000000000000000 := by
  have h := tdiv_bound (r := r) hc
  unfold floorP
  rw [wrap_i64 (r.tdiv c) (by omega) (by omega), wrap_i64 (r.tdiv c - 1) (by omega) (by omega)]
  split <;> omega
theorem TmOk.narrow {t : Tm} {m : Nat} (h : TmOk t m) {sp : List Rg} (hV : Vs sp) (hs : sp.length = m) {i : Nat} {c : Int} (hc : t.coeffs[i]? = some c) (h0 : c ≠ 0) {x : Rg} (hx : sp[i]? = some x) :
    x.lo ≤ (narrowP t sp i c x).lo ∧ (narrowP t sp i c x).hi ≤ x.hi ∧ (sizeP (narrowP t sp i c x) < 0 ↔ (narrowP t sp i c x).hi < (narrowP t sp i c x).lo) := by
  have hv := hV x (mem_of_get hx)
  have hg := h.great hV hs i
  have hcc := h.cs c (mem_of_get hc)
  unfold sizeP narrowP
  split
  · have hf := floorP_bound (c := c) (by omega) hg.1 hg.2
    rw [wrap_i64 (0 - floorP (greatP t sp i) c) (by omega) (by omega)]
    simp only
    split
    · rw [wrap_i64 _ (by omega) (by omega)]; omega
    · rw [wrap_i64 _ (by omega) (by omega)]; omega
  · rw [wrap_i64 (0 - c) (by omega) (by omega)]
    have hf := floorP_bound (c := 0 - c) (by omega) hg.1 hg.2
    simp only
    split
    · rw [wrap_i64 _ (by omega) (by omega)]; omega
    · rw [wrap_i64 _ (by omega) (by omega)]; omega
theorem Vs.set {sp : List Rg} (hV : Vs sp) {i : Nat} {y : Rg} (hy : -4294967295 ≤ y.lo ∧ y.lo ≤ y.hi ∧ y.hi ≤ 4294967295) : Vs (sp.set i y) := fun r hr => by
  rcases List.mem_or_eq_of_mem_set hr with h | h
  · exact hV r h
  · rw [h]; exact hy
theorem Vs.narrow {t : Tm} {m : Nat} (h : TmOk t m) {sp : List Rg} (hV : Vs sp) (hs : sp.length = m) {i : Nat} {c : Int} (hc : t.coeffs[i]? = some c) (h0 : c ≠ 0) {x : Rg} (hx : sp[i]? = some x) (hz : ¬ sizeP (narrowP t sp i c x) < 0) :
    Vs (sp.set i (narrowP t sp i c x)) := by
  obtain ⟨h1, h2, h3⟩ := h.narrow hV hs hc h0 hx
  have hv := hV x (mem_of_get hx)
  have : ¬ _ := fun e => hz (h3.2 e)
  exact hV.set ⟨by omega, by omega, by omega⟩
end Go.AL

set_option linter.unusedVariables false
set_option linter.unusedSimpArgs false
namespace Go.AL
open Go.Proofs
variable {Γ : Glob}
attribute [local irreducible] codeW opsW dopsW
def modelB (l : List Tm) (vs : List Int) : Bool := !(l.any fun t => decide (valueR t vs < 0))
theorem f89 (l : List Tm) (vs : List Int) (hl : Fits l.length) (hv : Fits vs.length) (hm : ∀ t ∈ l, vs.length = t.coeffs.length) : PCalls Tryz.prog Γ 89 [slT l, slI vs] (.v (.bool (modelB l vs))) := by
  refine pcalls (ok89 Γ) fun σ => ?_
  simp only [go_sem, xQ, ↓reduceIte, xA, xM, xL, xT, xE, xN, Tryz.f89]
  refine SemC.loopK mixed l.length (fun k ρ σ' ds => σ' = σ ∧ ds = [] ∧ ρ 0 = slT l ∧ ρ 1 = slI vs ∧ ρ 5 = int k ∧ modelB l vs = modelB (l.drop k) vs) (by kernel_rfl) ⟨rfl, rfl, rfl, rfl, rfl, rfl⟩ ?_
  rintro k ρ σ' ds hk ⟨rfl, rfl, h0, h1, h5, hz⟩
  rcases get_or_end l k hk with ⟨t, ht, hlt, hd⟩ | hk
  · have hz2 : modelB l vs = (!decide (valueR t vs < 0) && modelB (l.drop (k + 1)) vs) := by rw [hz, hd]; simp [modelB]
    simp only [go_sem, xQ, ↓reduceIte, xA, xM, xL, xT, xE, xN, h0, h1, h5, hlt, ht, ↓tm_part ht]
    refine callB_use (f78 t vs hv (hm t (mem_of_get ht))) rfl ?_
    by_cases h : valueR t vs < 0
    · simp only [go_sem, xQ, ↓reduceIte, xA, xM, xL, xT, xE, xN, h0, h1, h5, h]
      exact retP_eq (by rw [hz2]; simp [h])
    · simp only [go_sem, xQ, ↓reduceIte, xA, xM, xL, xT, xE, xN, h0, h1, h5, h]
      exact ⟨hlt, by rw [wrap_succ _ (by omega)], by rw [hz2]; simp [h]⟩
  · subst hk
    simp only [go_sem, xQ, ↓reduceIte, xA, xM, xL, xT, xE, xN, h0, h1, h5, Nat.lt_irrefl]
    exact retP_eq (by rw [hz]; simp [modelB])
theorem ints_one' (l : List Int) : (ints l).all AV.one = true := by
  induction l with
  | nil => rfl
  | cons t l ih => rw [ints, List.map_cons, List.all_cons]; exact ih
theorem f117o (t : Tm) (hl : Fits t.coeffs.length) {σ0 σ : Sig} (hD : Drop σ σ0) {K : AV → Sig → Prop} (hK : ∀ a σ', Drop σ' σ0 → Others .e0 σ σ' → Grow σ0 σ' 1 a (ints t.coeffs) t.coeffs.length → K (.agg [a, int t.const]) σ') : ACalls Tryz.prog Γ 117 [tmA t] σ K := by
  refine acalls (ok117 Γ) ?_
  simp only [go_sem, xQ, ↓reduceIte, xA, xM, xL, xT, xE, xN, Tryz.f117]
  intro b hb
  simp only [go_sem, xQ, ↓reduceIte, xA, xM, xL, xT, xE, xN]
  refine appB_sl (appT_sl el46 tk3 by3 el46 (by decide) rfl (by decide)) (hD.upd (hD.free hb)) (Grow.e0 σ0 _ 1) (ints_one' _) (by simp [ints]) (by omega) (fun a' σ2 hD2 hO hG2 => ?_)
  have hc2 := hG2.cells
  have ho2 := hG2.one
  have e2 : σ2 b = some (Blk.row [AV.v (Value.slice none 0 0), AV.v (Value.int IntKind.i64 0)] 2 1) := by
    rw [hO b (fun s o m e => by cases e) (by simp [upd])]; simp [upd]
  simp only [go_sem, xQ, ↓reduceIte, xA, xM, xL, xT, xE, xN, hc2, ho2, e2]
  refine hK a' _ (hD2.upd (hD.free hb)) (fun b' _ hn => ?_) (by have := hG2.upd_row (x := some (Blk.row [a', AV.v (Value.int IntKind.i64 t.const)] 2 1)) e2 (by decide); simpa using this)
  have hbb : ¬ b' = b := fun e => hn (by rw [e, hb])
  rw [upd_ne _ _ _ _ hbb, hO b' (fun s o m e => by cases e) (by rw [upd_ne _ _ _ _ hbb]; exact hn), upd_ne _ _ _ _ hbb]
theorem f178 (t : Tm) (sp : List Rg) (i m : Nat) (c : Int) (x : Rg) (h : TmOk t m) (hV : Vs sp) (hs : sp.length = m) (hc : t.coeffs[i]? = some c) (h0 : c ≠ 0) (hx : sp[i]? = some x) : PCalls Tryz.prog Γ 178 [tmA t, slR sp, int i] (rgA (narrowP t sp i c x)) := by
  refine pcalls (ok178 Γ) fun σ => ?_
  have hlen := h.len
  have hle := h.le
  have hi := lt_of_getElem? hc
  have hi2 := lt_of_getElem? hx
  simp only [go_sem, xQ, ↓reduceIte, xA, xM, xL, xT, xE, xN, Tryz.f178, hc, hi]
  intro b6 hb6
  simp only [go_sem, xQ, ↓reduceIte, xA, xM, xL, xT, xE, xN, hc, hi]
  refine callB_a (f117o t (by omega) ((Drop.refl σ).upd hb6) fun a σ2 hD2 hO hG => ?_) rfl
  have e6 : σ2 b6 = some (Blk.row [AV.v (Value.int IntKind.i64 0), AV.v (Value.int IntKind.i64 0)] 2 1) := by
    rw [hO b6 (fun s o m e => by cases e) (by simp [upd])]; simp [upd]
  obtain ⟨b, cc, rfl, hb0, hbr⟩ : ∃ b cc, a = .own b 1 0 t.coeffs.length ∧ σ b = none ∧ σ2 b = some (.row (ints t.coeffs) 1 cc) := by
    rcases hG with ⟨_, h1, _⟩ | ⟨b, cc, h1, h2, h3, h4⟩
    · exact absurd h1 (by
        intro e
        have := congrArg List.length e
        simp [ints] at this
        rw [this] at hi
        simp at hi)
    · exact ⟨b, cc, h1, h2, h3⟩
  have nb6 : ¬ b = b6 := fun e => by rw [e, e6] at hbr; simp at hbr
  have nb6' : ¬ b6 = b := fun e => nb6 e.symm
  simp only [go_sem, xQ, ↓reduceIte, xA, xM, xL, xT, xE, xN, hc, hi]
  intro b8 hb8
  have n86 := none_ne hb8 e6
  have n86' : ¬ b8 = b6 := fun e => n86 e.symm
  have n8 := none_ne hb8 hbr
  have n8' : ¬ b8 = b := fun e => n8 e.symm
  have hi' : i < t.coeffs.length := hi
  have hput := fun y => ints_put (l := t.coeffs) (k := i) (x := y) hi
  have hil : i + 1 ≤ t.coeffs.length := hi
  simp only [go_sem, xQ, ↓reduceIte, xA, xM, xL, xT, xE, xN, hc, hi, hi2, hil, nb6, nb6', n86, n86', n8, n8', e6, hbr, ints_len, ↓hput]
  have h63 := f63 (Γ := Γ) ⟨t.coeffs.set i 0, t.const⟩ sp (by omega) (by simp; omega)
  have hgr := h.ranged_at hV hs i
  simp only [tmA, tmC, slI, slR, List.length_set] at h63
  refine callB_bor h63 rfl (.cons (.agg (.cons (put_own (c := cc) (by simp only [upd_at, n8, n8', nb6, nb6', ↓reduceIte, hput]) (by simp [ints_len]) rfl) (.cons (.refl _) .nil))) (.cons (.refl _) .nil)) ?_
  simp only [go_sem, xQ, ↓reduceIte, xA, xM, xL, xT, xE, xN, hc, hi, hi2, hil, nb6, nb6', n86, n86', n8, n8', e6, hbr, ints_len, hgr, hx, ↓rg_part hx]
  intro b10 hb10
  have hb10' : σ2 b10 = none ∧ b10 ≠ b ∧ b10 ≠ b8 := by
    have q8 : ¬ b10 = b8 := fun e => by rw [e] at hb10; simp [upd, n8, n8'] at hb10
    have q : ¬ b10 = b := fun e => by rw [e] at hb10; simp [upd, n8, n8'] at hb10
    refine ⟨?_, q, q8⟩
    simpa [upd, q, q8] using hb10
  have n10 := none_ne hb10'.1 e6
  have n10' : ¬ b10 = b6 := fun e => n10 e.symm
  have k1 : ¬ b = b10 := fun e => hb10'.2.1 e.symm
  have k2 : ¬ b8 = b10 := fun e => hb10'.2.2 e.symm
  have hcb := h.cs c (mem_of_get hc)
  have hcw : IntKind.i64.wrap (0 - c) = 0 - c := wrap_i64 _ (by omega) (by omega)
  have f8 : σ b8 = none := hD2.free hb8
  have f10 : σ b10 = none := hD2.free hb10'.1
  by_cases hpos : 0 < c
  · have hr : narrowP t sp i c x = ⟨if x.lo < IntKind.i64.wrap (0 - floorP (greatP t sp i) c) then IntKind.i64.wrap (0 - floorP (greatP t sp i) c) else x.lo, x.hi⟩ := by rw [narrowP, if_pos hpos]
    simp only [go_sem, xQ, ↓reduceIte, xA, xM, xL, xT, xE, xN, hpos, n86, n86', n8, n8', n10, n10', k1, k2, nb6, nb6', e6, upd_at]
    refine dcallB_use (f216 _ c h0) rfl ?_
    simp only [go_sem, xQ, ↓reduceIte, xA, xM, xL, xT, xE, xN, hpos, n86, n86', n8, n8', n10, n10', k1, k2, nb6, nb6', e6, upd_at, rgA]
    exact retP_drop (by repeat (first | assumption | refine Drop.upd ?_ (by assumption))) (by rw [hr])
  · have hc0 : 0 - c ≠ 0 := by omega
    have hr : narrowP t sp i c x = ⟨x.lo, if floorP (greatP t sp i) (0 - c) < x.hi then floorP (greatP t sp i) (0 - c) else x.hi⟩ := by rw [narrowP, if_neg hpos, hcw]
    simp only [go_sem, xQ, ↓reduceIte, xA, xM, xL, xT, xE, xN, hpos, n86, n86', n8, n8', n10, n10', k1, k2, nb6, nb6', e6, upd_at, hcw]
    refine dcallB_use (f216 _ (0 - c) hc0) rfl ?_
    simp only [go_sem, xQ, ↓reduceIte, xA, xM, xL, xT, xE, xN, hpos, n86, n86', n8, n8', n10, n10', k1, k2, nb6, nb6', e6, upd_at, rgA]
    exact retP_drop (by repeat (first | assumption | refine Drop.upd ?_ (by assumption))) (by rw [hr])
end Go.AL
