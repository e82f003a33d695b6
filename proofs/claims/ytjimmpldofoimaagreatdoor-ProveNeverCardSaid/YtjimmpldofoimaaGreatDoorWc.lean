import Derived.Test.YtjimmpldofoimaaGreatDoorWb
set_option linter.unusedVariables false
set_option linter.unusedSimpArgs false
namespace Go.AL
open Go.Proofs
variable {Γ : Glob}
attribute [local irreducible] codeW opsW dopsW
theorem ints_zeros (n : Nat) : (List.replicate n [AV.v (.int .i64 0)]).flatten = ints (List.replicate n 0) := by
 induction n with
 | zero => rfl
 | succ n ih => rw [List.replicate_succ, List.replicate_succ, List.flatten_cons, ih]; rfl
theorem ints_put {l : List Int} {k : Nat} {x : Int} (h : k < l.length) : putL (ints l) k [AV.v (.int .i64 x)] = ints (l.set k x) := by
 rw [List.set_eq_take_append_cons_drop, if_pos h]
 simp [putL, ints, int]
def half (l l' : List Int) (k : Nat) : List Int := l'.take k ++ l.drop k
theorem half_zero (l l' : List Int) : half l l' 0 = l := by simp [half]
theorem half_len {l l' : List Int} {n k : Nat} (h : l.length = n) (h' : l'.length = n) (hk : k ≤ n) : (half l l' k).length = n := by simp [half]; omega
theorem half_end {l l' : List Int} {n : Nat} (h : l.length = n) (h' : l'.length = n) : half l l' n = l' := by
 simp [half, List.take_of_length_le (Nat.le_of_eq h'), List.drop_of_length_le (Nat.le_of_eq h)]
theorem half_get {l l' : List Int} {n k : Nat} (h' : l'.length = n) (hk : k < n) : (half l l' k)[k]? = l[k]? := by
 have : (l'.take k).length = k := by simp; omega
 rw [half, List.getElem?_append_right (by omega), this, Nat.sub_self, List.getElem?_drop, Nat.add_zero]
theorem half_set {l l' : List Int} {n k : Nat} {x : Int} (h : l.length = n) (h' : l'.length = n) (hk : k < n) (hx : l'[k]? = some x) : (half l l' k).set k x = half l l' (k + 1) := by
 have hl : (l'.take k).length = k := by simp; omega
 have hd : l.drop k = l[k] :: l.drop (k + 1) := (List.getElem_cons_drop (by omega)).symm
 rw [half, half, List.set_append_right _ _ (by omega), hl, Nat.sub_self, hd, List.set_cons_zero, take_succ hx]
 simp
def mac (f a c : Int) : Int := IntKind.i64.wrap (a + IntKind.i64.wrap (f * c))
def rowSum (f : Int) (acc cs : List Int) : List Int := List.zipWith (mac f) acc cs
def sumsL : List Tm → List Int → List Int → List Int
 | t :: l, f :: fs, acc => sumsL l fs (rowSum f acc t.coeffs)
 | _, _, acc => acc
def sumsC : List Tm → List Int → Int → Int
 | t :: l, f :: fs, a => sumsC l fs (mac f a t.const)
 | _, _, a => a
def varsOf : List Tm → Nat
 | [] => 0
 | t :: _ => t.coeffs.length
def leafB (l : List Tm) (fs : List Int) : Bool := (sumsL l fs (List.replicate (varsOf l) 0)).all (fun n => decide (n = 0)) && decide (sumsC l fs 0 < 0)
theorem rowSum_len {f : Int} {a c : List Int} {n : Nat} (h : a.length = n) (h' : c.length = n) : (rowSum f a c).length = n := by simp [rowSum, h, h']
theorem rowSum_get {f : Int} {a c : List Int} {k : Nat} {x y : Int} (h : a[k]? = some x) (h' : c[k]? = some y) : (rowSum f a c)[k]? = some (mac f x y) := by simp [rowSum, List.getElem?_zipWith, h, h']
theorem get_of_lt {l : List Int} {k n : Nat} (h : l.length = n) (hk : k < n) : ∃ x, l[k]? = some x := ⟨l[k]'(by omega), List.getElem?_eq_getElem (by omega)⟩
theorem f206 (l : List Tm) (fs : List Int) (t0 : Tm) (h0 : l[0]? = some t0) (hl : Fits l.length) (hv : Fits t0.coeffs.length) (hm : ∀ t ∈ l, t.coeffs.length = t0.coeffs.length) (hf : fs.length = l.length) :
  PCalls Tryz.prog Γ 206 [slT l, slI fs] (.v (.bool (leafB l fs))) := by
 refine pcalls (ok206 Γ) fun σ => ?_
 have hlt := lt_of_getElem? h0
 have hlt' : (0 : Int) < l.length := by omega
 have hg0 : (l.flatMap tmC)[0]? = some (slI t0.coeffs) := by simpa using tm_get0 h0
 have hv0 : varsOf l = t0.coeffs.length := by cases l with | nil => simp at h0 | cons a l => simp at h0; subst h0; rfl
 generalize hM : t0.coeffs.length = M at hv hm hv0 hg0
 have hA8 : (8 : Int) * M ≤ 140737488355328 := by omega
 have hA9 : (M : Int) ≤ 9223372036854775807 := by omega
 have hMs : slI t0.coeffs = .sl (ints t0.coeffs) M := by rw [slI, hM]
 rw [hMs] at hg0
 simp only [go_sem, Tryz.f206, hlt', hg0, hA8, hA9, ints_zeros, Int.le_refl, Int.toNat_zero, Nat.zero_mul]
 intro b hb
 simp only [go_sem]
 refine SemC.loopK mixed l.length (fun k ρ σ' ds => ds = [] ∧ ρ 0 = slT l ∧ ρ 1 = slI fs ∧ ρ 6 = .own b 1 0 M ∧ ρ 7 = int k ∧
  ∃ a S, ρ 5 = int a ∧ σ' = upd σ b (some (.row (ints S) 1 M)) ∧ S.length = M ∧ sumsL (l.drop k) (fs.drop k) S = sumsL l fs (List.replicate M 0) ∧ sumsC (l.drop k) (fs.drop k) a = sumsC l fs 0) (by kernel_rfl) ⟨rfl, rfl, rfl, rfl, rfl, 0, List.replicate M 0, rfl, by simp only [go_sem, ints_zeros], by simp, rfl, rfl⟩ ?_
 rintro k ρ σ' ds hk ⟨rfl, h0, h1, h6, h7, a, S, h5, rfl, hS, hz, hz'⟩
 rcases get_or_end l k hk with ⟨x, hx, hltk, hd⟩ | hk
 ·rcases get_or_end fs k (by omega) with ⟨f, hf1, hltf, hdf⟩ | hk2
  ·have hxm := hm x (mem_of_get hx)
   rw [hd, hdf] at hz hz'
   simp only [sumsL, sumsC] at hz hz'
   have hR := rowSum_len (f := f) hS hxm
   simp only [go_sem, h0, h1, h5, h6, h7, hltk, hltf, hx, hf1, ↓tm_get1 hx]
   refine SemC.loopK mixed M (fun j ρ σ' ds => ds = [] ∧ ρ 0 = slT l ∧ ρ 1 = slI fs ∧ ρ 5 = int (mac f a x.const) ∧ ρ 6 = .own b 1 0 M ∧ ρ 7 = int k ∧ ρ 8 = int j ∧ σ' = upd σ b (some (.row (ints (half S (rowSum f S x.coeffs) j)) 1 M))) (by kernel_rfl) (by simp only [go_sem, h0, h1, h6, h7, half_zero, mac]) ?_
   rintro j ρ σ' ds hj ⟨rfl, h0, h1, h5, h6, h7, h8, rfl⟩
   by_cases hjM : j < M
   ·obtain ⟨s, hs⟩ := get_of_lt hS hjM
    obtain ⟨c, hc⟩ := get_of_lt hxm hjM
    have hgj := (half_get (l := S) hR hjM).trans hs
    have hlen := half_len hS hR hj
    have hjM' : j + 1 ≤ M := hjM
    have hput := fun y => ints_put (l := half S (rowSum f S x.coeffs) j) (k := j) (x := y) (by rw [hlen]; exact hjM)
    simp only [go_sem, h0, h1, h5, h6, h7, h8, hltk, hltf, hx, hf1, ↓tm_get0 hx, hjM, hjM', hc, hgj, ints_len, hlen, hxm, ↓hput, half_set hS hR hjM (rowSum_get hs hc), slI]
    exact ⟨by rw [wrap_succ _ (by omega)], by rw [← half_set hS hR hjM (rowSum_get hs hc)]; rfl⟩
   ·obtain rfl : j = M := by omega
    simp only [go_sem, h0, h1, h5, h6, h7, h8, Nat.lt_irrefl, half_end hS hR]
    exact ⟨hltk, by rw [wrap_succ _ (by omega)], _, _, rfl, rfl, hR, hz, hz'⟩
  ·omega
 ·subst hk
  have hfd : fs.drop l.length = [] := List.drop_of_length_le (by omega)
  rw [List.drop_length, hfd] at hz
  rw [List.drop_length, hfd] at hz'
  simp only [sumsL] at hz
  simp only [sumsC] at hz'
  have hL : leafB l fs = (S.all (fun n => decide (n = 0)) && decide (a < 0)) := by rw [leafB, hv0, ← hz, ← hz']
  simp only [go_sem, h0, h1, h5, h6, h7, Nat.lt_irrefl]
  refine SemC.loopK mixed M (fun j ρ σ' ds => ds = [] ∧ ρ 5 = int a ∧ ρ 6 = .own b 1 0 M ∧ ρ 9 = int j ∧ σ' = upd σ b (some (.row (ints S) 1 M)) ∧ leafB l fs = ((S.drop j).all (fun n => decide (n = 0)) && decide (a < 0))) (by kernel_rfl) (by simp only [go_sem, h5, h6, hL, List.drop_zero]) ?_
  rintro j ρ σ' ds hj ⟨rfl, h5, h6, h9, rfl, hz2⟩
  rcases get_or_end S j (by omega) with ⟨x, hx, hlt, hd⟩ | hj2
  ·have hjM : j < M := by omega
   rw [hd, List.all_cons] at hz2
   have hlen : (ints S).length = M := by rw [ints_len, hS]
   by_cases hx0 : x = 0
   ·simp only [go_sem, h5, h6, h9, hjM, hx, hx0]
    exact ⟨by rw [wrap_succ _ (by omega)], by rw [hz2]; simp [hx0]⟩
   ·simp only [go_sem, h5, h6, h9, hjM, hx, hx0]
    exact retP_drop ((Drop.refl σ).upd hb) (by rw [hz2]; simp [hx0])
  ·have hjM : j = M := by omega
   simp only [go_sem, h5, h6, h9, hjM, Nat.lt_irrefl]
   exact retP_drop ((Drop.refl σ).upd hb) (by rw [hz2, hj2]; simp)
theorem put_own {σ : Sig} {b s c n : Nat} {cs : List AV} (h : σ b = some (.row cs s c)) (hn : cs.length = n * s) {σ' : Sig} (h' : σ' b = none) : Fz σ σ' (.own b s 0 n) (.sl cs n) := by
 refine .own h h' ?_
 have : (cs.drop (0 * s)).take (n * s) = cs := by simp [← hn]
 rw [this]
 exact .refl cs
def idxE {α : Type} (g : α → Bool) : Nat → List α → Int
 | _, [] => -1
 | k, x :: l => if g x then (k : Int) else idxE g (k + 1) l
theorem idxE_any {α : Type} (g : α → Bool) (k : Nat) (l : List α) : decide (0 ≤ idxE g k l) = l.any g := by
 induction l generalizing k with
 | nil => simp [idxE]
 | cons x l ih =>
  rw [List.any_cons, idxE]
  cases h : g x with
  | true => simp
  | false => simpa using ih (k + 1)
theorem f251 (n : Int) : PCalls Tryz.prog Γ 251 [int n] (.v (.bool (!decide (n = 0)))) := by
 refine pcalls (ok251 Γ) fun σ => ?_
 simp only [go_sem, Tryz.f251]
theorem f271 (l : List Int) (hl : Fits l.length) (fv : AV) (g : Int → Bool) (hg : ∀ x ∈ l, DCall Tryz.prog Γ fv [int x] (.v (.bool (g x)))) : PCalls Tryz.prog Γ 271 [slI l, fv] (int (idxE g 0 l)) := by
 refine pcalls (ok271 Γ) fun σ => ?_
 simp only [go_sem, Tryz.f271]
 refine SemC.loopK mixed l.length (fun k ρ σ' ds => σ' = σ ∧ ds = [] ∧ ρ 0 = slI l ∧ ρ 1 = fv ∧ ρ 7 = int l.length ∧ ρ 8 = int k ∧ idxE g 0 l = idxE g k (l.drop k)) (by kernel_rfl) ⟨rfl, rfl, rfl, rfl, rfl, rfl, rfl⟩ ?_
 rintro k ρ σ' ds hk ⟨rfl, rfl, h0, h1, h7, h8, hz⟩
 rcases get_or_end l k hk with ⟨x, hx, hlt, hd⟩ | hk
 ·rw [hd, idxE] at hz
  simp only [go_sem, h0, h1, h7, h8, hlt, hx]
  refine callB_d (hg x (mem_of_get hx)) ?_
  cases hgx : g x with
  | true =>
   simp only [go_sem, h0, h1, h7, h8, hlt, hx]
   exact retP_eq (by rw [hz, hgx]; rfl)
  | false =>
   simp only [go_sem, h0, h1, h7, h8, hlt, hx]
   exact ⟨by rw [wrap_succ _ (by omega)], by rw [hz, hgx]; rfl⟩
 ·subst hk
  simp only [go_sem, h0, h1, h7, h8, Nat.lt_irrefl]
  exact retP_eq (by rw [hz]; simp [idxE])
theorem f250 (l : List Int) (hl : Fits l.length) (fv : AV) (g : Int → Bool) (hg : ∀ x ∈ l, DCall Tryz.prog Γ fv [int x] (.v (.bool (g x)))) : PCalls Tryz.prog Γ 250 [slI l, fv] (.v (.bool (l.any g))) := by
 refine pcalls (ok250 Γ) fun σ => ?_
 simp only [go_sem, Tryz.f250]
 refine callB_use (f271 l hl fv g hg) rfl ?_
 simp only [go_sem]
 exact retP_eq (by rw [idxE_any])
def refutesB (l : List Tm) (fs : List Int) : Bool := decide (sumsC l fs 0 < 0) && !(sumsL l fs (List.replicate (varsOf l) 0)).any (fun n => !decide (n = 0))
theorem refutes_leaf (l : List Tm) (fs : List Int) : refutesB l fs = leafB l fs := by
 rw [refutesB, leafB, Bool.and_comm, List.not_any_eq_all_not]
 simp
theorem f203 (l : List Tm) (fs : List Int) (t0 : Tm) (h0 : l[0]? = some t0) (hl : Fits l.length) (hv : Fits t0.coeffs.length) (hm : ∀ t ∈ l, t.coeffs.length = t0.coeffs.length) (hf : fs.length = l.length) :
  PCalls Tryz.prog Γ 203 [slT l, slI fs] (.v (.bool (refutesB l fs))) := by
 refine pcalls (ok203 Γ) fun σ => ?_
 have hlt := lt_of_getElem? h0
 have hlt' : (0 : Int) < l.length := by omega
 have hg0 : (l.flatMap tmC)[0]? = some (slI t0.coeffs) := by simpa using tm_get0 h0
 have hv0 : varsOf l = t0.coeffs.length := by cases l with | nil => simp at h0 | cons a l => simp at h0; subst h0; rfl
 generalize hM : t0.coeffs.length = M at hv hm hv0 hg0
 have hA8 : (8 : Int) * M ≤ 140737488355328 := by omega
 have hA9 : (M : Int) ≤ 9223372036854775807 := by omega
 have hMs : slI t0.coeffs = .sl (ints t0.coeffs) M := by rw [slI, hM]
 rw [hMs] at hg0
 simp only [go_sem, Tryz.f203, hlt', hg0, hA8, hA9, ints_zeros, Int.le_refl, Int.toNat_zero, Nat.zero_mul]
 intro b hb
 simp only [go_sem]
 refine SemC.loopK mixed l.length (fun k ρ σ' ds => ds = [] ∧ Drop σ' σ ∧ ρ 1 = slI fs ∧ ρ 5 = .own b 1 0 M ∧ ρ 17 = slT l ∧ ρ 18 = int l.length ∧ ρ 19 = int k ∧
  ∃ a S, ρ 6 = int a ∧ σ' b = some (.row (ints S) 1 M) ∧ S.length = M ∧ sumsL (l.drop k) (fs.drop k) S = sumsL l fs (List.replicate M 0) ∧ sumsC (l.drop k) (fs.drop k) a = sumsC l fs 0) (by kernel_rfl) ⟨rfl, (Drop.refl σ).upd hb, rfl, rfl, rfl, rfl, rfl, 0, List.replicate M 0, rfl, by simp only [go_sem, upd_same, ints_zeros], by simp, rfl, rfl⟩ ?_
 rintro k ρ σ' ds hk ⟨rfl, hD, h1, h5, h17, h18, h19, a, S, h6, hb', hS, hz, hz'⟩
 rcases get_or_end l k hk with ⟨x, hx, hltk, hd⟩ | hk
 ·rcases get_or_end fs k (by omega) with ⟨f, hf1, hltf, hdf⟩ | hk2
  ·have hxm := hm x (mem_of_get hx)
   rw [hd, hdf] at hz hz'
   simp only [sumsL, sumsC] at hz hz'
   have hR := rowSum_len (f := f) hS hxm
   simp only [go_sem, h1, h5, h6, h17, h18, h19, hltk, hx, ↓tm_part hx]
   intro b2 hb2
   have n2 := none_ne hb2 hb'
   simp only [go_sem, h1, h5, h6, h17, h18, h19, hltk, hx, ↓tm_part hx, n2, hb', hxm]
   have n2' : ¬ b2 = b := fun e => n2 e.symm
   refine SemC.loopK mixed M (fun j ρ σ'' ds => (ds = [] ∧ ρ 1 = slI fs ∧ ρ 5 = .own b 1 0 M ∧ ρ 6 = int a ∧ ρ 7 = int k ∧ ρ 8 = .v (.pointer (some ⟨b2, 0, none⟩)) ∧ ρ 17 = slT l ∧ ρ 18 = int l.length ∧ ρ 19 = int k ∧ ρ 25 = slI x.coeffs ∧ ρ 26 = int M ∧ ρ 27 = int j ∧
    σ'' b = some (.row (ints (half S (rowSum f S x.coeffs) j)) 1 M) ∧ σ'' b2 = some (.row (tmC x) 2 1)) ∧ Drop σ'' σ) (by kernel_rfl) ⟨by simp only [go_sem, h1, h5, h6, h17, h18, h19, hxm, half_zero, upd_at, n2, n2', hb'], (hD.upd (hD.free hb2)).upd (hD.free hb2)⟩ ?_
   rintro j ρ σ'' ds hj ⟨⟨rfl, h1, h5, h6, h7, h8, h17, h18, h19, h25, h26, h27, hs, hs2⟩, hD2⟩
   by_cases hjM : j < M
   ·obtain ⟨s, hs0⟩ := get_of_lt hS hjM
    obtain ⟨c, hc⟩ := get_of_lt hxm hjM
    have hgj := (half_get (l := S) hR hjM).trans hs0
    have hlen := half_len hS hR hj
    have hjM' : j + 1 ≤ M := hjM
    have hput := fun y => ints_put (l := half S (rowSum f S x.coeffs) j) (k := j) (x := y) (by rw [hlen]; exact hjM)
    simp only [go_sem, h1, h5, h6, h7, h8, h17, h18, h19, h25, h26, h27, hs, hs2, hltf, hf1, hjM, hjM', hc, hgj, ints_len, hlen, hxm, ↓hput, n2, n2']
    exact ⟨⟨by rw [wrap_succ _ (by omega)], by rw [← half_set hS hR hjM (rowSum_get hs0 hc)]; rfl⟩, hD2.upd hb⟩
   ·have hjM2 : j = M := by omega
    rw [hjM2, half_end hS hR] at hs
    simp only [go_sem, h1, h5, h6, h7, h8, h17, h18, h19, h25, h26, h27, hs, hs2, hltf, hf1, hjM, n2, n2']
    exact ⟨hltk, hD2, by rw [wrap_succ _ (by omega)], _, _, rfl, rfl, hR, hz, hz'⟩
  ·omega
 ·subst hk
  have hfd : fs.drop l.length = [] := List.drop_of_length_le (by omega)
  rw [List.drop_length, hfd] at hz
  rw [List.drop_length, hfd] at hz'
  simp only [sumsL] at hz
  simp only [sumsC] at hz'
  have hL : refutesB l fs = (decide (a < 0) && !S.any (fun n => !decide (n = 0))) := by rw [refutesB, hv0, ← hz, ← hz']
  by_cases ha : a < 0
  ·simp only [go_sem, h1, h5, h6, h17, h18, h19, Nat.lt_irrefl, ha]
   have hf := f250 (Γ := Γ) S (by omega) (.fn (.func 251) [] []) (fun n => !decide (n = 0)) (fun n _ => dcall_of (f251 n) rfl)
   rw [slI, hS] at hf
   refine callB_bor hf rfl (.cons (put_own hb' (by simp [ints_len, hS]) rfl) (.cons (.refl _) .nil)) ?_
   simp only [go_sem, h1, h5, h6, h17, h18, h19, Nat.lt_irrefl, ha]
   exact retP_drop hD (by rw [hL]; simp [ha])
  ·simp only [go_sem, h1, h5, h6, h17, h18, h19, Nat.lt_irrefl, ha]
   exact retP_drop hD (by rw [hL]; simp [ha])
theorem tm_one (l : List Tm) : (l.flatMap tmC).all AV.one = true := by
 induction l with
 | nil => rfl
 | cons t l ih => rw [List.flatMap_cons, List.all_append, ih]; rfl
theorem f207 (m v : Nat) (f p : Int) (hm : Fits m) (hv : v < m) : PCalls Tryz.prog Γ 207 [int m, int v, int f, int p] (tmA ⟨(List.replicate m 0).set v f, p⟩) := by
 refine pcalls (ok207 Γ) fun σ => ?_
 have hA8 : (8 : Int) * m ≤ 140737488355328 := by omega
 have hA9 : (m : Int) ≤ 9223372036854775807 := by omega
 have hv1 : v + 1 ≤ m := hv
 simp only [go_sem, Tryz.f207, hA8, hA9, ints_zeros]
 intro b8 hb8
 simp only [go_sem, hA8, hA9, ints_zeros]
 intro b hb
 have n1 : ¬ b = b8 := fun e => by subst e; simp [upd_same] at hb
 simp only [go_sem, hA8, hA9, ints_zeros]
 intro b9 hb9
 have n2 : ¬ b9 = b := fun e => by subst e; simp [upd_same] at hb9
 have n3 : ¬ b9 = b8 := fun e => by subst e; simp [upd, n2] at hb9
 have hput := fun y => ints_put (l := List.replicate m 0) (k := v) (x := y) (by simpa using hv)
 have n3' : ¬ b8 = b9 := fun e => n3 e.symm
 have n1' : ¬ b8 = b := fun e => n1 e.symm
 have n2' : ¬ b = b9 := fun e => n2 e.symm
 simp only [go_sem, hA8, hA9, ints_zeros, hv, hv1, ints_len, List.length_replicate, ↓hput, n1, n2, n3, n1', n2', n3', List.length_set]
 have hb0 : σ b = none := by rwa [upd_ne _ _ _ _ n1] at hb
 have hb90 : σ b9 = none := by rwa [upd_ne _ _ _ _ n2, upd_ne _ _ _ _ n3] at hb9
 refine ⟨.agg (.cons (put_own (c := m) (by simp only [upd_at, n1, n2, n3, n1', n2', n3', ↓reduceIte, hput]) (by simp [ints_len]) hb0) (.cons (.refl _) .nil)), ?_⟩
 repeat (first | exact Drop.refl _ | refine Drop.upd ?_ (by assumption))
theorem f204 (s : St) (m v : Nat) (hm : Fits m) (hv : s.var = v) (hlt : v < m) : PCalls Tryz.prog Γ 204 [stA s, int m] (.agg [slI ((List.replicate m 0).set v (-1)), int s.bound, slI ((List.replicate m 0).set v 1), int (IntKind.i64.wrap (IntKind.i64.wrap (0 - s.bound) - 1))]) := by
 refine pcalls (ok204 Γ) fun σ => ?_
 have hA8 : (8 : Int) * m ≤ 140737488355328 := by omega
 have hA9 : (m : Int) ≤ 9223372036854775807 := by omega
 have hv1 : v + 1 ≤ m := hlt
 simp only [go_sem, Tryz.f204, hA8, hA9, ints_zeros]
 intro b4 hb4
 simp only [go_sem, hA8, hA9, ints_zeros]
 intro b5 hb5
 have n1 : ¬ b5 = b4 := fun e => by subst e; simp [upd_same] at hb5
 rw [upd_ne _ _ _ _ n1] at hb5
 simp only [go_sem, hA8, hA9, ints_zeros]
 intro b6 hb6
 have n2 : ¬ b6 = b5 := fun e => by subst e; simp [upd_same] at hb6
 have n3 : ¬ b6 = b4 := fun e => by subst e; simp [upd, n2] at hb6
 rw [upd_ne _ _ _ _ n2, upd_ne _ _ _ _ n3] at hb6
 have n1' : ¬ b4 = b5 := fun e => n1 e.symm
 have n2' : ¬ b5 = b6 := fun e => n2 e.symm
 have n3' : ¬ b4 = b6 := fun e => n3 e.symm
 have hput := fun y => ints_put (l := List.replicate m 0) (k := v) (x := y) (by simpa using hlt)
 simp only [go_sem, hA8, hA9, ints_zeros, hv, hv1, hlt, ints_len, List.length_replicate, ↓hput, n1, n2, n3, n1', n2', n3', List.length_set]
 refine ⟨.agg (.cons (put_own (c := m) (by simp only [upd_at, n1, n2, n3, n1', n2', n3', ↓reduceIte, hput]) (by simp [ints_len]) hb5) (.cons (.refl _) (.cons (put_own (c := m) (by simp only [upd_at, n1, n2, n3, n1', n2', n3', ↓reduceIte, hput]) (by simp [ints_len]) hb6) (.cons (.refl _) .nil)))), ?_⟩
 repeat (first | exact Drop.refl _ | refine Drop.upd ?_ (by assumption))
theorem f205 (l : List Tm) (hl : Fits l.length) (hne : l ≠ []) {σ0 σ : Sig} (hD : Drop σ σ0) {K : AV → Sig → Prop} (hK : ∀ a σ', Drop σ' σ0 → Others .e0 σ σ' → Grow σ0 σ' 2 a (l.flatMap tmC) l.length → K a σ') : ACalls Tryz.prog Γ 205 [slT l] σ K := by
 have hcs : l.flatMap tmC ≠ [] := by
  cases l with
  | nil => exact absurd rfl hne
  | cons t l => simp [tmC]
 refine acalls (ok205 Γ) ?_
 simp only [go_sem, Tryz.f205, hcs]
 refine appB_sl (appT_sl el32 tk94 by94 el32 (by decide) rfl (by decide)) hD (Grow.e0 σ0 σ 2) (tm_one l) (rows_length tmC_len) (by omega) (fun a' σ2 hD2 hO hG2 => ?_)
 simp only [go_sem]
 exact hK a' σ2 hD2 hO (by simpa using hG2)
theorem upd_none {σ : Sig} {k i : Nat} {x : Blk} (h : upd σ k (some x) i = none) : ¬ i = k ∧ σ i = none := by
 by_cases hi : i = k
 ·subst hi; simp [upd_same] at h
 ·rw [upd_ne _ _ _ _ hi] at h; exact ⟨hi, h⟩
theorem ers_at (σ : Sig) (b i : Nat) : ers σ b i = if i = b then none else σ i := nr rfl
attribute [go_sem] ers_at
theorem Drop.ersL {σ σ' : Sig} {b : Nat} (h : Drop σ' σ) (hb : σ b = none) : Drop (AL.ers σ' b) σ := fun i => by
 by_cases hi : i = b
 ·subst hi; exact .inl hb
 ·rw [ers_ne _ _ _ hi]; exact h i
theorem Grow.fzers {σ0 σ : Sig} {s n : Nat} {a : AV} {cs : List AV} (h : Grow σ0 σ s a cs n) (hD : Drop σ σ0) : ∃ σ', Drop σ σ' ∧ Drop σ' σ0 ∧ Fz σ σ' a (.sl cs n) ∧ ∀ i, (∀ s o n, a ≠ .own i s o n) → σ' i = σ i := by
 rcases h with ⟨h, rfl, rfl⟩ | ⟨b, c, rfl, h1, h2, h3⟩
 ·refine ⟨σ, Drop.refl _, hD, ?_, fun _ _ => rfl⟩
  rcases h with rfl | rfl
  ·exact .nil
  ·exact .e0
 ·exact ⟨ers σ b, Drop.ers σ b, hD.ersL h1, put_own h2 h3 (ers_same _ _), fun i hi => ers_ne _ _ _ (fun e => hi s 0 n (by rw [e]))⟩
theorem frzB_grow {x : Bool} {l : List Bool} {ρ : Env} {σ σ0 : Sig} {K : Env → Sig → Prop} (t : Nat) {s n : Nat} {a : AV} {cs : List AV} (ha : ρ t = a) (hG : Grow σ0 σ s a cs n) (hD : Drop σ σ0) (hK : ∀ σ', Drop σ' σ0 → (∀ i, (∀ s o n, a ≠ .own i s o n) → σ' i = σ i) → K (upd ρ t (.sl cs n)) σ') : frzB (x :: l) ρ σ K := by
 obtain ⟨σ', h1, h2, h3, h4⟩ := hG.fzers hD
 refine ⟨_, σ', h1, fun i => ?_, hK σ' h2 h4⟩
 by_cases hi : i = t
 ·subst hi
  rw [ha, upd_same]
  exact h3
 ·rw [upd_ne _ _ _ _ hi]
  exact .refl _
theorem slT_snoc (l : List Tm) (t : Tm) : slT (l ++ [t]) = .sl (l.flatMap tmC ++ tmC t) (l.length + 1) := by simp [slT]
def tmLow (s : St) (m : Nat) : Tm := ⟨(List.replicate m 0).set s.var.toNat (-1), s.bound⟩
def tmHigh (s : St) (m : Nat) : Tm := ⟨(List.replicate m 0).set s.var.toNat 1, IntKind.i64.wrap (IntKind.i64.wrap (0 - s.bound) - 1)⟩
structure Wk where
 many : Int
 pos : Int
 err : Int
def wkC (x : Wk) : List AV := [int x.many, int x.pos, int x.err]
def walkR (p : List St) (m : Nat) : Nat → Wk → List Tm → Nat → Wk
 | 0, x, _, _ => x
 | f + 1, x, l, i =>
  if x.err = 0 then
   if x.many = 127 then ⟨x.many, i, 30⟩
   else match p[i]? with
    | none => ⟨IntKind.i64.wrap (x.many + 1), x.pos, x.err⟩
    | some s =>
     if s.leaf then
      if s.factors.length = l.length then (if leafB l s.factors then ⟨IntKind.i64.wrap (x.many + 1), x.pos, x.err⟩ else ⟨IntKind.i64.wrap (x.many + 1), i, 29⟩)
      else ⟨IntKind.i64.wrap (x.many + 1), i, 2⟩
     else walkR p m f (walkR p m f ⟨IntKind.i64.wrap (x.many + 1), x.pos, x.err⟩ (l ++ [tmLow s m]) s.k0.toNat) (l ++ [tmHigh s m]) s.k1.toNat
  else x
def okSteps (p : List St) (m : Nat) : Prop := ∀ i s, p[i]? = some s → s.leaf = false → ∃ v a b : Nat, s.var = (v : Int) ∧ v < m ∧ s.k0 = (a : Int) ∧ a < i ∧ s.k1 = (b : Int) ∧ b < i
theorem f119 (p : List St) (m : Nat) (hm : Fits m) (hp : Fits p.length) (hc : ∀ s ∈ p, Fits s.factors.length) (hok : okSteps p m) : ∀ (fuel i : Nat) (l : List Tm) (x : Wk), i < fuel → i < p.length → l ≠ [] → (∀ t ∈ l, t.coeffs.length = m) → Fits (l.length + fuel) →
  PCalls Tryz.prog Γ 119 [.agg (wkC x), slT l, prA p, int i] (.agg (wkC (walkR p m fuel x l i))) := by
 intro fuel
 induction fuel with
 | zero => intro i l x h; omega
 | succ f ih =>
  intro i l x hi hip hne hml hfit
  refine pcalls (ok119 Γ) fun σ => ?_
  by_cases he : x.err = 0
  ·by_cases h127 : x.many = 127
   ·simp only [go_sem, Tryz.f119, wkC, he, h127]
    intro b4 hb4
    simp only [go_sem, he, h127]
    intro b8 hb8
    have n1 : ¬ b8 = b4 := fun e => by subst e; simp [upd_same] at hb8
    rw [upd_ne _ _ _ _ n1] at hb8
    have n1' : ¬ b4 = b8 := fun e => n1 e.symm
    simp only [go_sem, he, h127, n1, n1']
    refine retP_drop (by repeat (first | exact Drop.refl _ | refine Drop.upd ?_ (by assumption))) ?_
    rw [walkR, if_pos he, if_pos h127]
    simp [h127]
   ·obtain ⟨s, hs⟩ : ∃ s, p[i]? = some s := ⟨p[i], List.getElem?_eq_getElem hip⟩
    simp only [go_sem, Tryz.f119, wkC, he, h127]
    intro b4 hb4
    simp only [go_sem, he, h127]
    intro b8 hb8
    have n1 : ¬ b8 = b4 := fun e => by subst e; simp [upd_same] at hb8
    rw [upd_ne _ _ _ _ n1] at hb8
    have n1' : ¬ b4 = b8 := fun e => n1 e.symm
    simp only [go_sem, he, h127, n1, n1', hip, hs, ↓st_part hs]
    intro b9 hb9
    obtain ⟨n2, hb9⟩ := upd_none hb9
    obtain ⟨n3, hb9⟩ := upd_none hb9
    obtain ⟨_, hb9⟩ := upd_none hb9
    have n2' : ¬ b4 = b9 := fun e => n2 e.symm
    have n3' : ¬ b8 = b9 := fun e => n3 e.symm
    cases hleaf : s.leaf with
    | true =>
     by_cases hlen : s.factors.length = l.length
     ·have hlen' : ((s.factors.length : Int) = l.length) = True := eq_true (by omega)
      obtain ⟨t0, ht0⟩ : ∃ t0, l[0]? = some t0 := by
       cases l with
       | nil => exact absurd rfl hne
       | cons t l => exact ⟨t, rfl⟩
      have hm0 := hml t0 (mem_of_get ht0)
      simp only [go_sem, he, h127, n1, n1', n2, n2', n3, n3', hip, hs, ↓st_part hs, hleaf, hlen']
      refine callB_use (f206 l s.factors t0 ht0 (by omega) (by omega) (by rw [hm0]; exact hml) hlen) rfl ?_
      cases hb : leafB l s.factors with
      | true =>
       simp only [go_sem, he, h127, n1, n1', n2, n2', n3, n3', hip, hs, ↓st_part hs, hleaf, hlen']
       refine retP_drop (by repeat (first | exact Drop.refl _ | refine Drop.upd ?_ (by assumption))) ?_
       rw [walkR, if_pos he, if_neg h127, hs]
       simp [hleaf, hlen, hb, he]
      | false =>
       simp only [go_sem, he, h127, n1, n1', n2, n2', n3, n3', hip, hs, ↓st_part hs, hleaf, hlen']
       refine retP_drop (by repeat (first | exact Drop.refl _ | refine Drop.upd ?_ (by assumption))) ?_
       rw [walkR, if_pos he, if_neg h127, hs]
       simp [hleaf, hlen, hb, he]
     ·have hlen' : ((s.factors.length : Int) = l.length) = False := eq_false (by omega)
      simp only [go_sem, he, h127, n1, n1', n2, n2', n3, n3', hip, hs, ↓st_part hs, hleaf, hlen']
      refine retP_drop (by repeat (first | exact Drop.refl _ | refine Drop.upd ?_ (by assumption))) ?_
      rw [walkR, if_pos he, if_neg h127, hs]
      simp [hleaf, hlen, he]
    | false =>
     obtain ⟨v, a, b, hv, hvm, ha, hai, hb, hbi⟩ := hok i s hs hleaf
     obtain ⟨t0, ht0⟩ : ∃ t0, l[0]? = some t0 := by
      cases l with
      | nil => exact absurd rfl hne
      | cons t l => exact ⟨t, rfl⟩
     have hm0 := hml t0 (mem_of_get ht0)
     have hlt' : (0 : Int) < l.length := by have := lt_of_getElem? ht0; omega
     have hg0 : (l.flatMap tmC)[0]? = some (slI t0.coeffs) := by simpa using tm_get0 ht0
     rw [slI, hm0] at hg0
     simp only [go_sem, he, h127, n1, n1', n2, n2', n3, n3', hip, hs, ↓st_part hs, hleaf, hlt', hg0]
     refine frzB_ptr 9 b9 (cs := [.v (.bool false), slI s.factors, int s.var, int s.bound, int s.k0, int s.k1]) (s := 6) (c := 1) (by simp only [go_sem]) (by simp only [go_sem, upd_at, hleaf, n2, n3]) ?_
     simp only [go_sem, he, h127, n1, n1', n2, n2', n3, n3', hip, hs, ↓st_part hs, hleaf, hlt', hg0]
     refine appB_sl (σ0 := σ) (appT_sl el22 tk88 by88 el22 (by decide) rfl (by decide)) (by repeat (first | exact Drop.refl _ | refine Drop.upd ?_ (by assumption) | refine Drop.ersL ?_ (by assumption))) (Grow.e0 _ _ 2) (tm_one l) (rows_length tmC_len) (by omega) (fun aL σ2 hD2 hO2 hG2 => ?_)
     have e4 : σ2 b4 = some (.row [int (IntKind.i64.wrap (x.many + 1)), int x.pos, int 0] 3 1) := by
      rw [hO2 b4 (fun _ _ _ e => by cases e) (by simp [upd, ers, n1', n2'])]; simp [upd, ers, n1', n2', int]
     have e8 : ∃ cs, σ2 b8 = some (.row cs 3 1) ∧ cs.length = 3 := ⟨[int 0, int 0, int 0], by
      rw [hO2 b8 (fun _ _ _ e => by cases e) (by simp [upd, ers, n1, n3'])]; simp [upd, ers, n1, n3', int], rfl⟩
     obtain ⟨c8, e8, l8⟩ := e8
     simp only [go_sem, hv]
     refine callB_use (f207 m v (-1) s.bound hm hvm) rfl ?_
     simp only [go_sem]
     refine appB_sl (appT_sl el22 tk88 by88 el22 (by decide) rfl (by decide)) hD2 hG2 rfl rfl (by omega) (fun aL σ3 hD3 hO3 hG3 => ?_)
     have e4' : σ3 b4 = some (.row [int (IntKind.i64.wrap (x.many + 1)), int x.pos, int 0] 3 1) := by rw [hO3 b4 (hG2.ne e4 (by decide)) (by rw [e4]; simp), e4]
     have e8' : σ3 b8 = some (.row c8 3 1) := by rw [hO3 b8 (hG2.ne e8 (by decide)) (by rw [e8]; simp), e8]
     simp only [go_sem, hv]
     refine frzB_grow 11 (by simp only [go_sem]) hG3 hD3 (fun σ4 hD4 hO4 => ?_)
     have f4 : σ4 b4 = some (.row [int (IntKind.i64.wrap (x.many + 1)), int x.pos, int 0] 3 1) := by rw [hO4 b4 (hG3.ne e4' (by decide)), e4']
     have f8 : σ4 b8 = some (.row c8 3 1) := by rw [hO4 b8 (hG3.ne e8' (by decide)), e8']
     simp only [go_sem, hv]
     refine appB_sl (σ0 := σ) (appT_sl el22 tk88 by88 el22 (by decide) rfl (by decide)) hD4 (Grow.e0 _ _ 2) (tm_one l) (rows_length tmC_len) (by omega) (fun aH σ5 hD5 hO5 hG5 => ?_)
     have g4 : σ5 b4 = some (.row [int (IntKind.i64.wrap (x.many + 1)), int x.pos, int 0] 3 1) := by rw [hO5 b4 (fun _ _ _ e => by cases e) (by rw [f4]; simp), f4]
     have g8 : σ5 b8 = some (.row c8 3 1) := by rw [hO5 b8 (fun _ _ _ e => by cases e) (by rw [f8]; simp), f8]
     simp only [go_sem, hv]
     refine callB_use (f207 m v 1 (IntKind.i64.wrap (IntKind.i64.wrap (0 - s.bound) - 1)) hm hvm) rfl ?_
     simp only [go_sem]
     refine appB_sl (appT_sl el22 tk88 by88 el22 (by decide) rfl (by decide)) hD5 hG5 rfl rfl (by omega) (fun aH σ6 hD6 hO6 hG6 => ?_)
     have k4 : σ6 b4 = some (.row [int (IntKind.i64.wrap (x.many + 1)), int x.pos, int 0] 3 1) := by rw [hO6 b4 (hG5.ne g4 (by decide)) (by rw [g4]; simp), g4]
     have k8 : σ6 b8 = some (.row c8 3 1) := by rw [hO6 b8 (hG5.ne g8 (by decide)) (by rw [g8]; simp), g8]
     simp only [go_sem, k4, ha, hb]
     have hlow : tmLow s m = ⟨(List.replicate m 0).set v (-1), s.bound⟩ := by simp [tmLow, hv]
     have hhigh : tmHigh s m = ⟨(List.replicate m 0).set v 1, IntKind.i64.wrap (IntKind.i64.wrap (0 - s.bound) - 1)⟩ := by simp [tmHigh, hv]
     have hml2 : ∀ (t' : Tm), t'.coeffs.length = m → ∀ t ∈ l ++ [t'], t.coeffs.length = m := fun t' h' t ht => by
      rcases List.mem_append.1 ht with h | h
      ·exact hml t h
      ·rw [List.mem_singleton.1 h]; exact h'
     have ih1 := ih a (l ++ [tmLow s m]) ⟨IntKind.i64.wrap (x.many + 1), x.pos, 0⟩ (by omega) (by omega) (by simp) (hml2 _ (by simp [tmLow])) (by simp only [List.length_append, List.length_singleton]; omega)
     generalize hW1 : walkR p m f ⟨IntKind.i64.wrap (x.many + 1), x.pos, 0⟩ (l ++ [tmLow s m]) a = X1 at ih1
     have ih2 := ih b (l ++ [tmHigh s m]) X1 (by omega) (by omega) (by simp) (hml2 _ (by simp [tmHigh])) (by simp only [List.length_append, List.length_singleton]; omega)
     generalize hW2 : walkR p m f X1 (l ++ [tmHigh s m]) b = X2 at ih2
     have hres : walkR p m (f + 1) x l i = X2 := by
      rw [walkR, if_pos he, if_neg h127, hs]
      simp only [hleaf, Bool.false_eq_true, if_false]
      rw [he, ha, hb, Int.toNat_natCast, Int.toNat_natCast, hW1, hW2]
     rw [slT_snoc, hlow] at ih1
     rw [slT_snoc, hhigh] at ih2
     refine dcallB_use ih1 rfl ?_
     simp only [go_sem, k4, ha, hb]
     obtain ⟨σ7, hD67, hD7, hF7, hO7⟩ := hG6.fzers hD6
     rw [List.nil_append, Nat.zero_add] at hF7
     have m8 : σ7 b8 = some (.row c8 3 1) := by rw [hO7 b8 (hG6.ne k8 (by decide)), k8]
     refine callB_drop hD67 ih2 (.cons (.refl _) (.cons hF7 (.cons (.refl _) (.cons (.refl _) .nil)))) ?_
     simp only [go_sem, m8, l8, wkC]
     exact retP_drop (hD7.upd hb8) (by rw [hres])
  ·simp only [go_sem, Tryz.f119, wkC, he]
   intro b4 hb4
   simp only [go_sem, he]
   intro b8 hb8
   have n1 : ¬ b8 = b4 := fun e => by subst e; simp [upd_same] at hb8
   rw [upd_ne _ _ _ _ n1] at hb8
   have n1' : ¬ b4 = b8 := fun e => n1 e.symm
   simp only [go_sem, he, n1, n1']
   refine retP_drop (by repeat (first | exact Drop.refl _ | refine Drop.upd ?_ (by assumption))) ?_
   rw [walkR, if_neg he]
end Go.AL
