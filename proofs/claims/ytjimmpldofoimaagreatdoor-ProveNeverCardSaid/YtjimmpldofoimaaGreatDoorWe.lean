import Derived.Test.YtjimmpldofoimaaGreatDoorAm
import Derived.Test.YtjimmpldofoimaaGreatDoorV1
import Derived.Test.YtjimmpldofoimaaGreatDoorWd
set_option linter.unusedVariables false
set_option linter.unusedSimpArgs false
namespace Go.AL
open Go.Proofs
variable {Γ : Glob}
attribute [local irreducible] codeW opsW dopsW
theorem f212 (r : Rg) : PCalls Tryz.prog Γ 212 [rgA r] (int (spanE r)) := by
 refine pcalls (ok212 Γ) fun σ => ?_
 simp only [go_sem, Tryz.f212]
 refine dcallB_use (f124 _ _ _) rfl ?_
 simp only [go_sem]
 refine dcallB_use (f124 _ _ _) rfl ?_
 simp only [go_sem]
 refine callB_use (f121 _ _) rfl ?_
 simp only [go_sem]
 refine callB_use (f120 [_, _, _] (by simp)) rfl ?_
 simp only [go_sem]
 exact retP_eq rfl
theorem f211 (l : List Rg) (hl : Fits l.length) (fv : AV) (g : Rg → Int) (hg : ∀ x ∈ l, DCall Tryz.prog Γ fv [rgA x] (int (g x))) : PCalls Tryz.prog Γ 211 [slR l, fv] (slI (l.map g)) := by
 refine pcalls (ok211 Γ) fun σ => ?_
 simp only [go_sem, Tryz.f211]
 refine SemC.loopK mixed l.length (fun k ρ σ' ds => Drop σ' σ ∧ ds = [] ∧ ρ 1 = fv ∧ ρ 8 = slR l ∧ ρ 9 = int l.length ∧ ρ 10 = int k ∧ Grow σ σ' 1 (ρ 5) (ints ((l.take k).map g)) k) (by kernel_rfl) ⟨.refl _, rfl, rfl, rfl, rfl, rfl, .nil _ _ _⟩ ?_
 rintro k ρ σ' ds hk ⟨hD, rfl, h1, h8, h9, h10, hG⟩
 rcases get_or_end l k hk with ⟨x, hx, hlt, hd⟩ | rfl
 ·simp only [go_sem, h1, h8, h9, h10, hlt, hx, ↓rg_part hx]
  intro b hb
  simp only [go_sem, h1, h8, h9, h10, hlt, hx, ↓rg_part hx]
  refine callB_d (hg x (mem_of_get hx)) ?_
  simp only [go_sem]
  refine appB_sl (appT_sl el191 tk29 by29 el191 (by decide) rfl (by decide)) (hD.upd (hD.free hb)) (hG.upd hb) rfl rfl (by omega) (fun a' σ2 hD2 hO hG2 => ?_)
  simp only [go_sem, h1, h8, h9, h10]
  refine ⟨hD2, by rw [wrap_succ _ (by omega)], ?_⟩
  rw [take_succ hx]
  simpa [ints, int] using hG2
 ·simp only [go_sem, h8, h9, h10, Nat.lt_irrefl]
  have := hG.retP hD
  simpa [slI] using this
theorem f180 (l : List Rg) (hl : Fits l.length) (fv : AV) (g : Rg → Int) (hg : ∀ x ∈ l, DCall Tryz.prog Γ fv [rgA x] (int (g x))) : PCalls Tryz.prog Γ 180 [slR l, fv] (slI (l.map g)) := by
 refine pcalls (ok180 Γ) fun σ => ?_
 simp only [go_sem, Tryz.f180]
 refine SemC.loopK mixed l.length (fun k ρ σ' ds => Drop σ' σ ∧ ds = [] ∧ ρ 1 = fv ∧ ρ 8 = slR l ∧ ρ 9 = int l.length ∧ ρ 10 = int k ∧ Grow σ σ' 1 (ρ 5) (ints ((l.take k).map g)) k) (by kernel_rfl) ⟨.refl _, rfl, rfl, rfl, rfl, rfl, .nil _ _ _⟩ ?_
 rintro k ρ σ' ds hk ⟨hD, rfl, h1, h8, h9, h10, hG⟩
 rcases get_or_end l k hk with ⟨x, hx, hlt, hd⟩ | rfl
 ·simp only [go_sem, h1, h8, h9, h10, hlt, hx, ↓rg_part hx]
  intro b hb
  simp only [go_sem, h1, h8, h9, h10, hlt, hx, ↓rg_part hx]
  refine callB_d (hg x (mem_of_get hx)) ?_
  simp only [go_sem]
  refine appB_sl (appT_sl el46 tk3 by3 el46 (by decide) rfl (by decide)) (hD.upd (hD.free hb)) (hG.upd hb) rfl rfl (by omega) (fun a' σ2 hD2 hO hG2 => ?_)
  simp only [go_sem, h1, h8, h9, h10]
  refine ⟨hD2, by rw [wrap_succ _ (by omega)], ?_⟩
  rw [take_succ hx]
  simpa [ints, int] using hG2
 ·simp only [go_sem, h8, h9, h10, Nat.lt_irrefl]
  have := hG.retP hD
  simpa [slI] using this
theorem f127 (l : List Rg) (n : Int) (hl : Fits l.length) : PCalls Tryz.prog Γ 127 [slR l, int n] (int (spansE l n)) := by
 refine pcalls (ok127 Γ) fun σ => ?_
 simp only [go_sem, Tryz.f127]
 refine callB_use (f121 _ _) rfl ?_
 simp only [go_sem]
 refine callB_use (f211 l hl (.fn (.func 212) [] []) spanE (fun x hx => dcall_of (f212 x) rfl)) rfl ?_
 simp only [go_sem]
 refine callB_use (f120 _ (by simpa using hl)) rfl ?_
 simp only [go_sem]
 refine callB_use (f120 [_, _] (by simp)) rfl ?_
 simp only [go_sem]
 exact retP_eq rfl
def floorP (a b : Int) : Int := if a.tmod b < 0 then IntKind.i64.wrap (IntKind.i64.wrap (a.tdiv b) - 1) else IntKind.i64.wrap (a.tdiv b)
theorem f214 (a b : Int) (hb : b ≠ 0) : PCalls Tryz.prog Γ 214 [int a, int b] (int (floorP a b)) := by
 refine pcalls (ok214 Γ) fun σ => ?_
 by_cases h : a.tmod b < 0
 ·simp only [go_sem, Tryz.f214, hb, h]
  exact retP_eq (by simp [floorP, h])
 ·simp only [go_sem, Tryz.f214, hb, h]
  exact retP_eq (by simp [floorP, h])
def greatF (sp : List Rg) (w : Int) : Nat → List Int → Int → Int
 | _, [], n => n
 | k, c :: cs, n => greatF sp w (k + 1) cs (if (k : Int) = w then n else match sp[k]? with
   | none => n
   | some r => if 0 < c then IntKind.i64.wrap (n + IntKind.i64.wrap (c * r.hi)) else IntKind.i64.wrap (n + IntKind.i64.wrap (c * r.lo)))
def greatP (t : Tm) (sp : List Rg) (w : Int) : Int := greatF sp w 0 t.coeffs t.const
theorem f231 (t : Tm) (sp : List Rg) (w : Int) (hl : Fits t.coeffs.length) (hs : sp.length = t.coeffs.length) : PCalls Tryz.prog Γ 231 [tmA t, slR sp, int w] (int (greatP t sp w)) := by
 refine pcalls (ok231 Γ) fun σ => ?_
 simp only [go_sem, Tryz.f231]
 refine SemC.loopK mixed t.coeffs.length (fun k ρ σ' ds => σ' = σ ∧ ds = [] ∧ ρ 1 = slR sp ∧ ρ 2 = int w ∧ ρ 13 = slI t.coeffs ∧ ρ 14 = int t.coeffs.length ∧ ρ 15 = int k ∧ ∃ n, ρ 7 = int n ∧ greatP t sp w = greatF sp w k (t.coeffs.drop k) n) (by kernel_rfl) ⟨rfl, rfl, rfl, rfl, rfl, rfl, rfl, _, rfl, rfl⟩ ?_
 rintro k ρ σ' ds hk ⟨rfl, rfl, h1, h2, h13, h14, h15, n, h7, hz⟩
 rcases get_or_end t.coeffs k hk with ⟨c, hc, hlt, hd⟩ | hk
 ·rcases get_or_end sp k (by omega) with ⟨r, hr, hlts, hds⟩ | hk2
  ·rw [hd, greatF, hr] at hz
   by_cases hw : (k : Int) = w
   ·have hw' : ((k : Int) = w) = True := eq_true hw
    simp only [go_sem, h1, h2, h7, h13, h14, h15, hlt, hc, hw']
    exact ⟨by rw [wrap_succ _ (by omega)], _, rfl, by rw [hz]; simp [hw]⟩
   ·by_cases h0 : 0 < c
    ·simp only [go_sem, h1, h2, h7, h13, h14, h15, hlt, hlts, hc, hw, h0, ↓rg_get1 hr]
     exact ⟨by rw [wrap_succ _ (by omega)], _, rfl, by rw [hz]; simp [hw, h0]⟩
    ·simp only [go_sem, h1, h2, h7, h13, h14, h15, hlt, hlts, hc, hw, h0, ↓rg_get0 hr]
     exact ⟨by rw [wrap_succ _ (by omega)], _, rfl, by rw [hz]; simp [hw, h0]⟩
  ·omega
 ·subst hk
  simp only [go_sem, h1, h2, h7, h13, h14, h15, Nat.lt_irrefl]
  exact retP_eq (by rw [hz]; simp [greatF])
def narrowP (t : Tm) (sp : List Rg) (i : Nat) (c : Int) (x : Rg) : Rg :=
 if 0 < c then ⟨if x.lo < IntKind.i64.wrap (0 - floorP (greatP t sp i) c) then IntKind.i64.wrap (0 - floorP (greatP t sp i) c) else x.lo, x.hi⟩
 else ⟨x.lo, if floorP (greatP t sp i) (IntKind.i64.wrap (0 - c)) < x.hi then floorP (greatP t sp i) (IntKind.i64.wrap (0 - c)) else x.hi⟩
def sizeP (r : Rg) : Int := IntKind.i64.wrap (r.hi - r.lo)
def neB (r x : Rg) : Bool := !(decide (r.lo = x.lo) && decide (r.hi = x.hi))
def roundT (t : Tm) : Nat → List Int → Bool → List Rg → Bool × Bool × List Rg
 | _, [], ch, sp => (false, ch, sp)
 | i, c :: cs, ch, sp =>
  if c = 0 then roundT t (i + 1) cs ch sp
  else match sp[i]? with
   | none => (false, ch, sp)
   | some x =>
    if sizeP (narrowP t sp i c x) < 0 then (true, ch || neB (narrowP t sp i c x) x, sp.set i (narrowP t sp i c x))
    else roundT t (i + 1) cs (ch || neB (narrowP t sp i c x) x) (sp.set i (narrowP t sp i c x))
def roundP : List Tm → Bool → List Rg → Bool × Bool × List Rg
 | [], ch, sp => (false, ch, sp)
 | t :: l, ch, sp => if (roundT t 0 t.coeffs ch sp).1 then roundT t 0 t.coeffs ch sp else roundP l (roundT t 0 t.coeffs ch sp).2.1 (roundT t 0 t.coeffs ch sp).2.2
def roundsP (l : List Tm) : Nat → List Rg → Option (List Rg)
 | 0, sp => some sp
 | n + 1, sp => if (roundP l false sp).1 then none else if (roundP l false sp).2.1 then roundsP l n (roundP l false sp).2.2 else some (roundP l false sp).2.2
def narrowedP (l : List Tm) (sp : List Rg) : Option (List Rg) :=
 match roundsP l 20 sp with
 | none => none
 | some s => if l.any (fun t => decide (greatP t s (-1) < 0)) then none else some s
theorem rows_len2 (sp : List Rg) : (sp.flatMap rgC).length = sp.length * 2 := rows_length rgC_len
theorem rows_put {f : Rg → List AV} (hf : ∀ r, (f r).length = 2) : ∀ {sp : List Rg} {i : Nat} {r r' : Rg} {j : Nat} {xs : List AV}, sp[i]? = some r → (∀ rest, putL (f r ++ rest) j xs = f r' ++ rest) → putL (sp.flatMap f) (i * 2 + j) xs = (sp.set i r').flatMap f
 | [], _, _, _, _, _, h, _ => by simp at h
 | y :: sp, 0, r, r', j, xs, h, h2 => by
  simp at h
  subst h
  rw [List.flatMap_cons, List.set_cons_zero, List.flatMap_cons, Nat.zero_mul, Nat.zero_add]
  exact h2 _
 | y :: sp, i + 1, r, r', j, xs, h, h2 => by
  have ih := rows_put hf (sp := sp) (i := i) (j := j) (xs := xs) (by simpa using h) h2
  rw [List.flatMap_cons, List.set_cons_succ, List.flatMap_cons, ← ih]
  have e1 : (f y).length = 2 := hf y
  unfold putL
  rw [show (i + 1) * 2 + j = (f y).length + (i * 2 + j) by omega, List.take_length_add_append, Nat.add_assoc, List.drop_length_add_append]
  simp
theorem rows_put0 {sp : List Rg} {i : Nat} {r : Rg} (h : sp[i]? = some r) (x : Int) : putL (sp.flatMap rgC) (i * 2) [AV.v (.int .i64 x)] = (sp.set i ⟨x, r.hi⟩).flatMap rgC :=
 rows_put (j := 0) rgC_len h fun rest => by simp [putL, rgC, int]
theorem rows_put1 {sp : List Rg} {i : Nat} {r : Rg} (h : sp[i]? = some r) (x : Int) : putL (sp.flatMap rgC) (i * 2 + 1) [AV.v (.int .i64 x)] = (sp.set i ⟨r.lo, x⟩).flatMap rgC :=
 rows_put (j := 1) rgC_len h fun rest => by simp [putL, rgC, int]
theorem f230 (m : Nat) (hm : Fits m) (l : List Tm) (hl : Fits l.length) (hml : ∀ t ∈ l, t.coeffs.length = m) (hcf : ∀ t ∈ l, ∀ c ∈ t.coeffs, -1000000 ≤ c ∧ c ≤ 1000000) (sp0 : List Rg) (hsp : sp0.length = m) {σ : Sig} {b c0 : Nat} (hb : σ b = some (.row (sp0.flatMap rgC) 2 c0)) {K : AV → Sig → Prop}
  (hK : K (.tup [.v (.bool (roundP l false sp0).1), .v (.bool (roundP l false sp0).2.1)]) (upd σ b (some (.row ((roundP l false sp0).2.2.flatMap rgC) 2 c0)))) : ACalls Tryz.prog Γ 230 [slT l, .own b 2 0 m] σ K := by
 refine ACalls.retK (acalls (ok230 Γ) ?_)
 simp only [go_sem, Tryz.f230]
 refine SemC.loopK mixed l.length (fun k ρ σ' ds => (ds = [] ∧ ρ 1 = .own b 2 0 m ∧ ρ 4 = .v (.bool false) ∧ ρ 12 = slT l ∧ ρ 13 = int l.length ∧ ρ 14 = int k) ∧
  ∃ ch sp, ρ 5 = .v (.bool ch) ∧ σ' b = some (.row (sp.flatMap rgC) 2 c0) ∧ sp.length = m ∧ Drop σ' (upd σ b (some (.row (sp.flatMap rgC) 2 c0))) ∧ roundP l false sp0 = roundP (l.drop k) ch sp) (by kernel_rfl) ⟨by simp only [go_sem], false, sp0, by simp only [go_sem], hb, hsp, by rw [upd_self hb]; exact Drop.refl _, rfl⟩ ?_
 rintro k ρ σ' ds hk ⟨⟨rfl, h1, h4, h12, h13, h14⟩, ch, sp, h5, hsb, hlsp, hD, hz⟩
 rcases get_or_end l k hk with ⟨t, ht, hlt, hd⟩ | hk
 ·have htl := mem_of_get ht
  have hct := hml t htl
  rw [hd, roundP] at hz
  simp only [go_sem, h1, h4, h5, h12, h13, h14, hlt, ht, ↓tm_part ht]
  intro b7 hb7
  have n7 := none_ne hb7 hsb
  have n7' : ¬ b7 = b := fun e => n7 e.symm
  simp only [go_sem, h1, h4, h5, h12, h13, h14, hlt, ht, ↓tm_part ht, n7, n7', hct]
  have hDb : ∀ (S : List Rg) (σ1 : Sig) (b1 : Nat), Drop σ1 (upd σ b (some (.row (S.flatMap rgC) 2 c0))) → σ1 b1 = none → upd σ b (some (.row (S.flatMap rgC) 2 c0)) b1 = none := fun S σ1 b1 h h' => h.free h'
  refine SemC.loopK mixed m (fun j ρ σ' ds => (ds = [] ∧ ρ 1 = .own b 2 0 m ∧ ρ 4 = .v (.bool false) ∧ ρ 7 = .v (.pointer (some ⟨b7, 0, none⟩)) ∧ ρ 12 = slT l ∧ ρ 13 = int l.length ∧ ρ 14 = int k ∧ ρ 19 = slI t.coeffs ∧ ρ 20 = int m ∧ ρ 21 = int j ∧ σ' b7 = some (.row (tmC t) 2 1)) ∧
   ∃ ch' sp', ρ 5 = .v (.bool ch') ∧ σ' b = some (.row (sp'.flatMap rgC) 2 c0) ∧ sp'.length = m ∧ Drop σ' (upd σ b (some (.row (sp'.flatMap rgC) 2 c0))) ∧ roundT t 0 t.coeffs ch sp = roundT t j (t.coeffs.drop j) ch' sp') (by kernel_rfl)
   ⟨by simp only [go_sem, h1, h4, h5, h12, h13, h14, hct, upd_at], ch, sp, by simp only [go_sem, h5], by simp only [go_sem, upd_at, n7, hsb], hlsp, (hD.upd (hDb sp _ _ hD hb7)).upd (hDb sp _ _ hD hb7), rfl⟩ ?_
  clear h1 h4 h5 h12 h13 h14 hsb hlsp hD
  rintro j ρ σ' ds hj ⟨⟨rfl, h1, h4, h7, h12, h13, h14, h19, h20, h21, hs7⟩, ch', sp', h5, hsb, hlsp, hD, hz2⟩
  by_cases hjm : j < m
  ·obtain ⟨c, hc⟩ := get_of_lt hct hjm
   have hdj := drop_of_get hc
   rw [hdj, roundT] at hz2
   by_cases hc0 : c = 0
   ·rw [if_pos hc0] at hz2
    simp only [go_sem, h1, h4, h5, h7, h12, h13, h14, h19, h20, h21, hsb, hs7, hct, hjm, hc, hc0]
    exact ⟨by rw [wrap_succ _ (by omega)], ch', sp', rfl, rfl, hlsp, hD, hz2⟩
   ·rw [if_neg hc0] at hz2
    obtain ⟨x, hx⟩ : ∃ x, sp'[j]? = some x := ⟨sp'[j]'(by omega), List.getElem?_eq_getElem (by omega)⟩
    rw [hx] at hz2
    simp only at hz2
    have hjl : j < sp'.length := by omega
    have hj2 : j * 2 + 2 ≤ m * 2 := by omega
    have hj0 : j * 2 + 1 ≤ m * 2 := by omega
    have hj1 : j * 2 + 1 + 1 ≤ m * 2 := by omega
    simp only [go_sem, h1, h4, h5, h7, h12, h13, h14, h19, h20, h21, hsb, hs7, hct, hjm, hc, hc0, ↓rg_part hx]
    intro b10 hb10
    have n10 := none_ne hb10 hsb
    have n10' : ¬ b10 = b := fun e => n10 e.symm
    have m10 := none_ne hb10 hs7
    have m10' : ¬ b10 = b7 := fun e => m10 e.symm
    simp only [go_sem, h1, h4, h5, h7, h12, h13, h14, h19, h20, h21, hsb, hs7, hct, hjm, hc, hc0, ↓rg_part hx, n10, n10', m10, m10']
    have h231 := f231 (Γ := Γ) t sp' j (by omega) (by omega)
    simp only [tmA, tmC, slI, slR, hct, hlsp] at h231
    refine callB_bor h231 rfl (.cons (.refl _) (.cons (put_own (c := c0) (by simp only [upd_at, n10, hsb, ↓reduceIte]) (by rw [rows_len2, hlsp]) rfl) (.cons (.refl _) .nil))) ?_
    have hcb := hcf t htl c (mem_of_get hc)
    have hcw : IntKind.i64.wrap (0 - c) = 0 - c := wrap_i64 _ (by omega) (by omega)
    have hDf := hDb sp' _ _ hD hb10
    by_cases hpos : 0 < c
    ·simp only [go_sem, h1, h4, h5, h7, h12, h13, h14, h19, h20, h21, hsb, hs7, hct, hjm, hc, hc0, hpos, n10, n10', m10, m10']
     refine dcallB_use (f214 _ c hc0) rfl ?_
     have hr : narrowP t sp' j c x = ⟨if x.lo < IntKind.i64.wrap (0 - floorP (greatP t sp' j) c) then IntKind.i64.wrap (0 - floorP (greatP t sp' j) c) else x.lo, x.hi⟩ := by rw [narrowP, if_pos hpos]
     have hput := rows_put0 hx
     generalize hv : (if x.lo < IntKind.i64.wrap (0 - floorP (greatP t sp' j) c) then IntKind.i64.wrap (0 - floorP (greatP t sp' j) c) else x.lo) = v at hr
     rw [hr] at hz2
     have hset : (sp'.set j ⟨v, x.hi⟩)[j]? = some ⟨v, x.hi⟩ := by rw [List.getElem?_set_self hjl]
     have hsl : (sp'.set j ⟨v, x.hi⟩).length = m := by rw [List.length_set]; exact hlsp
     have hput' : ∀ y, List.take (j * 2) (sp'.flatMap rgC) ++ [AV.v (.int .i64 y)] ++ List.drop (j * 2 + 1) (sp'.flatMap rgC) = (sp'.set j ⟨y, x.hi⟩).flatMap rgC := fun y => hput y
     have hlenS : ((sp'.set j ⟨v, x.hi⟩).flatMap rgC).length = m * 2 := by rw [rows_len2, hsl]
     have htk : List.take 2 (List.drop (j * 2) ((sp'.set j ⟨v, x.hi⟩).flatMap rgC)) = rgC ⟨v, x.hi⟩ := by rw [rows_split rgC_len hset]; rfl
     have hne : neB ⟨v, x.hi⟩ x = !decide (v = x.lo) := by simp [neB]
     have hDn := fun (σ2 : Sig) (h : Drop σ2 (upd σ b (some (.row (sp'.flatMap rgC) 2 c0)))) => Drop.updBoth h (some (Blk.row ((sp'.set j ⟨v, x.hi⟩).flatMap rgC) 2 c0))
     by_cases hsz : sizeP ⟨v, x.hi⟩ < 0
     ·rw [if_pos hsz] at hz2
      rw [hz2, if_pos rfl] at hz
      rw [hz] at hK
      simp only [sizeP] at hsz
      cases ch' with
      | true =>
       simp only [go_sem, h1, h4, h5, h7, h12, h13, h14, h19, h20, h21, hsb, hs7, hct, hjm, hc, hc0, n10, n10', m10, m10', hv, rows_len2, hlsp, hj0, hj1, ↓hput, hput', hlenS, htk, hsl, hsz]
       refine callB_use (f213 ⟨v, x.hi⟩) rfl ?_
       simp only [go_sem, h1, h4, h5, h7, h12, h13, h14, h19, h20, h21, hsb, hs7, hct, hjm, hc, hc0, n10, n10', m10, m10', hsz]
       exact ⟨_, _, .refl _, hDn _ (hD.upd hDf), hK⟩
      | false =>
       simp only [go_sem, h1, h4, h5, h7, h12, h13, h14, h19, h20, h21, hsb, hs7, hct, hjm, hc, hc0, n10, n10', m10, m10', hv, rows_len2, hlsp, hj0, hj1, ↓hput, hput', hlenS, htk, hsl, hsz]
       refine callB_use (f213 ⟨v, x.hi⟩) rfl ?_
       simp only [go_sem, h1, h4, h5, h7, h12, h13, h14, h19, h20, h21, hsb, hs7, hct, hjm, hc, hc0, n10, n10', m10, m10', hsz]
       simp only [Bool.false_or, hne] at hK
       exact ⟨_, _, .refl _, hDn _ (hD.upd hDf), hK⟩
     ·rw [if_neg hsz] at hz2
      simp only [sizeP] at hsz
      cases ch' with
      | true =>
       simp only [go_sem, h1, h4, h5, h7, h12, h13, h14, h19, h20, h21, hsb, hs7, hct, hjm, hc, hc0, n10, n10', m10, m10', hv, rows_len2, hlsp, hj0, hj1, ↓hput, hput', hlenS, htk, hsl, hsz]
       refine callB_use (f213 ⟨v, x.hi⟩) rfl ?_
       simp only [go_sem, h1, h4, h5, h7, h12, h13, h14, h19, h20, h21, hsb, hs7, hct, hjm, hc, hc0, n10, n10', m10, m10', hsz]
       exact ⟨⟨by rw [wrap_succ _ (by omega)], by rw [if_neg n7']⟩, _, _, rfl, rfl, hsl, hDn _ (hD.upd hDf), hz2⟩
      | false =>
       simp only [go_sem, h1, h4, h5, h7, h12, h13, h14, h19, h20, h21, hsb, hs7, hct, hjm, hc, hc0, n10, n10', m10, m10', hv, rows_len2, hlsp, hj0, hj1, ↓hput, hput', hlenS, htk, hsl, hsz]
       refine callB_use (f213 ⟨v, x.hi⟩) rfl ?_
       simp only [go_sem, h1, h4, h5, h7, h12, h13, h14, h19, h20, h21, hsb, hs7, hct, hjm, hc, hc0, n10, n10', m10, m10', hsz]
       simp only [Bool.false_or, hne] at hz2
       exact ⟨⟨by rw [wrap_succ _ (by omega)], by rw [if_neg n7']⟩, _, _, rfl, rfl, hsl, hDn _ (hD.upd hDf), hz2⟩
    ·simp only [go_sem, h1, h4, h5, h7, h12, h13, h14, h19, h20, h21, hsb, hs7, hct, hjm, hc, hc0, hpos, n10, n10', m10, m10']
     refine dcallB_use (f214 _ (IntKind.i64.wrap (0 - c)) (by rw [hcw]; omega)) rfl ?_
     have hr : narrowP t sp' j c x = ⟨x.lo, if floorP (greatP t sp' j) (IntKind.i64.wrap (0 - c)) < x.hi then floorP (greatP t sp' j) (IntKind.i64.wrap (0 - c)) else x.hi⟩ := by rw [narrowP, if_neg hpos]
     have hput := rows_put1 hx
     generalize hv : (if floorP (greatP t sp' j) (IntKind.i64.wrap (0 - c)) < x.hi then floorP (greatP t sp' j) (IntKind.i64.wrap (0 - c)) else x.hi) = v at hr
     rw [hr] at hz2
     have hset : (sp'.set j ⟨x.lo, v⟩)[j]? = some ⟨x.lo, v⟩ := by rw [List.getElem?_set_self hjl]
     have hsl : (sp'.set j ⟨x.lo, v⟩).length = m := by rw [List.length_set]; exact hlsp
     have hput' : ∀ y, List.take (j * 2 + 1) (sp'.flatMap rgC) ++ [AV.v (.int .i64 y)] ++ List.drop (j * 2 + 1 + 1) (sp'.flatMap rgC) = (sp'.set j ⟨x.lo, y⟩).flatMap rgC := fun y => hput y
     have hlenS : ((sp'.set j ⟨x.lo, v⟩).flatMap rgC).length = m * 2 := by rw [rows_len2, hsl]
     have htk : List.take 2 (List.drop (j * 2) ((sp'.set j ⟨x.lo, v⟩).flatMap rgC)) = rgC ⟨x.lo, v⟩ := by rw [rows_split rgC_len hset]; rfl
     have hne : neB ⟨x.lo, v⟩ x = !decide (v = x.hi) := by simp [neB]
     have hDn := fun (σ2 : Sig) (h : Drop σ2 (upd σ b (some (.row (sp'.flatMap rgC) 2 c0)))) => Drop.updBoth h (some (Blk.row ((sp'.set j ⟨x.lo, v⟩).flatMap rgC) 2 c0))
     by_cases hsz : sizeP ⟨x.lo, v⟩ < 0
     ·rw [if_pos hsz] at hz2
      rw [hz2, if_pos rfl] at hz
      rw [hz] at hK
      simp only [sizeP] at hsz
      cases ch' with
      | true =>
       simp only [go_sem, h1, h4, h5, h7, h12, h13, h14, h19, h20, h21, hsb, hs7, hct, hjm, hc, hc0, n10, n10', m10, m10', hv, rows_len2, hlsp, hj0, hj1, ↓hput, hput', hlenS, htk, hsl, hsz]
       refine callB_use (f213 ⟨x.lo, v⟩) rfl ?_
       simp only [go_sem, h1, h4, h5, h7, h12, h13, h14, h19, h20, h21, hsb, hs7, hct, hjm, hc, hc0, n10, n10', m10, m10', hsz]
       exact ⟨_, _, .refl _, hDn _ (hD.upd hDf), hK⟩
      | false =>
       simp only [go_sem, h1, h4, h5, h7, h12, h13, h14, h19, h20, h21, hsb, hs7, hct, hjm, hc, hc0, n10, n10', m10, m10', hv, rows_len2, hlsp, hj0, hj1, ↓hput, hput', hlenS, htk, hsl, hsz]
       refine callB_use (f213 ⟨x.lo, v⟩) rfl ?_
       simp only [go_sem, h1, h4, h5, h7, h12, h13, h14, h19, h20, h21, hsb, hs7, hct, hjm, hc, hc0, n10, n10', m10, m10', hsz]
       simp only [Bool.false_or, hne] at hK
       exact ⟨_, _, .refl _, hDn _ (hD.upd hDf), hK⟩
     ·rw [if_neg hsz] at hz2
      simp only [sizeP] at hsz
      cases ch' with
      | true =>
       simp only [go_sem, h1, h4, h5, h7, h12, h13, h14, h19, h20, h21, hsb, hs7, hct, hjm, hc, hc0, n10, n10', m10, m10', hv, rows_len2, hlsp, hj0, hj1, ↓hput, hput', hlenS, htk, hsl, hsz]
       refine callB_use (f213 ⟨x.lo, v⟩) rfl ?_
       simp only [go_sem, h1, h4, h5, h7, h12, h13, h14, h19, h20, h21, hsb, hs7, hct, hjm, hc, hc0, n10, n10', m10, m10', hsz]
       exact ⟨⟨by rw [wrap_succ _ (by omega)], by rw [if_neg n7']⟩, _, _, rfl, rfl, hsl, hDn _ (hD.upd hDf), hz2⟩
      | false =>
       simp only [go_sem, h1, h4, h5, h7, h12, h13, h14, h19, h20, h21, hsb, hs7, hct, hjm, hc, hc0, n10, n10', m10, m10', hv, rows_len2, hlsp, hj0, hj1, ↓hput, hput', hlenS, htk, hsl, hsz]
       refine callB_use (f213 ⟨x.lo, v⟩) rfl ?_
       simp only [go_sem, h1, h4, h5, h7, h12, h13, h14, h19, h20, h21, hsb, hs7, hct, hjm, hc, hc0, n10, n10', m10, m10', hsz]
       simp only [Bool.false_or, hne] at hz2
       exact ⟨⟨by rw [wrap_succ _ (by omega)], by rw [if_neg n7']⟩, _, _, rfl, rfl, hsl, hDn _ (hD.upd hDf), hz2⟩
  ·have hjm2 : j = m := by omega
   simp only [go_sem, h1, h4, h5, h7, h12, h13, h14, h19, h20, h21, hsb, hs7, hct, hjm]
   rw [List.drop_of_length_le (by omega), roundT] at hz2
   rw [hz2] at hz
   exact ⟨hlt, by rw [wrap_succ _ (by omega)], ch', sp', rfl, rfl, hlsp, hD, by simpa using hz⟩
 ·subst hk
  rw [List.drop_length, roundP] at hz
  rw [hz] at hK
  simp only [go_sem, h1, h4, h5, h12, h13, h14, Nat.lt_irrefl]
  exact ⟨_, _, .refl _, hD, hK⟩
def onesF (S : List Int) (at' : List Nat) : List Int := at'.foldl (fun l i => l.set i 1) S
def leafSt (n : Nat) (at' : List Nat) : St := ⟨true, onesF (List.replicate n 0) at', 0, 0, 0, 0⟩
theorem onesF_len (at' : List Nat) : ∀ S, (onesF S at').length = S.length := by
 induction at' with
 | nil => intro S; rfl
 | cons i l ih => intro S; rw [onesF, List.foldl_cons]; exact (ih _).trans (by simp)
def natI (l : List Nat) : List Int := l.map fun (i : Nat) => (i : Int)
theorem natI_len (l : List Nat) : (natI l).length = l.length := by simp [natI]
theorem natI_get (l : List Nat) (k : Nat) : (natI l)[k]? = (l[k]?).map fun (i : Nat) => (i : Int) := by simp [natI]
theorem f234 (n : Nat) (is : List Nat) (hn : Fits n) (hi : Fits is.length) (hlt : ∀ i ∈ is, i < n) : PCalls Tryz.prog Γ 234 [int n, slI (natI is)] (prA [leafSt n is]) := by
 refine pcalls (ok234 Γ) fun σ => ?_
 have hA8 : (8 : Int) * n ≤ 140737488355328 := by omega
 have hA9 : (n : Int) ≤ 9223372036854775807 := by omega
 simp only [go_sem, Tryz.f234, hA8, hA9, ints_zeros]
 intro b4 hb4
 simp only [go_sem, hA8, hA9, ints_zeros]
 intro b5 hb5
 obtain ⟨n1, hb5⟩ := upd_none hb5
 have n1' : ¬ b4 = b5 := fun e => n1 e.symm
 simp only [go_sem, hA8, hA9, ints_zeros]
 refine SemC.loopK mixed is.length (fun k ρ σ' ds => (ds = [] ∧ ρ 4 = .v (.pointer (some ⟨b4, 0, none⟩)) ∧ ρ 5 = .own b5 1 0 n ∧ ρ 10 = slI (natI is) ∧ ρ 11 = int is.length ∧ ρ 12 = int k ∧ σ' b4 = some (.row [.v (.slice none 0 0)] 1 1)) ∧ Drop σ' σ ∧
  ∃ S, σ' b5 = some (.row (ints S) 1 n) ∧ S.length = n ∧ onesF S (is.drop k) = onesF (List.replicate n 0) is) (by kernel_rfl) ⟨by simp only [go_sem, upd_at, n1', natI_len, natI_get], by repeat (first | exact Drop.refl _ | refine Drop.upd ?_ (by assumption)), List.replicate n 0, by simp only [go_sem, upd_at, ints_zeros], by simp, rfl⟩ ?_
 rintro k ρ σ' ds hk ⟨⟨rfl, h4, h5, h10, h11, h12, hs4⟩, hD, S, hs5, hS, hz⟩
 rcases get_or_end is k hk with ⟨x, hx, hltk, hd⟩ | hk
 ·have hxn := hlt x (mem_of_get hx)
  rw [hd] at hz
  have hxn1 : x + 1 ≤ n := hxn
  have hput := fun y => ints_put (l := S) (k := x) (x := y) (by omega)
  simp only [go_sem, h4, h5, h10, h11, h12, hs4, hs5, hx, hltk, hxn, hxn1, ints_len, hS, ↓hput, n1, n1', natI_len, natI_get]
  exact ⟨by rw [wrap_succ _ (by omega)], hD.upd hb5, _, rfl, by simp [hS], hz⟩
 ·subst hk
  rw [List.drop_length] at hz
  simp only [go_sem, h4, h5, h10, h11, h12, hs4, hs5, Nat.lt_irrefl, n1, n1']
  have hS2 : S = onesF (List.replicate n 0) is := hz
  have e : [leafSt n is].flatMap stC = [.v (.bool true), .sl (ints S) n, int 0, int 0, int 0, int 0] := by rw [hS2]; simp [leafSt, stC, slI, onesF_len]
  rw [e]
  exact ⟨.agg (.cons (.sl (.cons (.refl _) (.cons (put_own (c := n) (by rw [upd_ne _ _ _ _ n1, hs5]) (by simp [ints_len, hS]) hb5) (FzL.refl _)))) .nil), hD.upd hb4⟩
theorem idxE_nat {α : Type} (g : α → Bool) : ∀ (l : List α) (k : Nat), 0 ≤ idxE g k l → ∃ j, idxE g k l = ((k + j : Nat) : Int) ∧ j < l.length
 | [], k, h => by simp [idxE] at h
 | x :: l, k, h => by
  rw [idxE] at h ⊢
  split
  ·exact ⟨0, rfl, by simp⟩
  ·rename_i hx
   rw [if_neg hx] at h
   obtain ⟨j, h1, h2⟩ := idxE_nat g l (k + 1) h
   exact ⟨j + 1, by rw [h1]; congr 1; omega, by simp; omega⟩
def oppF (a : Tm) : Nat → List Tm → Option Nat
 | _, [] => none
 | k, x :: l => if oppB a x then some k else oppF a (k + 1) l
def pairsF : Nat → List Tm → Option (List Nat)
 | _, [] => none
 | i, a :: l => match oppF a (i + 1) l with
  | some k => some [i, k]
  | none => pairsF (i + 1) l
def pairAt (l : List Tm) : Option (List Nat) := if 0 ≤ idxE flatB 0 l then some [(idxE flatB 0 l).toNat] else pairsF 0 l
def pairP (l : List Tm) : List St × Bool := match pairAt l with
 | some is => ([leafSt l.length is], true)
 | none => ([], false)
theorem f175 (l : List Tm) (hl : Fits l.length) (hc : ∀ t ∈ l, Fits t.coeffs.length) : PCalls Tryz.prog Γ 175 [slT l] (.tup [prA (pairP l).1, .v (.bool (pairP l).2)]) := by
 refine pcalls (ok175 Γ) fun σ => ?_
 simp only [go_sem, Tryz.f175]
 intro b2 hb2
 simp only [go_sem]
 refine callB_use (f232 l hl (.fn (.func 233) [] []) flatB (fun x hx => dcall_of (f233 x (hc x hx)) rfl)) rfl ?_
 by_cases h0 : 0 ≤ idxE flatB 0 l
 ·obtain ⟨j, hj, hjl⟩ := idxE_nat flatB l 0 h0
  rw [Nat.zero_add] at hj
  have hp : pairP l = ([leafSt l.length [j]], true) := by rw [pairP, pairAt, if_pos h0, hj]; rfl
  simp only [go_sem, hj]
  refine callB_use (f234 l.length [j] hl (by simp) (by simpa using hjl)) rfl ?_
  simp only [go_sem]
  exact retP_drop (by repeat (first | assumption | exact Drop.refl _ | refine Drop.upd ?_ (by assumption))) (by rw [hp]; rfl)
 ·have hp0 : pairAt l = pairsF 0 l := by rw [pairAt, if_neg h0]
  simp only [go_sem, h0]
  refine SemC.loopK mixed l.length (fun i ρ σ' ds => (ds = [] ∧ ρ 0 = slT l ∧ ρ 2 = .v (.pointer (some ⟨b2, 0, none⟩)) ∧ ρ 17 = slT l ∧ ρ 18 = int l.length ∧ ρ 19 = int i ∧ σ' b2 = some (.row [.v (.slice none 0 0)] 1 1)) ∧ Drop σ' σ ∧ pairAt l = pairsF i (l.drop i)) (by kernel_rfl) ⟨by simp only [go_sem, upd_at], by repeat (first | exact Drop.refl _ | refine Drop.upd ?_ (by assumption)), hp0⟩ ?_
  rintro i ρ σ' ds hi ⟨⟨rfl, h0, h2, h17, h18, h19, hs2⟩, hD, hz⟩
  rcases get_or_end l i hi with ⟨x, hx, hlt, hd⟩ | hk
  ·rw [hd, pairsF] at hz
   simp only [go_sem, h0, h2, h17, h18, h19, hlt, hx, ↓tm_part hx]
   intro b6 hb6
   have n2 := none_ne hb6 hs2
   have n2' : ¬ b6 = b2 := fun e => n2 e.symm
   simp only [go_sem, h0, h2, h17, h18, h19, hlt, hx, ↓tm_part hx]
   have hw : IntKind.i64.wrap ((i : Int) + 1) = ((i + 1 : Nat) : Int) := wrap_succ _ (by omega)
   refine SemC.loopS mixed (fun k ρ σ'' ds => (ds = [] ∧ ρ 0 = slT l ∧ ρ 2 = .v (.pointer (some ⟨b2, 0, none⟩)) ∧ ρ 5 = int i ∧ ρ 6 = .v (.pointer (some ⟨b6, 0, none⟩)) ∧ ρ 7 = int (k : Nat) ∧ ρ 17 = slT l ∧ ρ 18 = int l.length ∧ ρ 19 = int i ∧ σ'' b2 = some (.row [.v (.slice none 0 0)] 1 1) ∧ σ'' b6 = some (.row (tmC x) 2 1)) ∧
    Drop σ'' σ ∧ k ≤ l.length ∧ i < k ∧ oppF x (i + 1) (l.drop (i + 1)) = oppF x k (l.drop k)) (fun k => l.length - k) (i + 1) (by kernel_rfl) ⟨by simp only [go_sem, h0, h2, h17, h18, h19, hw, upd_at, n2, hs2, n2'], (hD.upd (hD.free hb6)).upd (hD.free hb6), by omega, by omega, rfl⟩ ?_
   rintro k ρ σ'' ds ⟨⟨rfl, h0, h2, h5, h6, h7, h17, h18, h19, hs2, hs6⟩, hD2, hkl, hik, hz2⟩
   rcases get_or_end l k hkl with ⟨y, hy, hltk, hdk⟩ | hk
   ·rw [hdk, oppF] at hz2
    simp only [go_sem, h0, h2, h5, h6, h7, h17, h18, h19, hs2, hs6, hltk, hy, ↓tm_part hy]
    refine callB_use (f235 x y (hc x (mem_of_get hx))) rfl ?_
    cases ho : oppB x y with
    | true =>
     rw [ho] at hz2
     rw [hz2] at hz
     have hp : pairP l = ([leafSt l.length [i, k]], true) := by rw [pairP, hz]; rfl
     simp only [go_sem, h0, h2, h5, h6, h7, h17, h18, h19, hs2, hs6, hltk, hy]
     refine callB_use (f234 l.length [i, k] hl (by simp) (by simp; omega)) rfl ?_
     simp only [go_sem, h0, h2, h5, h6, h7, h17, h18, h19, hs2, hs6, hltk, hy]
     exact retP_drop (by repeat (first | assumption | exact Drop.refl _ | refine Drop.upd ?_ (by assumption))) (by rw [hp]; rfl)
    | false =>
     rw [ho] at hz2
     simp only [go_sem, h0, h2, h5, h6, h7, h17, h18, h19, hs2, hs6, hltk, hy]
     exact ⟨k + 1, by omega, by rw [wrap_succ _ (by omega)], hD2, by omega, by omega, hz2⟩
   ·subst hk
    rw [List.drop_length] at hz2
    simp only [go_sem, h0, h2, h5, h6, h7, h17, h18, h19, hs2, hs6, Nat.lt_irrefl]
    rw [hz2] at hz
    exact ⟨hlt, by rw [hw], hD2, hz⟩
  ·subst hk
   rw [List.drop_length] at hz
   have hp : pairP l = ([], false) := by rw [pairP, hz]; rfl
   simp only [go_sem, h0, h2, h17, h18, h19, Nat.lt_irrefl, hs2]
   rw [hp]
   exact ⟨.tup (.cons (.agg (.cons .nil .nil)) (.cons (.refl _) .nil)), hD.upd hb2⟩
theorem f86 (l : List Tm) (hl : Fits l.length) (hc : ∀ t ∈ l, Fits t.coeffs.length) : PCalls Tryz.prog Γ 86 [slT l] (.tup [prA (if checkTermsE l = 0 then (pairP l).1 else []), .v (.bool (decide (checkTermsE l = 0) && (pairP l).2)), int (checkTermsE l)]) := by
 refine pcalls (ok86 Γ) fun σ => ?_
 simp only [go_sem, Tryz.f86]
 intro b2 hb2
 simp only [go_sem]
 refine callB_use (f27 l hl hc) rfl ?_
 by_cases h1 : checkTermsE l = 0
 ·simp only [go_sem, h1]
  refine callB_use (f175 l hl hc) rfl ?_
  simp only [go_sem, h1]
  intro b6 hb6
  obtain ⟨n1, hb6⟩ := upd_none hb6
  have n1' : ¬ b2 = b6 := fun e => n1 e.symm
  simp only [go_sem, h1, n1, n1']
  exact retP_drop (by repeat (first | exact Drop.refl _ | refine Drop.upd ?_ (by assumption))) rfl
 ·simp only [go_sem, h1]
  exact ⟨.tup (.cons (.agg (.cons .nil .nil)) (.cons (.refl _) (.cons (.refl _) .nil))), by repeat (first | exact Drop.refl _ | refine Drop.upd ?_ (by assumption))⟩
end Go.AL
