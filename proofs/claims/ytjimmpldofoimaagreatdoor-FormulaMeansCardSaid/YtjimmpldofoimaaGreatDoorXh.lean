/- Negated and Sum, the library's and the reference's, and the law FormulaTerms. -/
import Derived.Test.YtjimmpldofoimaaGreatDoorWd
import Derived.Test.YtjimmpldofoimaaGreatDoorXg
open Nat renaming reduceEqDiff → xQ, reduceAdd → xA, reduceMul → xM, reduceLeDiff → xL
open Int renaming reduceLT → xT, reduceLE → xE, reduceToNat → xN
open Go.AL renaming retPost_one → xP, retPost_oneN → xR, ers_at' → xS
set_option linter.unusedVariables false
set_option linter.unusedSimpArgs false
namespace Go.AL
open Go.Proofs
@[reducible] noncomputable def p73 (Γ : Glob) : Par := par Γ [2] [] []
theorem ok73 (Γ : Glob) : FnOk (p73 Γ) 73 16 (Tryz.f73.body.getD .skip) Tryz.f73.results.toList 1 := fnOk (par_mixed _ _ _ _) Tryz.func73 rfl rfl rfl (by kernel_rfl) (Nat.le_of_ble_eq_true rfl) (by kernel_rfl)
@[reducible] noncomputable def p74 (Γ : Glob) : Par := par Γ [6] [(1, [false, true])] [(1, [0, 1, 0, 0, 8, 24, 63, 0, 255, 511, 1023, 2047])]
theorem ok74 (Γ : Glob) : FnOk (p74 Γ) 74 31 (Tryz.f74.body.getD .skip) Tryz.f74.results.toList 3 := fnOk (par_mixed _ _ _ _) Tryz.func74 rfl rfl rfl (by kernel_rfl) (Nat.le_of_ble_eq_true rfl) (by kernel_rfl)
@[reducible] noncomputable def p75 (Γ : Glob) : Par := par Γ [2, 4] [] []
theorem ok75 (Γ : Glob) : FnOk (p75 Γ) 75 12 (Tryz.f75.body.getD .skip) Tryz.f75.results.toList 1 := fnOk (par_mixed _ _ _ _) Tryz.func75 rfl rfl rfl (by kernel_rfl) (Nat.le_of_ble_eq_true rfl) (by kernel_rfl)
@[reducible] noncomputable def p77 (Γ : Glob) : Par := par Γ [] [] []
theorem ok77 (Γ : Glob) : FnOk (p77 Γ) 77 5 (Tryz.f77.body.getD .skip) Tryz.f77.results.toList 1 := fnOk (par_mixed _ _ _ _) Tryz.func77 rfl rfl rfl (by kernel_rfl) (Nat.le_of_ble_eq_true rfl) (by kernel_rfl)
@[reducible] noncomputable def p81 (Γ : Glob) : Par := par Γ [] [] []
theorem ok81 (Γ : Glob) : FnOk (p81 Γ) 81 19 (Tryz.f81.body.getD .skip) Tryz.f81.results.toList 4 := fnOk (par_mixed _ _ _ _) Tryz.func81 rfl rfl rfl (by kernel_rfl) (Nat.le_of_ble_eq_true rfl) (by kernel_rfl)
@[reducible] noncomputable def p168 (Γ : Glob) : Par := par Γ [2] [] []
theorem ok168 (Γ : Glob) : FnOk (p168 Γ) 168 12 (Tryz.f168.body.getD .skip) Tryz.f168.results.toList 1 := fnOk (par_mixed _ _ _ _) Tryz.func168 rfl rfl rfl (by kernel_rfl) (Nat.le_of_ble_eq_true rfl) (by kernel_rfl)
@[reducible] noncomputable def p171 (Γ : Glob) : Par := par Γ [6, 7] [] [(5, [0, 1, 0, 0, 8, 0, 56, 120, 252, 508, 1023, 2047, 4095])]
theorem ok171 (Γ : Glob) : FnOk (p171 Γ) 171 36 (Tryz.f171.body.getD .skip) Tryz.f171.results.toList 3 := fnOk (par_mixed _ _ _ _) Tryz.func171 rfl rfl rfl (by kernel_rfl) (Nat.le_of_ble_eq_true rfl) (by kernel_rfl)
variable {Γ : Glob}
attribute [local irreducible] codeW opsW dopsW
def noT : Tm := ⟨[], 0⟩
theorem noT_fz {σ σ' : Sig} {e : Int} : Fz σ σ' (.tup [.agg [.v (.slice none 0 0), int 0], int e]) (.tup [tmA noT, int e]) := .tup (.cons (.agg (.cons .nil (.cons (.refl _) .nil))) (.cons (.refl _) .nil))
def resE (t : Tm) : Int := largeE t
def resT (t : Tm) : Tm := if largeE t = 0 then t else noT
set_option maxHeartbeats 1000000 in
theorem f168 (t : Tm) (hl : Fits t.coeffs.length) : PCalls Tryz.prog Γ 168 [tmA t] (.tup [tmA (resT t), int (resE t)]) := by
  refine pcalls (ok168 Γ) fun σ => ?_
  simp only [go_sem, xQ, ↓reduceIte, xA, xM, xL, xT, xE, xN, xP, xR, xS, Tryz.f168]
  intro b2 hb2
  simp only [go_sem, xQ, ↓reduceIte, xA, xM, xL, xT, xE, xN, xP, xR, xS]
  refine callB_use (f159 t hl) rfl ?_
  simp only [go_sem, xQ, ↓reduceIte, xA, xM, xL, xT, xE, xN, xP, xR, xS]
  by_cases h : largeE t = 0
  · simp only [go_sem, xQ, ↓reduceIte, xA, xM, xL, xT, xE, xN, xP, xR, xS, h]
    exact retP_drop (by repeat (first | exact Drop.refl _ | assumption | refine Drop.upd ?_ (by assumption))) (by simp [resT, resE, h])
  · simp only [go_sem, xQ, ↓reduceIte, xA, xM, xL, xT, xE, xN, xP, xR, xS, h]
    rw [show resT t = noT from if_neg h, resE]
    exact ⟨noT_fz, by repeat (first | exact Drop.refl _ | assumption | refine Drop.upd ?_ (by assumption))⟩
def negE (t : Tm) : Int := if checkTermE t t.coeffs.length = 0 then resE (oppT t (-1)) else checkTermE t t.coeffs.length
def negT (t : Tm) : Tm := if checkTermE t t.coeffs.length = 0 then resT (oppT t (-1)) else noT
theorem oppT_len (t : Tm) (n : Int) : (oppT t n).coeffs.length = t.coeffs.length := by simp [oppT, plusT, plusC_len]
set_option maxHeartbeats 1000000 in
theorem f73 (t : Tm) (hl : Fits t.coeffs.length) : PCalls Tryz.prog Γ 73 [tmA t] (.tup [tmA (negT t), int (negE t)]) := by
  refine pcalls (ok73 Γ) fun σ => ?_
  simp only [go_sem, xQ, ↓reduceIte, xA, xM, xL, xT, xE, xN, xP, xR, xS, Tryz.f73]
  intro b2 hb2
  simp only [go_sem, xQ, ↓reduceIte, xA, xM, xL, xT, xE, xN, xP, xR, xS]
  refine callB_use (f160 t hl) rfl ?_
  simp only [go_sem, xQ, ↓reduceIte, xA, xM, xL, xT, xE, xN, xP, xR, xS]
  by_cases h : checkTermE t t.coeffs.length = 0
  · simp only [go_sem, xQ, ↓reduceIte, xA, xM, xL, xT, xE, xN, xP, xR, xS, h]
    refine callB_use (f169 t (-1) hl) rfl ?_
    simp only [go_sem, xQ, ↓reduceIte, xA, xM, xL, xT, xE, xN, xP, xR, xS]
    refine callB_use (f168 (oppT t (-1)) (by rw [oppT_len]; exact hl)) rfl ?_
    simp only [go_sem, xQ, ↓reduceIte, xA, xM, xL, xT, xE, xN, xP, xR, xS]
    exact retP_drop (by repeat (first | exact Drop.refl _ | assumption | refine Drop.upd ?_ (by assumption))) (by simp [negT, negE, h])
  · simp only [go_sem, xQ, ↓reduceIte, xA, xM, xL, xT, xE, xN, xP, xR, xS, h]
    rw [show negT t = noT from if_neg h, show negE t = checkTermE t t.coeffs.length from if_neg h]
    exact ⟨noT_fz, by repeat (first | exact Drop.refl _ | assumption | refine Drop.upd ?_ (by assumption))⟩
def timesT (t : Tm) (m c : Int) : Tm := ⟨t.coeffs.map fun x => IntKind.i64.wrap (m * x), IntKind.i64.wrap (IntKind.i64.wrap (m * t.const) + c)⟩
set_option maxHeartbeats 1000000 in
theorem f171 (t : Tm) (m c : Int) (hl : Fits t.coeffs.length) : PCalls Tryz.prog Γ 171 [tmA t, int m, int c] (tmA (timesT t m c)) := by
  refine pcalls (ok171 Γ) fun σ => ?_
  simp only [go_sem, xQ, ↓reduceIte, xA, xM, xL, xT, xE, xN, xP, xR, xS, Tryz.f171]
  intro b2 hb2
  simp only [go_sem, xQ, ↓reduceIte, xA, xM, xL, xT, xE, xN, xP, xR, xS]
  intro bo hbo
  obtain ⟨hne, hbo⟩ := un hbo
  have hne' : ¬ b2 = bo := fun e => hne e.symm
  simp only [go_sem, xQ, ↓reduceIte, xA, xM, xL, xT, xE, xN, xP, xR, xS, hne, hne']
  refine SemC.loopK mixed t.coeffs.length (fun k ρ σ' ds => (ds = [] ∧ ρ 3 = .pp (tmC t) 0 ∧ ρ 1 = int m ∧ ρ 2 = int c ∧ ρ 6 = .v (.pointer (some ⟨b2, 0, none⟩)) ∧ ρ 7 = .v (.pointer (some ⟨bo, 0, none⟩)) ∧ ρ 8 = int k ∧ σ' b2 = some (.row [.v (.slice none 0 0), int 0] 2 1)) ∧ Drop σ' σ ∧
    ∃ a, σ' bo = some (.row [a, int 0] 2 1) ∧ Grow σ σ' 1 a (ints ((t.coeffs.take k).map fun x => IntKind.i64.wrap (m * x))) k) (by kernel_rfl) ⟨by simp only [go_sem, xQ, ↓reduceIte, xA, xM, xL, xT, xE, xN, xP, xR, xS, hne, hne'], by repeat (first | exact Drop.refl _ | assumption | refine Drop.upd ?_ (by assumption)), _, by simp only [go_sem, xQ, ↓reduceIte, xA, xM, xL, xT, xE, xN, xP, xR, xS], .nil _ _ _⟩ ?_
  rintro k ρ σ' ds hk ⟨⟨rfl, h3, h1, h2, h6, h7, h8, hs2⟩, hD, a, hso, hG⟩
  rcases get_or_end t.coeffs k hk with ⟨x, hx, hlt, hd⟩ | hk
  · simp only [go_sem, xQ, ↓reduceIte, xA, xM, xL, xT, xE, xN, xP, xR, xS, h3, h1, h2, h6, h7, h8, hlt, hx, hso]
    refine appB_sl (appT_sl el46 tk3 by3 el46 (by decide) rfl (by decide)) hD hG rfl rfl (by omega) (fun a' σ2 hD2 hO hG2 => ?_)
    have e2 : σ2 b2 = some (.row [.v (.slice none 0 0), int 0] 2 1) := by
      rw [hO b2 (hG.neS hs2 (by decide)) (by simp [hs2]), hs2]
    have eo : σ2 bo = some (.row [a, int 0] 2 1) := by
      rw [hO bo (hG.neS hso (by decide)) (by simp [hso]), hso]
    have hc2 := hG2.cellsX
    have ho2 := hG2.oneX
    simp only [go_sem, xQ, ↓reduceIte, xA, xM, xL, xT, xE, xN, xP, xR, xS, h3, h1, h2, h6, h7, h8, e2, eo, hc2, ho2, hne', hlt]
    refine ⟨by rw [wrap_succ _ (by omega)], hD2.upd hbo, a', by simp only [go_sem, xQ, ↓reduceIte, xA, xM, xL, xT, xE, xN, xP, xR, xS, upd_same], ?_⟩
    rw [take_succ hx]
    have := hG2.updW (hG2.neS eo (by decide)) (some (.row [a', int 0] 2 1))
    simpa [ints, int] using this
  · subst hk
    have ho := hG.oneX
    rw [List.take_length] at hG
    simp only [go_sem, xQ, ↓reduceIte, xA, xM, xL, xT, xE, xN, xP, xR, xS, h3, h1, h2, h6, h7, h8, Nat.lt_irrefl, hs2, hso, hne, hne', ho]
    have hG' := (hG.updW (hG.neS hso (by decide)) (some (.row [a, int (timesT t m c).const] 2 1)))
    have hG' := hG'.updW (hG.neS hs2 (by decide)) (some (.row [a, int (timesT t m c).const] 2 1))
    have hml : (timesT t m c).coeffs.length = t.coeffs.length := by simp [timesT]
    rw [hml]
    exact ⟨.agg (.cons (hG'.retP ((hD.upd hbo).upd hb2)).1 (.cons (.refl _) .nil)), (hD.upd hbo).upd hb2⟩
theorem plusC_take (m : Int) : ∀ (l cs : List Int) (k : Nat) (a c : Int), l[k]? = some a → cs[k]? = some c → (plusC m l cs).take (k + 1) = (plusC m l cs).take k ++ [IntKind.i64.wrap (a + IntKind.i64.wrap (m * c))]
  | [], _, k, a, c, h, _ => by simp at h
  | _ :: _, [], k, a, c, _, h => by simp at h
  | x :: l, y :: cs, 0, a, c, h, h' => by simp at h h'; subst h h'; simp [plusC]
  | x :: l, y :: cs, k + 1, a, c, h, h' => by
    have := plusC_take m l cs k a c (by simpa using h) (by simpa using h')
    rw [plusC, List.take_succ_cons, this, List.take_succ_cons, List.cons_append]
theorem frzB_term {x : Bool} {l : List Bool} {ρ : Env} {σ σ0 : Sig} {K : Env → Sig → Prop} {s n : Nat} {a y : AV} {cs : List AV} (t b : Nat) (hρ : ρ t = .v (.pointer (some ⟨b, 0, none⟩))) (hb : σ b = some (.row [a, y] 2 1)) (hG : Grow σ0 σ s a cs n) (hs : s ≠ 2) (hD : Drop σ σ0) (h0 : σ0 b = none)
    (hk : ∀ σ', Drop σ' σ0 → (∀ z, z ≠ b → (∀ s o m, a ≠ .own z s o m) → σ' z = σ z) → K (upd ρ t (.pp [.sl cs n, y] 0)) σ') : frzB (x :: l) ρ σ K := by
  have hne := hG.neS hb hs.symm
  rcases hG with ⟨h, rfl, rfl⟩ | ⟨b', c, rfl, h1, h2, h3⟩
  · refine frzB_val t (σ' := ers σ b) (Drop.ers σ b) (r := .pp [.sl [] 0, y] 0) ?_ (hk _ (hD.ersX h0) fun z hz _ => ers_ne _ _ _ hz)
    rw [hρ]
    refine .ptr hb (ers_same _ _) (.cons ?_ (.cons (.refl _) .nil))
    rcases h with rfl | rfl
    · exact .nil
    · exact .e0
  · have hbb : b' ≠ b := fun e => hne s 0 n (by rw [e])
    refine frzB_val t (σ' := ers (ers σ b) b') (Drop.trans (Drop.ers σ b) (Drop.ers _ b')) (r := .pp [.sl cs n, y] 0) ?_ (hk _ ((hD.ersX h0).ersX h1) fun z hz hz2 => ?_)
    · rw [hρ]
      refine .ptr hb (by rw [ers_ne _ _ _ (Ne.symm hbb)]; exact ers_same _ _) (.cons (.own h2 (ers_same _ _) ?_) (.cons (.refl _) .nil))
      have : (cs.drop (0 * s)).take (n * s) = cs := by simp [← h3]
      rw [this]
      exact .refl cs
    · rw [ers_ne _ _ _ (fun e => hz2 s 0 n (by rw [e])), ers_ne _ _ _ hz]
@[reducible] noncomputable def p79z (Γ : Glob) : Par := par Γ [6, 8] [(1000007, [true])] [(5, [0, 1, 0, 4, 0, 28, 60, 0, 0, 256, 0, 1792, 3840, 8064, 16380, 32764, 65535, 131071, 262143])]
theorem ok79z (Γ : Glob) : FnOk (p79z Γ) 79 48 (Tryz.f79.body.getD .skip) Tryz.f79.results.toList 3 := fnOk (par_mixed _ _ _ _) Tryz.func79 rfl rfl rfl (by kernel_rfl) (Nat.le_of_ble_eq_true rfl) (by kernel_rfl)
def sumRE (a b : Tm) (m : Int) : Int := if inRangeB (plusT a b m) then 0 else 4
def sumRT (a b : Tm) (m : Int) : Tm := if inRangeB (plusT a b m) then plusT a b m else noT
set_option maxHeartbeats 1000000 in
theorem f79 (t u : Tm) (m : Int) (hl : Fits t.coeffs.length) (hu : u.coeffs.length = t.coeffs.length) : PCalls Tryz.prog Γ 79 [tmA t, tmA u, int m] (.tup [tmA (sumRT t u m), int (sumRE t u m)]) := by
  refine pcalls (ok79z Γ) fun σ => ?_
  simp only [go_sem, xQ, ↓reduceIte, xA, xM, xL, xT, xE, xN, xP, xR, xS, Tryz.f79]
  intro b2 hb2
  simp only [go_sem, xQ, ↓reduceIte, xA, xM, xL, xT, xE, xN, xP, xR, xS]
  intro bo hbo
  obtain ⟨hne, hbo⟩ := un hbo
  have hne' : ¬ b2 = bo := fun e => hne e.symm
  simp only [go_sem, xQ, ↓reduceIte, xA, xM, xL, xT, xE, xN, xP, xR, xS, hne, hne']
  refine SemC.loopK mixed t.coeffs.length (fun k ρ σ' ds => (ds = [] ∧ ρ 3 = .pp (tmC t) 0 ∧ ρ 4 = .pp (tmC u) 0 ∧ ρ 2 = int m ∧ ρ 6 = .v (.pointer (some ⟨b2, 0, none⟩)) ∧ ρ 7 = int 0 ∧ ρ 8 = .v (.pointer (some ⟨bo, 0, none⟩)) ∧ ρ 9 = int k ∧ σ' b2 = some (.row [.v (.slice none 0 0), int 0] 2 1)) ∧ Drop σ' σ ∧
    ∃ a, σ' bo = some (.row [a, int 0] 2 1) ∧ Grow σ σ' 1 a (ints ((plusT t u m).coeffs.take k)) k) (by kernel_rfl) ⟨by simp only [go_sem, xQ, ↓reduceIte, xA, xM, xL, xT, xE, xN, xP, xR, xS, hne, hne'], by repeat (first | exact Drop.refl _ | assumption | refine Drop.upd ?_ (by assumption)), _, by simp only [go_sem, xQ, ↓reduceIte, xA, xM, xL, xT, xE, xN, xP, xR, xS], .nil _ _ _⟩ ?_
  rintro k ρ σ' ds hk ⟨⟨rfl, h3, h4, h2, h6, h7, h8, h9, hs2⟩, hD, a, hso, hG⟩
  have hpl : (plusT t u m).coeffs.length = t.coeffs.length := plusC_len m t.coeffs u.coeffs
  rcases get_or_end t.coeffs k hk with ⟨x, hx, hlt, hd⟩ | hk
  · have hltu : k < u.coeffs.length := by omega
    obtain ⟨y, hy⟩ : ∃ y, u.coeffs[k]? = some y := ⟨u.coeffs[k], List.getElem?_eq_getElem _⟩
    simp only [go_sem, xQ, ↓reduceIte, xA, xM, xL, xT, xE, xN, xP, xR, xS, h3, h4, h2, h6, h7, h8, h9, hlt, hltu, hx, hy, hso]
    refine appB_sl (appT_sl el46 tk3 by3 el46 (by decide) rfl (by decide)) hD hG rfl rfl (by omega) (fun a' σ2 hD2 hO hG2 => ?_)
    have e2 : σ2 b2 = some (.row [.v (.slice none 0 0), int 0] 2 1) := by
      rw [hO b2 (hG.neS hs2 (by decide)) (by simp [hs2]), hs2]
    have eo : σ2 bo = some (.row [a, int 0] 2 1) := by
      rw [hO bo (hG.neS hso (by decide)) (by simp [hso]), hso]
    have hc2 := hG2.cellsX
    have ho2 := hG2.oneX
    simp only [go_sem, xQ, ↓reduceIte, xA, xM, xL, xT, xE, xN, xP, xR, xS, h3, h4, h2, h6, h7, h8, h9, e2, eo, hc2, ho2, hne', hlt]
    refine ⟨by rw [wrap_succ _ (by omega)], hD2.upd hbo, a', by simp only [go_sem, xQ, ↓reduceIte, xA, xM, xL, xT, xE, xN, xP, xR, xS, upd_same], ?_⟩
    have htk : (plusT t u m).coeffs.take (k + 1) = (plusT t u m).coeffs.take k ++ [IntKind.i64.wrap (x + IntKind.i64.wrap (m * y))] := plusC_take m _ _ k x y hx hy
    rw [htk]
    have := hG2.updW (hG2.neS eo (by decide)) (some (.row [a', int 0] 2 1))
    simpa [ints, int] using this
  · subst hk
    have ho := hG.oneX
    rw [← hpl, List.take_length] at hG
    simp only [go_sem, xQ, ↓reduceIte, xA, xM, xL, xT, xE, xN, xP, xR, xS, h3, h4, h2, h6, h7, h8, h9, Nat.lt_irrefl, hs2, hso, hne, hne', ho]
    refine frzB_term (σ0 := σ) (y := int (plusT t u m).const) 8 bo (by simp only [go_sem, xQ, ↓reduceIte, xA, xM, xL, xT, xE, xN, xP, xR, xS, h8]) (by rw [upd_same]; rfl) (hG.updW (hG.neS hso (by decide)) _) (by decide) (hD.upd hbo) hbo (fun σ3 hD3 hO3 => ?_)
    have e3 : σ3 b2 = some (.row [.v (.slice none 0 0), int 0] 2 1) := by
      rw [hO3 b2 hne' (hG.neS hs2 (by decide)), upd_ne _ _ _ _ hne', hs2]
    simp only [go_sem, xQ, ↓reduceIte, xA, xM, xL, xT, xE, xN, xP, xR, xS, h3, h4, h2, h6, h7, h8, h9, e3]
    refine callB_fz (f172 (plusT t u m) (by rw [hpl]; exact hl)) (.cons (.refl _) .nil) ?_
    simp only [go_sem, xQ, ↓reduceIte, xA, xM, xL, xT, xE, xN, xP, xR, xS, h6, e3]
    by_cases h : inRangeB (plusT t u m) = true
    · simp only [go_sem, xQ, ↓reduceIte, xA, xM, xL, xT, xE, xN, xP, xR, xS, h, h6, h7, e3]
      rw [show sumRT t u m = plusT t u m from if_pos h, show sumRE t u m = 0 from if_pos h]
      exact retP_drop (by repeat (first | exact Drop.refl _ | assumption | refine Drop.upd ?_ (by assumption))) rfl
    · simp only [go_sem, xQ, ↓reduceIte, xA, xM, xL, xT, xE, xN, xP, xR, xS, h, h6, h7, e3]
      rw [show sumRT t u m = noT from if_neg h, show sumRE t u m = 4 from if_neg h]
      exact ⟨noT_fz, by repeat (first | exact Drop.refl _ | assumption | refine Drop.upd ?_ (by assumption))⟩
end Go.AL
