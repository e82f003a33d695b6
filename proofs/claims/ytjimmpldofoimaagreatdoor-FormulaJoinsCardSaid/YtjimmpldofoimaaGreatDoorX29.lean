/- Joined, Opposite and Always of the reference. -/
import Derived.Test.YtjimmpldofoimaaGreatDoorLb
import Derived.Test.YtjimmpldofoimaaGreatDoorXk
open Nat renaming reduceEqDiff → xQ, reduceAdd → xA, reduceMul → xM, reduceLeDiff → xL
open Int renaming reduceLT → xT, reduceLE → xE, reduceToNat → xN
open Go.AL renaming retPost_one → xP, retPost_oneN → xR, ers_at' → xS
set_option linter.unusedVariables false
set_option linter.unusedSimpArgs false
namespace Go.AL
open Go.Proofs
@[reducible] noncomputable def p70 (Γ : Glob) : Par := par Γ [2, 4] [] []
theorem ok70 (Γ : Glob) : FnOk (p70 Γ) 70 24 (Tryz.f70.body.getD .skip) Tryz.f70.results.toList 1 := fnOk (par_mixed _ _ _ _) Tryz.func70 rfl rfl rfl (by kernel_rfl) (Nat.le_of_ble_eq_true rfl) (by kernel_rfl)
@[reducible] noncomputable def p71 (Γ : Glob) : Par := par Γ [2] [] []
theorem ok71 (Γ : Glob) : FnOk (p71 Γ) 71 7 (Tryz.f71.body.getD .skip) Tryz.f71.results.toList 1 := fnOk (par_mixed _ _ _ _) Tryz.func71 rfl rfl rfl (by kernel_rfl) (Nat.le_of_ble_eq_true rfl) (by kernel_rfl)
@[reducible] noncomputable def p166 (Γ : Glob) : Par := par Γ [2, 3] [(5, [false, false, false, false, false, false, false, true])] [(5, [0, 1, 0, 4, 0, 28, 60, 124, 252, 511, 1023, 2047])]
theorem ok166 (Γ : Glob) : FnOk (p166 Γ) 166 27 (Tryz.f166.body.getD .skip) Tryz.f166.results.toList 1 := fnOk (par_mixed _ _ _ _) Tryz.func166 rfl rfl rfl (by kernel_rfl) (Nat.le_of_ble_eq_true rfl) (by kernel_rfl)
@[reducible] noncomputable def p167 (Γ : Glob) : Par := par Γ [2] [(1, [false, true, false, false, true])] [(1, [0, 1, 0, 4, 12, 0, 0, 64, 252, 511, 1023])]
theorem ok167 (Γ : Glob) : FnOk (p167 Γ) 167 13 (Tryz.f167.body.getD .skip) Tryz.f167.results.toList 1 := fnOk (par_mixed _ _ _ _) Tryz.func167 rfl rfl rfl (by kernel_rfl) (Nat.le_of_ble_eq_true rfl) (by kernel_rfl)
variable {Γ : Glob}
attribute [local irreducible] codeW opsW dopsW
theorem Grow.down {σ0 σ σ' : Sig} {s n : Nat} {a : AV} {cs : List AV} (h : Grow σ σ' s a cs n) (hD : Drop σ σ0) : Grow σ0 σ' s a cs n := by
  rcases h with h | ⟨b, c, h0, h1, h2, h3⟩
  · exact .inl h
  · exact .inr ⟨b, c, h0, hD.free h1, h2, h3⟩
theorem Drop.row {σ σ' : Sig} {b : Nat} {x : Blk} (h : Drop σ' σ) (hb : σ b = some x) : σ' b = some x := by
  rcases h b with h | h
  · rw [hb] at h; cases h
  · rw [← h]; exact hb
theorem onesI (l : List Int) : (ints l).all AV.one = true := by
  induction l with
  | nil => rfl
  | cons t l ih => rw [ints, List.map_cons, List.all_cons]; exact ih
/-- A copy of a node, whose kids are a row of its own. -/
theorem f167o (x : Nd) (hx : NdFit x) {σ : Sig} {K : AV → Sig → Prop} (hK : ∀ a σ', Drop σ' σ → Grow σ σ' 1 a (ints x.kids) x.kids.length → K (.agg [int x.kind, slI x.term.coeffs, int x.term.const, a]) σ') : ACalls Tryz.prog Γ 167 [ndA x] σ K := by
  have hx1 := hx.1
  have hx2 := hx.2
  refine acalls (ok167 Γ) ?_
  simp only [go_sem, xQ, ↓reduceIte, xA, xM, xL, xT, xE, xN, xP, xR, xS, Tryz.f167]
  intro b hb
  simp only [go_sem, xQ, ↓reduceIte, xA, xM, xL, xT, xE, xN, xP, xR, xS]
  refine dcallB_use (f117 x.term hx1) rfl ?_
  simp only [go_sem, xQ, ↓reduceIte, xA, xM, xL, xT, xE, xN, xP, xR, xS]
  refine appB_sl (appT_sl el46 tk3 by3 el46 (by decide) rfl (by decide)) ((Drop.refl σ).upd hb) (Grow.e0 σ _ 1) (onesI _) (by simp [ints]) (by omega) (fun a' σ2 hD2 hO hG2 => ?_)
  have hc2 := hG2.cellsX
  have ho2 := hG2.oneX
  have e2 : σ2 b = some (.row [int 0, .v (.slice none 0 0), int 0, .v (.slice none 0 0)] 4 1) := by
    rw [hO b (fun s o m e => by cases e) (by simp [upd])]; simp [upd, int]
  simp only [go_sem, xQ, ↓reduceIte, xA, xM, xL, xT, xE, xN, xP, xR, xS, hc2, ho2, e2]
  exact hK a' _ (hD2.upd hb) (by have := hG2.updW (hG2.neS e2 (by decide)) (some (.row [int x.kind, slI x.term.coeffs, int x.term.const, a'] 4 1)); simp only [List.nil_append, Nat.zero_add] at this; exact this)
theorem f167 (x : Nd) (hx : NdFit x) : PCalls Tryz.prog Γ 167 [ndA x] (ndA x) := by
  have hx1 := hx.1
  have hx2 := hx.2
  refine pcalls (ok167 Γ) fun σ => ?_
  simp only [go_sem, xQ, ↓reduceIte, xA, xM, xL, xT, xE, xN, xP, xR, xS, Tryz.f167]
  intro b hb
  simp only [go_sem, xQ, ↓reduceIte, xA, xM, xL, xT, xE, xN, xP, xR, xS]
  refine dcallB_use (f117 x.term hx1) rfl ?_
  simp only [go_sem, xQ, ↓reduceIte, xA, xM, xL, xT, xE, xN, xP, xR, xS]
  refine appB_sl (appT_sl el46 tk3 by3 el46 (by decide) rfl (by decide)) ((Drop.refl σ).upd hb) (Grow.e0 σ _ 1) (onesI _) (by simp [ints]) (by omega) (fun a' σ2 hD2 hO hG2 => ?_)
  have hc2 := hG2.cellsX
  have ho2 := hG2.oneX
  have e2 : σ2 b = some (.row [int 0, .v (.slice none 0 0), int 0, .v (.slice none 0 0)] 4 1) := by
    rw [hO b (fun s o m e => by cases e) (by simp [upd])]; simp [upd, int]
  simp only [go_sem, xQ, ↓reduceIte, xA, xM, xL, xT, xE, xN, xP, xR, xS, hc2, ho2, e2]
  have hG := hG2.updW (hG2.neS e2 (by decide)) (some (.row [int x.kind, slI x.term.coeffs, int x.term.const, a'] 4 1))
  simp only [List.nil_append, Nat.zero_add] at hG
  exact ⟨.agg (.cons (.refl _) (.cons (.refl _) (.cons (.refl _) (.cons (hG.retP (hD2.upd hb)).1 .nil)))), hD2.upd hb⟩
/-- A copy of a formula, whose nodes are a row of its own. -/
theorem f166o (f : Fm) (hl : f.nodes.length ≤ 1000000) (hc : ∀ n ∈ f.nodes, NdFit n) {σ : Sig} {K : AV → Sig → Prop} (hK : ∀ a σ', Drop σ' σ → Grow σ σ' 4 a (f.nodes.flatMap ndC) f.nodes.length → K (.agg [int f.vars, a]) σ') : ACalls Tryz.prog Γ 166 [fmA f] σ K := by
  refine acalls (ok166 Γ) ?_
  simp only [go_sem, xQ, ↓reduceIte, xA, xM, xL, xT, xE, xN, xP, xR, xS, Tryz.f166]
  intro b2 hb2
  simp only [go_sem, xQ, ↓reduceIte, xA, xM, xL, xT, xE, xN, xP, xR, xS]
  intro bo hbo
  obtain ⟨hne, hbo⟩ := un hbo
  have hne' : ¬ b2 = bo := fun e => hne e.symm
  simp only [go_sem, xQ, ↓reduceIte, xA, xM, xL, xT, xE, xN, xP, xR, xS, hne, hne']
  refine SemC.loopK mixed f.nodes.length (fun k ρ σ' ds => (ds = [] ∧ ρ 1 = .pp (fmC f) 0 ∧ ρ 2 = .v (.pointer (some ⟨b2, 0, none⟩)) ∧ ρ 3 = .v (.pointer (some ⟨bo, 0, none⟩)) ∧ ρ 4 = int k ∧ σ' b2 = some (.row [int 0, .v (.slice none 0 0)] 2 1)) ∧ Drop σ' σ ∧
    ∃ a, σ' bo = some (.row [int f.vars, a] 2 1) ∧ Grow σ σ' 4 a ((f.nodes.take k).flatMap ndC) k) (by kernel_rfl) ⟨by simp only [go_sem, xQ, ↓reduceIte, xA, xM, xL, xT, xE, xN, xP, xR, xS, hne, hne'], by repeat (first | exact Drop.refl _ | assumption | refine Drop.upd ?_ (by assumption)), _, by simp only [go_sem, xQ, ↓reduceIte, xA, xM, xL, xT, xE, xN, xP, xR, xS], .nil _ _ _⟩ ?_
  rintro k ρ σ' ds hk ⟨⟨rfl, h1, h2, h3, h4, hs2⟩, hD, a, hso, hG⟩
  rcases get_or_end f.nodes k hk with ⟨x, hx, hlt, hd⟩ | hk
  · simp only [go_sem, xQ, ↓reduceIte, xA, xM, xL, xT, xE, xN, xP, xR, xS, h1, h2, h3, h4, hlt, ↓nd_part hx, hso]
    refine dcallB_use (f167 x (hc x (mem_of_get hx))) rfl ?_
    simp only [go_sem, xQ, ↓reduceIte, xA, xM, xL, xT, xE, xN, xP, xR, xS, h1, h2, h3, h4, hso]
    refine appB_sl (appT_sl el58 tk138 by138 el58 (by decide) rfl (by decide)) hD hG rfl rfl (by omega) (fun a' σ2 hD2 hO hG2 => ?_)
    have e2 : σ2 b2 = some (.row [int 0, .v (.slice none 0 0)] 2 1) := by
      rw [hO b2 (hG.neS hs2 (by decide)) (by simp [hs2]), hs2]
    have eo : σ2 bo = some (.row [int f.vars, a] 2 1) := by
      rw [hO bo (hG.neS hso (by decide)) (by simp [hso]), hso]
    have hc2 := hG2.cellsX
    have ho2 := hG2.oneX
    simp only [go_sem, xQ, ↓reduceIte, xA, xM, xL, xT, xE, xN, xP, xR, xS, h1, h2, h3, h4, e2, eo, hc2, ho2, hne', hlt]
    refine ⟨by rw [wrap_succ _ (by omega)], hD2.upd hbo, a', by simp only [go_sem, xQ, ↓reduceIte, xA, xM, xL, xT, xE, xN, xP, xR, xS, upd_same], ?_⟩
    rw [take_succ hx, List.flatMap_append]
    have := hG2.updW (hG2.neS eo (by decide)) (some (.row [int f.vars, a'] 2 1))
    simpa [ndC, slI, int] using this
  · subst hk
    have ho := hG.oneX
    rw [List.take_length] at hG
    simp only [go_sem, xQ, ↓reduceIte, xA, xM, xL, xT, xE, xN, xP, xR, xS, h1, h2, h3, h4, Nat.lt_irrefl, hs2, hso, hne, ho]
    exact hK a _ (hD.upd hb2) (hG.updW (hG.neS hs2 (by decide)) _)
/-! ### Always, Opposite -/
def rAlw (n : Int) : Fm := ⟨n, [⟨3, ⟨[], 0⟩, []⟩]⟩
theorem f71 (n : Int) : PCalls Tryz.prog Γ 71 [int n] (fmA (rAlw n)) := by
  refine pcalls (ok71 Γ) fun σ => ?_
  simp only [go_sem, xQ, ↓reduceIte, xA, xM, xL, xT, xE, xN, xP, xR, xS, Tryz.f71]
  intro b hb
  simp only [go_sem, xQ, ↓reduceIte, xA, xM, xL, xT, xE, xN, xP, xR, xS, rAlw]
  exact ⟨.agg (.cons (.refl _) (.cons (.sl (.cons (.refl _) (.cons .nil (.cons (.refl _) (.cons .nil .nil))))) .nil)), by repeat (first | exact Drop.refl _ | assumption | refine Drop.upd ?_ (by assumption))⟩
def rOppF (f : Fm) : Fm := ⟨f.vars, f.nodes ++ [⟨2, ⟨[], 0⟩, [(f.nodes.length : Int) - 1]⟩]⟩
def rOppE (f : Fm) : Int := if (f.nodes.length : Int) = 200 then 5 else 0
set_option maxHeartbeats 1000000 in
theorem f70 (f : Fm) (hl : f.nodes.length ≤ 1000000) (hc : ∀ n ∈ f.nodes, NdFit n) : PCalls Tryz.prog Γ 70 [fmA f] (.tup [fmA (if rOppE f = 0 then rOppF f else fm0), int (rOppE f)]) := by
  refine pcalls (ok70 Γ) fun σ => ?_
  simp only [go_sem, xQ, ↓reduceIte, xA, xM, xL, xT, xE, xN, xP, xR, xS, Tryz.f70]
  intro b2 hb2
  simp only [go_sem, xQ, ↓reduceIte, xA, xM, xL, xT, xE, xN, xP, xR, xS]
  by_cases h : (f.nodes.length : Int) = 200
  · rw [show rOppE f = 5 from if_pos h]
    simp only [go_sem, xQ, ↓reduceIte, xA, xM, xL, xT, xE, xN, xP, xR, xS, h, fm0, show ((5 : Int) = 0) = False from eq_false (by decide)]
    exact ⟨.tup (.cons (.agg (.cons (.refl _) (.cons .nil .nil))) (.cons (.refl _) .nil)), by repeat (first | exact Drop.refl _ | assumption | refine Drop.upd ?_ (by assumption))⟩
  · rw [show rOppE f = 0 from if_neg h, if_pos rfl]
    simp only [go_sem, xQ, ↓reduceIte, xA, xM, xL, xT, xE, xN, xP, xR, xS, h]
    refine callB_a (f166o f hl hc fun a σ1 hD1 hG1 => ?_) rfl
    have hD1' := hD1
    have s2 : σ1 b2 = some (.row [int 0, .v (.slice none 0 0)] 2 1) := hD1.row (upd_same _ _ _)
    have hD : Drop σ1 σ := hD1.trans ((Drop.refl σ).upd hb2)
    have hG := hG1.down ((Drop.refl σ).upd hb2)
    have ho1 := hG.oneX
    simp only [go_sem, xQ, ↓reduceIte, xA, xM, xL, xT, xE, xN, xP, xR, xS, h, s2, ho1]
    intro b4 hb4
    have n4 := nn hb4 s2
    have n4' : ¬ b4 = b2 := fun e => n4 e.symm
    have z4 := hD.free hb4
    have hw : IntKind.i64.wrap ((f.nodes.length : Int) - 1) = (f.nodes.length : Int) - 1 := wrap_i64 _ (by omega) (by omega)
    simp only [go_sem, xQ, ↓reduceIte, xA, xM, xL, xT, xE, xN, xP, xR, xS, h, s2, n4, n4', hw, ho1]
    refine appB_sl (appT_sl el58 tk138 by138 el58 (by decide) rfl (by decide)) (by repeat (first | exact hD | refine Drop.upd ?_ z4)) (m := f.nodes.length) (cs := f.nodes.flatMap ndC) (by repeat (first | exact hG | refine Grow.updW ?_ (hG.neN hb4) _)) rfl rfl (by omega) (fun a' σ2 hD2 hO hG2 => ?_)
    have e2 : σ2 b2 = some (.row [int 0, .v (.slice none 0 0)] 2 1) := by
      rw [hO b2 (hG.neS s2 (by decide)) (by simp [upd, n4, s2])]; simp [upd, n4, s2]
    have e4 : σ2 b4 = some (.row [int f.vars, a] 2 1) := by
      rw [hO b4 (hG.neN hb4) (by simp [upd])]; simp [upd, int]
    have hcx := hG2.cellsX
    have hox := hG2.oneX
    simp only [go_sem, xQ, ↓reduceIte, xA, xM, xL, xT, xE, xN, xP, xR, xS, h, e2, e4, n4, n4', hcx, hox]
    have hG3 := hG2.updW (hG2.neS e4 (by decide)) (some (.row [int f.vars, a'] 2 1))
    have hG4 := hG3.updW (hG2.neS e2 (by decide)) (some (.row [int f.vars, a'] 2 1))
    refine ⟨.tup (.cons (.agg (.cons (.refl _) (.cons ?_ .nil))) (.cons (.refl _) .nil)), (hD2.upd z4).upd hb2⟩
    have e : slN (rOppF f).nodes = .sl ((f.nodes.flatMap ndC) ++ [int 2, .sl [] 0, int 0, .sl [int ((f.nodes.length : Int) - 1)] 1]) (f.nodes.length + 1) := by simp [rOppF, slN, ndC, slI, int, ints]
    show Fz _ σ a' (slN (rOppF f).nodes)
    rw [e]
    refine Grow.fzl hG4 (by simp) (FzL.app (FzL.refl _) ?_)
    exact .cons (.refl _) (.cons .nil (.cons (.refl _) (.cons (.refl _) .nil)))
/-! ### Joined -/
def rJoinN (op : Int) (f g : Fm) : List Nd := f.nodes ++ g.nodes.map (shiftN f.nodes.length) ++ [⟨op, ⟨[], 0⟩, [(f.nodes.length : Int) - 1, (f.nodes.length : Int) + g.nodes.length - 1]⟩]
def rJoin (op : Int) (f g : Fm) : Fm × Int := if f.vars = g.vars then (if 200 < (f.nodes.length : Int) + g.nodes.length + 1 then (fm0, 5) else (⟨f.vars, rJoinN op f g⟩, 0)) else (fm0, 2)
/-- Kids, of which the first ones are moved. -/
def mvK (m : Nat) (l : List Int) (j : Nat) : List Int := (l.take j).map (fun k => IntKind.i64.wrap (k + (m : Int))) ++ l.drop j
theorem mvK_len (m : Nat) (l : List Int) (j : Nat) : (mvK m l j).length = l.length := by simp [mvK]; omega
theorem mvK_get {m : Nat} {l : List Int} {j : Nat} {x : Int} (h : l[j]? = some x) : (mvK m l j)[j]? = some x := by
  have := lt_of_getElem? h
  rw [mvK, List.getElem?_append_right (by simp; omega)]
  simp [Nat.min_eq_left (Nat.le_of_lt this), h]
theorem mvK_set {m : Nat} {l : List Int} {j : Nat} {x : Int} (h : l[j]? = some x) : (mvK m l j).set j (IntKind.i64.wrap (x + (m : Int))) = mvK m l (j + 1) := by
  have hj := lt_of_getElem? h
  have hlen : ((l.take j).map (fun k => IntKind.i64.wrap (k + (m : Int)))).length = j := by simp; omega
  rw [mvK, mvK, take_succ h, drop_of_get h, List.map_append, List.set_append_right _ _ (by omega), hlen, Nat.sub_self, List.set_cons_zero, List.append_assoc]
  rfl
@[reducible] noncomputable def p69z (Γ : Glob) : Par := par Γ [6, 8, 10] [(1000012, [true])] [(11, [0, 1, 0, 0, 8, 0, 56, 120, 0, 256, 768, 2040, 4095, 8191])]
theorem ok69z (Γ : Glob) : FnOk (p69z Γ) 69 85 (Tryz.f69.body.getD .skip) Tryz.f69.results.toList 3 := fnOk (par_mixed _ _ _ _) Tryz.func69 rfl rfl rfl (by kernel_rfl) (Nat.le_of_ble_eq_true rfl) (by kernel_rfl)
set_option maxHeartbeats 2000000 in
set_option maxRecDepth 20000 in
theorem f69 (op : Int) (f g : Fm) (hl : f.nodes.length ≤ 1000000) (hc : ∀ n ∈ f.nodes, NdFit n) (hl2 : g.nodes.length ≤ 1000000) (hc2 : ∀ n ∈ g.nodes, NdFit n) : PCalls Tryz.prog Γ 69 [int op, fmA f, fmA g] (.tup [fmA (rJoin op f g).1, int (rJoin op f g).2]) := by
  refine pcalls (ok69z Γ) fun σ => ?_
  simp only [go_sem, xQ, ↓reduceIte, xA, xM, xL, xT, xE, xN, xP, xR, xS, Tryz.f69]
  intro b6 hb6
  simp only [go_sem, xQ, ↓reduceIte, xA, xM, xL, xT, xE, xN, xP, xR, xS]
  by_cases h : f.vars = g.vars
  · have hT := eq_true h
    have hr : rJoin op f g = if 200 < (f.nodes.length : Int) + g.nodes.length + 1 then (fm0, 5) else (⟨f.vars, rJoinN op f g⟩, 0) := if_pos h
    simp only [go_sem, xQ, ↓reduceIte, xA, xM, xL, xT, xE, xN, xP, xR, xS, hT]
    refine callB_a (f166o f hl hc fun a0 σ1 hD0 hG0 => ?_) rfl
    have s6 : σ1 b6 = some (.row [int 0, .v (.slice none 0 0)] 2 1) := hD0.row (upd_same _ _ _)
    have hDA : Drop σ1 σ := hD0.trans ((Drop.refl σ).upd hb6)
    have hGA := hG0.down ((Drop.refl σ).upd hb6)
    have hoA := hGA.oneX
    simp only [go_sem, xQ, ↓reduceIte, xA, xM, xL, xT, xE, xN, xP, xR, xS, hT, s6, hoA]
    intro b8 hb8
    have n86' := nn hb8 s6
    have n86 : ¬ b8 = b6 := fun e => n86' e.symm
    have z8 := hDA.free hb8
    have hneA := hGA.neN hb8
    simp only [go_sem, xQ, ↓reduceIte, xA, xM, xL, xT, xE, xN, xP, xR, xS, hT, s6, n86, n86', hoA]
    refine SemC.loopK mixed g.nodes.length (fun k ρ σ' ds => ds = [] ∧ (ρ 0 = int op ∧ ρ 4 = .pp (fmC f) 0 ∧ ρ 5 = .pp (fmC g) 0 ∧ ρ 6 = .v (.pointer (some ⟨b6, 0, none⟩)) ∧ ρ 8 = .v (.pointer (some ⟨b8, 0, none⟩))) ∧ ρ 9 = int k ∧ σ' b6 = some (.row [int 0, .v (.slice none 0 0)] 2 1) ∧ Drop σ' σ ∧
      ∃ a, σ' b8 = some (.row [int f.vars, a] 2 1) ∧ Grow σ σ' 4 a ((f.nodes ++ (g.nodes.take k).map (shiftN f.nodes.length)).flatMap ndC) (f.nodes.length + k)) (by kernel_rfl) ?_ ?_
    · refine ⟨rfl, by simp only [go_sem, xQ, ↓reduceIte, xA, xM, xL, xT, xE, xN, xP, xR, xS, hT], rfl, by simp only [go_sem, xQ, ↓reduceIte, xA, xM, xL, xT, xE, xN, xP, xR, xS, n86, n86', s6], by repeat (first | exact hDA | refine Drop.upd ?_ z8), a0, by simp only [go_sem, xQ, ↓reduceIte, xA, xM, xL, xT, xE, xN, xP, xR, xS, hT], ?_⟩
      simp only [List.take_zero, List.map_nil, List.append_nil, Nat.add_zero]
      repeat (first | exact hGA | refine Grow.updW ?_ hneA _)
    rintro k ρ σ' ds hk ⟨rfl, H0, h9, hs6, hD, a, hs8, hG⟩
    rcases get_or_end g.nodes k hk with ⟨x, hx, hlt, hd⟩ | hk
    · have hxf := hc2 x (mem_of_get hx)
      simp only [go_sem, xQ, ↓reduceIte, xA, xM, xL, xT, xE, xN, xP, xR, xS, H0, h9, hlt, ↓nd_part hx]
      refine callB_a (f167o x hxf fun ak σ1' hD1' hG1' => ?_) rfl
      have t6 : σ1' b6 = some (.row [int 0, .v (.slice none 0 0)] 2 1) := hD1'.row hs6
      have t8 : σ1' b8 = some (.row [int f.vars, a] 2 1) := hD1'.row hs8
      have hDB : Drop σ1' σ := hD1'.trans hD
      have hGB : Grow σ σ1' 4 a ((f.nodes ++ (g.nodes.take k).map (shiftN f.nodes.length)).flatMap ndC) (f.nodes.length + k) := by
        rcases hG with hG | ⟨bb, cc, q0, q1, q2, q3⟩
        · exact .inl hG
        · exact .inr ⟨bb, cc, q0, q1, hD1'.row q2, q3⟩
      have hob := hG1'.oneX
      simp only [go_sem, xQ, ↓reduceIte, xA, xM, xL, xT, xE, xN, xP, xR, xS, H0, h9, hlt, ↓nd_part hx, hob]
      intro b10 hb10
      have m6 := nn hb10 t6
      have m8 := nn hb10 t8
      have m6' : ¬ b10 = b6 := fun e => m6 e.symm
      have m8' : ¬ b10 = b8 := fun e => m8 e.symm
      have z10 := hDB.free hb10
      have hne10 := hGB.neN hb10
      have hnek := hG1'.neN hb10
      simp only [go_sem, xQ, ↓reduceIte, xA, xM, xL, xT, xE, xN, xP, xR, xS, H0, h9, hlt, ↓nd_part hx, m6, m8, m6', m8', t6, t8, hob]
      rcases hG1' with ⟨hak, hkn, hkl⟩ | ⟨bk, ck, rfl, zk, qk, _⟩
      · have hkn' : x.kids = [] := by
          have := congrArg List.length hkn
          rw [ints_len] at this
          exact List.eq_nil_of_length_eq_zero (by simpa using this)
        have hlen0 : ∃ q, Fz q σ' ak (.sl [] 0) := ⟨σ', by rcases hak with rfl | rfl; exact .nil; exact .e0⟩
        have hsh : ndC (shiftN f.nodes.length x) = [int x.kind, slI x.term.coeffs, int x.term.const, .sl [] 0] := by rw [shiftN, hkn']; rfl
        have hDz : Drop (upd σ1' b10 (some (.row [int x.kind, slI x.term.coeffs, int x.term.const, ak] 4 1))) (ers (upd σ1' b10 (some (.row [int x.kind, slI x.term.coeffs, int x.term.const, ak] 4 1))) b10) := Drop.ers _ _
        have hD1 : Drop (ers (upd σ1' b10 (some (.row [int x.kind, slI x.term.coeffs, int x.term.const, ak] 4 1))) b10) σ := (hDB.upd z10).ersX z10
        have hG1 : Grow σ (ers (upd σ1' b10 (some (.row [int x.kind, slI x.term.coeffs, int x.term.const, ak] 4 1))) b10) 4 a ((f.nodes ++ (g.nodes.take k).map (shiftN f.nodes.length)).flatMap ndC) (f.nodes.length + k) := by
          rw [ers_upd]
          exact (hGB.updW hne10 _).updW hne10 _
        have hFk : ∀ q, Fz q (ers (upd σ1' b10 (some (.row [int x.kind, slI x.term.coeffs, int x.term.const, ak] 4 1))) b10) ak (.sl [] 0) := fun q => by rcases hak with rfl | rfl; exact .nil; exact .e0
        refine SemC.loopK mixed 0 (fun j ρ σ2 ds => ds = [] ∧ (ρ 0 = int op ∧ ρ 4 = .pp (fmC f) 0 ∧ ρ 5 = .pp (fmC g) 0 ∧ ρ 6 = .v (.pointer (some ⟨b6, 0, none⟩)) ∧ ρ 8 = .v (.pointer (some ⟨b8, 0, none⟩)) ∧ ρ 9 = int k ∧ ρ 10 = .v (.pointer (some ⟨b10, 0, none⟩))) ∧ ρ 11 = int 0 ∧ σ2 = upd σ1' b10 (some (.row [int x.kind, slI x.term.coeffs, int x.term.const, ak] 4 1))) (by kernel_rfl) ?_ ?_
        · exact ⟨rfl, by simp only [go_sem, xQ, ↓reduceIte, xA, xM, xL, xT, xE, xN, xP, xR, xS, H0, h9], rfl, by simp only [go_sem, xQ, ↓reduceIte, xA, xM, xL, xT, xE, xN, xP, xR, xS, upd_upd, putL]⟩
        rintro j ρ σ2 ds hj ⟨rfl, H, h11, rfl⟩
        generalize hs3 : (ers (upd σ1' b10 (some (.row [int x.kind, slI x.term.coeffs, int x.term.const, ak] 4 1))) b10) = σ3 at hDz hD1 hG1 hFk
        rcases hak with rfl | rfl
        · simp only [go_sem, xQ, ↓reduceIte, xA, xM, xL, xT, xE, xN, xP, xR, xS, H, h11, Nat.lt_irrefl, hkn']
          have g6 : σ3 b6 = some (.row [int 0, .v (.slice none 0 0)] 2 1) := by rw [← hs3, ers_ne _ _ _ m6, upd_ne _ _ _ _ m6]; exact t6
          have g8 : σ3 b8 = some (.row [int f.vars, a] 2 1) := by rw [← hs3, ers_ne _ _ _ m8, upd_ne _ _ _ _ m8]; exact t8
          refine frzB_val 10 (σ' := σ3) (r := .pp (ndC (shiftN f.nodes.length x)) 0) ?_ ?_ ?_
          · exact hDz
          · simp only [go_sem, xQ, ↓reduceIte, xA, xM, xL, xT, xE, xN, xP, xR, xS, H]; exact .ptr (upd_same _ _ _) (by rw [← hs3]; exact ers_same _ _) (by show FzL _ _ _ (ndC (shiftN f.nodes.length x)); rw [hsh]; exact .cons (.refl _) (.cons (.refl _) (.cons (.refl _) (.cons (hFk _) .nil))))
          simp only [go_sem, xQ, ↓reduceIte, xA, xM, xL, xT, xE, xN, xP, xR, xS, H, g6, g8]
          refine appB_sl (appT_sl el58 tk138 by138 el58 (by decide) rfl (by decide)) hD1 hG1 rfl rfl (by omega) (fun a' σ4 hD4 hO4 hG4 => ?_)
          have w6 : σ4 b6 = some (.row [int 0, .v (.slice none 0 0)] 2 1) := by rw [hO4 b6 (hG1.neS g6 (by decide)) (by simp [g6]), g6]
          have w8 : σ4 b8 = some (.row [int f.vars, a] 2 1) := by rw [hO4 b8 (hG1.neS g8 (by decide)) (by simp [g8]), g8]
          have hc2 := hG4.cellsX
          have ho2 := hG4.oneX
          simp only [go_sem, xQ, ↓reduceIte, xA, xM, xL, xT, xE, xN, xP, xR, xS, H, w6, w8, hc2, ho2, n86, n86', hlt]
          refine ⟨by rw [wrap_succ _ (by omega)], hD4.upd z8, a', by simp only [go_sem, xQ, ↓reduceIte, xA, xM, xL, xT, xE, xN, xP, xR, xS, upd_same], ?_⟩
          rw [take_succ hx, List.map_append, ← List.append_assoc, List.flatMap_append]
          have := hG4.updW (hG4.neS w8 (by decide)) (some (.row [int f.vars, a'] 2 1))
          simpa [ndC, slI, int, ints, Nat.add_assoc] using this
        · simp only [go_sem, xQ, ↓reduceIte, xA, xM, xL, xT, xE, xN, xP, xR, xS, H, h11, Nat.lt_irrefl, hkn']
          have g6 : σ3 b6 = some (.row [int 0, .v (.slice none 0 0)] 2 1) := by rw [← hs3, ers_ne _ _ _ m6, upd_ne _ _ _ _ m6]; exact t6
          have g8 : σ3 b8 = some (.row [int f.vars, a] 2 1) := by rw [← hs3, ers_ne _ _ _ m8, upd_ne _ _ _ _ m8]; exact t8
          refine frzB_val 10 (σ' := σ3) (r := .pp (ndC (shiftN f.nodes.length x)) 0) ?_ ?_ ?_
          · exact hDz
          · simp only [go_sem, xQ, ↓reduceIte, xA, xM, xL, xT, xE, xN, xP, xR, xS, H]; exact .ptr (upd_same _ _ _) (by rw [← hs3]; exact ers_same _ _) (by show FzL _ _ _ (ndC (shiftN f.nodes.length x)); rw [hsh]; exact .cons (.refl _) (.cons (.refl _) (.cons (.refl _) (.cons (hFk _) .nil))))
          simp only [go_sem, xQ, ↓reduceIte, xA, xM, xL, xT, xE, xN, xP, xR, xS, H, g6, g8]
          refine appB_sl (appT_sl el58 tk138 by138 el58 (by decide) rfl (by decide)) hD1 hG1 rfl rfl (by omega) (fun a' σ4 hD4 hO4 hG4 => ?_)
          have w6 : σ4 b6 = some (.row [int 0, .v (.slice none 0 0)] 2 1) := by rw [hO4 b6 (hG1.neS g6 (by decide)) (by simp [g6]), g6]
          have w8 : σ4 b8 = some (.row [int f.vars, a] 2 1) := by rw [hO4 b8 (hG1.neS g8 (by decide)) (by simp [g8]), g8]
          have hc2 := hG4.cellsX
          have ho2 := hG4.oneX
          simp only [go_sem, xQ, ↓reduceIte, xA, xM, xL, xT, xE, xN, xP, xR, xS, H, w6, w8, hc2, ho2, n86, n86', hlt]
          refine ⟨by rw [wrap_succ _ (by omega)], hD4.upd z8, a', by simp only [go_sem, xQ, ↓reduceIte, xA, xM, xL, xT, xE, xN, xP, xR, xS, upd_same], ?_⟩
          rw [take_succ hx, List.map_append, ← List.append_assoc, List.flatMap_append]
          have := hG4.updW (hG4.neS w8 (by decide)) (some (.row [int f.vars, a'] 2 1))
          simpa [ndC, slI, int, ints, Nat.add_assoc] using this
      · have nk6 : ¬ b6 = bk := rn t6 qk (by decide)
        have nk8 : ¬ b8 = bk := rn t8 qk (by decide)
        have nk10 : ¬ b10 = bk := fun e => by rw [e, qk] at hb10; cases hb10
        have nk10' : ¬ bk = b10 := fun e => nk10 e.symm
        have zk' : σ bk = none := hD.free zk
        have hneK := hGB.neS qk (by decide)
        refine SemC.loopK mixed x.kids.length (fun j ρ σ2 ds => ds = [] ∧ (ρ 0 = int op ∧ ρ 4 = .pp (fmC f) 0 ∧ ρ 5 = .pp (fmC g) 0 ∧ ρ 6 = .v (.pointer (some ⟨b6, 0, none⟩)) ∧ ρ 8 = .v (.pointer (some ⟨b8, 0, none⟩)) ∧ ρ 9 = int k ∧ ρ 10 = .v (.pointer (some ⟨b10, 0, none⟩))) ∧ ρ 11 = int j ∧ σ2 = upd (upd σ1' b10 (some (.row [int x.kind, slI x.term.coeffs, int x.term.const, .own bk 1 0 x.kids.length] 4 1))) bk (some (.row (ints (mvK f.nodes.length x.kids j)) 1 ck))) (by kernel_rfl) ?_ ?_
        · refine ⟨rfl, by simp only [go_sem, xQ, ↓reduceIte, xA, xM, xL, xT, xE, xN, xP, xR, xS, H0, h9], rfl, ?_⟩
          have : mvK f.nodes.length x.kids 0 = x.kids := by simp [mvK]
          rw [this]
          funext i
          by_cases e : i = bk
          · subst e; rw [upd_same]; simp [upd, nk10', qk]
          · rw [upd_ne _ _ _ _ e]; simp [upd_upd, putL]; rfl
        rintro j ρ σ2 ds hj ⟨rfl, H, h11, rfl⟩
        rcases get_or_end x.kids j hj with ⟨y, hy, hlt2, hdd⟩ | hjj
        · have hgy : (mvK f.nodes.length x.kids j)[j]? = some y := mvK_get hy
          have hjl : j < (mvK f.nodes.length x.kids j).length := by rw [mvK_len]; exact hlt2
          have hput := fun z => ints_put' (l := mvK f.nodes.length x.kids j) (k := j) (x := z) hjl
          have hset := mvK_set (m := f.nodes.length) hy
          have hkl2 : (mvK f.nodes.length x.kids j).length = x.kids.length := mvK_len _ _ _
          have hjl2 : j + 1 ≤ x.kids.length := hlt2
          simp only [go_sem, xQ, ↓reduceIte, xA, xM, xL, xT, xE, xN, xP, xR, xS, H, h11, hlt2, hgy, nk10, nk10', ints_len, hkl2, hjl2, ↓hput]
          exact ⟨by rw [wrap_succ _ (by have := hxf.2; omega)], by rw [hset]⟩
        · subst hjj
          have hmv : mvK f.nodes.length x.kids x.kids.length = (shiftN f.nodes.length x).kids := by simp [mvK, shiftN]
          have hDz : Drop (upd (upd σ1' b10 (some (.row [int x.kind, slI x.term.coeffs, int x.term.const, .own bk 1 0 x.kids.length] 4 1))) bk (some (.row (ints (mvK f.nodes.length x.kids x.kids.length)) 1 ck))) (ers (ers (upd (upd σ1' b10 (some (.row [int x.kind, slI x.term.coeffs, int x.term.const, .own bk 1 0 x.kids.length] 4 1))) bk (some (.row (ints (mvK f.nodes.length x.kids x.kids.length)) 1 ck))) b10) bk) := Drop.trans (Drop.ers _ b10) (Drop.ers _ bk)
          have hD1 : Drop (ers (ers (upd (upd σ1' b10 (some (.row [int x.kind, slI x.term.coeffs, int x.term.const, .own bk 1 0 x.kids.length] 4 1))) bk (some (.row (ints (mvK f.nodes.length x.kids x.kids.length)) 1 ck))) b10) bk) σ := (((hDB.upd z10).upd zk').ersX z10).ersX zk'
          have hG1 : Grow σ (ers (ers (upd (upd σ1' b10 (some (.row [int x.kind, slI x.term.coeffs, int x.term.const, .own bk 1 0 x.kids.length] 4 1))) bk (some (.row (ints (mvK f.nodes.length x.kids x.kids.length)) 1 ck))) b10) bk) 4 a ((f.nodes ++ (g.nodes.take k).map (shiftN f.nodes.length)).flatMap ndC) (f.nodes.length + k) := by
            rw [ers_upd, ers_upd]
            exact (((hGB.updW hne10 _).updW hneK _).updW hne10 _).updW hneK _
          have hFk : Fz (upd (upd σ1' b10 (some (.row [int x.kind, slI x.term.coeffs, int x.term.const, .own bk 1 0 x.kids.length] 4 1))) bk (some (.row (ints (mvK f.nodes.length x.kids x.kids.length)) 1 ck))) (ers (ers (upd (upd σ1' b10 (some (.row [int x.kind, slI x.term.coeffs, int x.term.const, .own bk 1 0 x.kids.length] 4 1))) bk (some (.row (ints (mvK f.nodes.length x.kids x.kids.length)) 1 ck))) b10) bk) (.own bk 1 0 x.kids.length) (slI (shiftN f.nodes.length x).kids) := by
            have := frz_own (n := x.kids.length) (σ' := ers (ers (upd (upd σ1' b10 (some (.row [int x.kind, slI x.term.coeffs, int x.term.const, .own bk 1 0 x.kids.length] 4 1))) bk (some (.row (ints (mvK f.nodes.length x.kids x.kids.length)) 1 ck))) b10) bk) (upd_same (upd σ1' b10 (some (.row [int x.kind, slI x.term.coeffs, int x.term.const, .own bk 1 0 x.kids.length] 4 1))) bk (some (.row (ints (mvK f.nodes.length x.kids x.kids.length)) 1 ck))) (by rw [ints_len, mvK_len]; simp) (ers_same _ _)
            have e : slI (shiftN f.nodes.length x).kids = .sl (ints (mvK f.nodes.length x.kids x.kids.length)) x.kids.length := by
              rw [← hmv]
              show AV.sl _ (mvK f.nodes.length x.kids x.kids.length).length = _
              rw [mvK_len]
            rw [e]
            exact this
          have hbz : upd (upd σ1' b10 (some (.row [int x.kind, slI x.term.coeffs, int x.term.const, .own bk 1 0 x.kids.length] 4 1))) bk (some (.row (ints (mvK f.nodes.length x.kids x.kids.length)) 1 ck)) b10 = some (.row [int x.kind, slI x.term.coeffs, int x.term.const, .own bk 1 0 x.kids.length] 4 1) := by rw [upd_ne _ _ _ _ nk10]; exact upd_same _ _ _
          simp only [go_sem, xQ, ↓reduceIte, xA, xM, xL, xT, xE, xN, xP, xR, xS, H, h11, Nat.lt_irrefl, nk10, nk10']
          generalize hs3 : (ers (ers (upd (upd σ1' b10 (some (.row [int x.kind, slI x.term.coeffs, int x.term.const, .own bk 1 0 x.kids.length] 4 1))) bk (some (.row (ints (mvK f.nodes.length x.kids x.kids.length)) 1 ck))) b10) bk) = σ3 at hDz hD1 hG1 hFk
          have g6 : σ3 b6 = some (.row [int 0, .v (.slice none 0 0)] 2 1) := by rw [← hs3, ers_ne _ _ _ nk6, ers_ne _ _ _ m6, upd_ne _ _ _ _ nk6, upd_ne _ _ _ _ m6]; exact t6
          have g8 : σ3 b8 = some (.row [int f.vars, a] 2 1) := by rw [← hs3, ers_ne _ _ _ nk8, ers_ne _ _ _ m8, upd_ne _ _ _ _ nk8, upd_ne _ _ _ _ m8]; exact t8
          refine frzB_val 10 (σ' := σ3) (r := .pp (ndC (shiftN f.nodes.length x)) 0) ?_ ?_ ?_
          · exact hDz
          · simp only [go_sem, xQ, ↓reduceIte, xA, xM, xL, xT, xE, xN, xP, xR, xS, H]; exact .ptr hbz (by rw [← hs3, ers_ne _ _ _ nk10]; exact ers_same _ _) (.cons (.refl _) (.cons (.refl _) (.cons (.refl _) (.cons hFk .nil))))
          simp only [go_sem, xQ, ↓reduceIte, xA, xM, xL, xT, xE, xN, xP, xR, xS, H, g6, g8]
          refine appB_sl (appT_sl el58 tk138 by138 el58 (by decide) rfl (by decide)) hD1 hG1 rfl rfl (by omega) (fun a' σ4 hD4 hO4 hG4 => ?_)
          have w6 : σ4 b6 = some (.row [int 0, .v (.slice none 0 0)] 2 1) := by rw [hO4 b6 (hG1.neS g6 (by decide)) (by simp [g6]), g6]
          have w8 : σ4 b8 = some (.row [int f.vars, a] 2 1) := by rw [hO4 b8 (hG1.neS g8 (by decide)) (by simp [g8]), g8]
          have hc2 := hG4.cellsX
          have ho2 := hG4.oneX
          simp only [go_sem, xQ, ↓reduceIte, xA, xM, xL, xT, xE, xN, xP, xR, xS, H, w6, w8, hc2, ho2, n86, n86', hlt]
          refine ⟨by rw [wrap_succ _ (by omega)], hD4.upd z8, a', by simp only [go_sem, xQ, ↓reduceIte, xA, xM, xL, xT, xE, xN, xP, xR, xS, upd_same], ?_⟩
          rw [take_succ hx, List.map_append, ← List.append_assoc, List.flatMap_append]
          have := hG4.updW (hG4.neS w8 (by decide)) (some (.row [int f.vars, a'] 2 1))
          simpa [ndC, slI, int, ints, Nat.add_assoc] using this
    · subst hk
      rw [List.take_length] at hG
      have hwa : IntKind.i64.wrap ((f.nodes.length : Int) - 1) = (f.nodes.length : Int) - 1 := wrap_i64 _ (by omega) (by omega)
      have hwb : IntKind.i64.wrap ((f.nodes.length : Int) + g.nodes.length) = (f.nodes.length : Int) + g.nodes.length := wrap_i64 _ (by omega) (by omega)
      have hwc : IntKind.i64.wrap ((f.nodes.length : Int) + g.nodes.length - 1) = (f.nodes.length : Int) + g.nodes.length - 1 := wrap_i64 _ (by omega) (by omega)
      simp only [go_sem, xQ, ↓reduceIte, xA, xM, xL, xT, xE, xN, xP, xR, xS, H0, h9, Nat.lt_irrefl, hs6, hs8, hwa, hwb, hwc]
      refine appB_sl (appT_sl el58 tk138 by138 el58 (by decide) rfl (by decide)) hD hG rfl rfl (by omega) (fun a' σ2 hD2 hO hG2 => ?_)
      have e6 : σ2 b6 = some (.row [int 0, .v (.slice none 0 0)] 2 1) := by
        rw [hO b6 (hG.neS hs6 (by decide)) (by simp [hs6]), hs6]
      have e8 : σ2 b8 = some (.row [int f.vars, a] 2 1) := by
        rw [hO b8 (hG.neS hs8 (by decide)) (by simp [hs8]), hs8]
      have hcx := hG2.cellsX
      have hox := hG2.oneX
      have hG3 := hG2.updW (hG2.neS e8 (by decide)) (some (.row [int f.vars, a'] 2 1))
      have hne6 := hG2.neS e6 (by decide)
      obtain ⟨ba, ca, ea, hba⟩ := hG3.own_of (by simp)
      subst ea
      rw [hr]
      by_cases h5 : 200 < (f.nodes.length : Int) + g.nodes.length + 1
      · have h5' : (200 : Int) < ((f.nodes.length + g.nodes.length + 1 : Nat) : Int) := by omega
        rw [if_pos h5]
        simp only [go_sem, xQ, ↓reduceIte, xA, xM, xL, xT, xE, xN, xP, xR, xS, H0, e6, e8, hcx, hox, n86, n86', h5', fm0]
        exact ⟨.tup (.cons (.agg (.cons (.refl _) (.cons .nil .nil))) (.cons (.refl _) .nil)), (hD2.upd z8).upd hb6⟩
      · have h5' : ¬ (200 : Int) < ((f.nodes.length + g.nodes.length + 1 : Nat) : Int) := by omega
        rw [if_neg h5]
        simp only [go_sem, xQ, ↓reduceIte, xA, xM, xL, xT, xE, xN, xP, xR, xS, H0, e6, e8, hcx, hox, n86, n86', h5']
        have hG4 := hG3.updW (hG3.neS (s' := 2) (b := b6) (cs' := [int 0, .v (.slice none 0 0)]) (c' := 1) (by rw [upd_ne _ _ _ _ n86']; exact e6) (by decide)) (some (.row [int f.vars, .own ba 4 0 (f.nodes.length + g.nodes.length + 1)] 2 1))
        refine ⟨.tup (.cons (.agg (.cons (.refl _) (.cons ?_ .nil))) (.cons (.refl _) .nil)), (hD2.upd z8).upd hb6⟩
        have e : slN (rJoinN op f g) = .sl (((f.nodes ++ g.nodes.map (shiftN f.nodes.length)).flatMap ndC) ++ [int op, .sl [] 0, int 0, .sl [int ((f.nodes.length : Int) - 1), int ((f.nodes.length : Int) + g.nodes.length - 1)] 2]) (f.nodes.length + g.nodes.length + 1) := by simp [rJoinN, slN, ndC, slI, int, ints, Nat.add_assoc]
        show Fz _ σ _ (slN (rJoinN op f g))
        rw [e]
        refine Grow.fzl hG4 (by simp) (FzL.app (FzL.refl _) ?_)
        exact .cons (.refl _) (.cons .nil (.cons (.refl _) (.cons (.refl _) .nil)))
  · have hr : rJoin op f g = (fm0, 2) := if_neg h
    rw [hr]
    simp only [go_sem, xQ, ↓reduceIte, xA, xM, xL, xT, xE, xN, xP, xR, xS, h, fm0]
    exact ⟨.tup (.cons (.agg (.cons (.refl _) (.cons .nil .nil))) (.cons (.refl _) .nil)), by repeat (first | exact Drop.refl _ | assumption | refine Drop.upd ?_ (by assumption))⟩
end Go.AL
