/- Cases. -/
import Derived.Test.YtjimmpldofoimaaGreatDoorVa
import Derived.Test.YtjimmpldofoimaaGreatDoorX15
import Derived.Test.YtjimmpldofoimaaGreatDoorXc
import Derived.Lib.ItoaLen
open Nat renaming reduceEqDiff → xQ, reduceAdd → xA, reduceMul → xM, reduceLeDiff → xL
open Int renaming reduceLT → xT, reduceLE → xE, reduceToNat → xN
open Go.AL renaming retPost_one → xP, retPost_oneN → xR, ers_at' → xS
set_option linter.unusedVariables false
set_option linter.unusedSimpArgs false
namespace Go.AL
open Go.Proofs
variable {Γ : Glob}
attribute [local irreducible] codeW opsW dopsW
@[reducible] noncomputable def p49z (Γ : Glob) : Par := par Γ [5, 22, 33] [] []
theorem ok49z (Γ : Glob) : FnOk (p49z Γ) 49 43 (Tryz.f49.body.getD .skip) Tryz.f49.results.toList 1 := fnOk (par_mixed _ _ _ _) Tryz.func49 rfl rfl rfl (by kernel_rfl) (Nat.le_of_ble_eq_true rfl) (by kernel_rfl)
theorem casesAt (f : Fm) (hl : Fits f.nodes.length) (hc : ∀ n ∈ f.nodes, NdFit n) (hok : ∀ k n, f.nodes[k]? = some n → NodeOk n k f.vars) (bc bm : Nat) : ∀ (N i : Nat), i < N → i < f.nodes.length → CasesAt Γ f bc bm i
  | 0, _, h, _ => by omega
  | N + 1, i, hi, hil => f147 f bc bm i (f224 f hl hc hok bc bm i (f.nodes[i]) (List.getElem?_eq_getElem hil) fun j hj => casesAt f hl hc hok bc bm N j (by omega) (by omega))
def rootW (f : Fm) : WayT := ((f.nodes.length : Int) - 1, false)
def casesR (f : Fm) : List (List Tm) × Int :=
  if checkE f = 0 then (if badW f.nodes (rootW f) then ([], 30) else if larW f.nodes (rootW f) then ([], 4) else (casW f.nodes (rootW f), 0)) else ([], checkE f)
theorem f49 (hG : Γ 0 = some sortsT) (hG2 : Γ 2 = some [int 0, int 0]) (f : Fm) (hl : Fits f.nodes.length) (hc : ∀ n ∈ f.nodes, NdFit n) : PCalls Tryz.prog Γ 49 [fmA f] (.tup [slC (casesR f).1, int (casesR f).2]) := by
  refine pcalls (ok49z Γ) fun σ => ?_
  simp only [go_sem, xQ, ↓reduceIte, xA, xM, xL, xT, xE, xN, xP, xR, xS, Tryz.f49]
  refine callB_use (f47 hG f hl hc) rfl ?_
  simp only [go_sem, xQ, ↓reduceIte, xA, xM, xL, xT, xE, xN, xP, xR, xS]
  by_cases h : checkE f = 0
  · obtain ⟨hne, hl200, hv0, hv8, hok⟩ := check_ok h
    have hd := hdown hok
    have hpos : 0 < f.nodes.length := List.length_pos_iff.2 hne
    have hroot : rootW f = (((f.nodes.length - 1 : Nat) : Int), false) := by rw [rootW]; congr 1; omega
    have hw : IntKind.i64.wrap ((f.nodes.length : Int) - 1) = ((f.nodes.length - 1 : Nat) : Int) := by rw [wrap_i64 _ (by omega) (by omega)]; omega
    have hn : f.nodes[f.nodes.length - 1]? = some f.nodes[f.nodes.length - 1] := List.getElem?_eq_getElem (by omega)
    simp only [go_sem, xQ, ↓reduceIte, xA, xM, xL, xT, xE, xN, xP, xR, xS, h, hw]
    intro b5 hb5
    simp only [go_sem, xQ, ↓reduceIte, xA, xM, xL, xT, xE, xN, xP, xR, xS, h, hw]
    intro bm hbm
    obtain ⟨n5m, hbm⟩ := un hbm
    have n5m' : ¬ b5 = bm := fun e => n5m e.symm
    simp only [go_sem, xQ, ↓reduceIte, xA, xM, xL, xT, xE, xN, xP, xR, xS, h, hw, n5m, n5m']
    intro bc hbc
    obtain ⟨ncm, hbc⟩ := un hbc
    obtain ⟨nc5, hbc⟩ := un hbc
    have ncm' : ¬ bm = bc := fun e => ncm e.symm
    have nc5' : ¬ b5 = bc := fun e => nc5 e.symm
    simp only [go_sem, xQ, ↓reduceIte, xA, xM, xL, xT, xE, xN, xP, xR, xS, h, hw, n5m, n5m', ncm, ncm', nc5, nc5']
    refine callB_a (f146 f hG2 hl hc hok bc bm f.nodes.length (f.nodes.length - 1) false _ [] false _ _ (by omega) hn (upd_same _ _ _) (by rw [upd_ne _ _ _ _ ncm', upd_same]; rfl) (fun p hp => by cases hp) ?_) rfl
    intro m1 bad1 σ1 hm1 u1 u2 u3 u4 qc qm hF
    rw [← hroot] at u2 u3
    have qc' : σ1 bc = some (.row [int f.vars, slN f.nodes, .v (.map (some bm)), .v (.bool bad1)] 4 1) := qc
    have q5 : σ1 b5 = some (.row [int ((f.nodes.length - 1 : Nat) : Int), .v (.bool false)] 2 1) := hF b5 _ nc5' n5m' (by rw [upd_ne _ _ _ _ nc5', upd_ne _ _ _ _ n5m', upd_same]; rfl)
    have hF0 : ∀ x y, σ x = some y → σ1 x = some y := fun x y hx => hF x y (fun e => by rw [e, hbc] at hx; cases hx) (fun e => by rw [e, hbm] at hx; cases hx) (by
      rw [upd_ne _ _ _ _ (fun e => by rw [e, hbc] at hx; cases hx), upd_ne _ _ _ _ (fun e => by rw [e, hbm] at hx; cases hx), upd_ne _ _ _ _ (fun e => by rw [e, hb5] at hx; cases hx)]; exact hx)
    cases hb : badW f.nodes (rootW f) with
    | true =>
      have hr : casesR f = ([], 30) := by rw [casesR, if_pos h, hb]; rfl
      have e1 := u2 hb
      subst e1
      rw [hr]
      simp only [go_sem, xQ, ↓reduceIte, xA, xM, xL, xT, xE, xN, xP, xR, xS, qc']
      exact ⟨.tup (.cons .nil (.cons (.refl _) .nil)), fun x => by
        cases hx : σ x with
        | none => exact .inl rfl
        | some y => exact .inr (hF0 x y hx).symm⟩
    | false =>
      have e1 : bad1 = false := by
        cases hb1 : bad1 with
        | false => rfl
        | true => rcases u3 hb1 with h | h
                  · cases h
                  · rw [hb] at h; cases h
      subst e1
      simp only [go_sem, xQ, ↓reduceIte, xA, xM, xL, xT, xE, xN, xP, xR, xS, qc']
      intro bm2 hbm2
      have n52 : ¬ b5 = bm2 := nn hbm2 q5
      simp only [go_sem, xQ, ↓reduceIte, xA, xM, xL, xT, xE, xN, xP, xR, xS, qc', n52]
      intro bc2 hbc2
      obtain ⟨ncm2, hbc2⟩ := un hbc2
      have ncm2' : ¬ bm2 = bc2 := fun e => ncm2 e.symm
      have n5c : ¬ b5 = bc2 := nn hbc2 q5
      simp only [go_sem, xQ, ↓reduceIte, xA, xM, xL, xT, xE, xN, xP, xR, xS, qc', n52, n5c, q5]
      have hb2 := hb
      rw [hroot] at hb2
      refine callB_a (casesAt f hl hc hok bc2 bm2 f.nodes.length (f.nodes.length - 1) (by omega) (by omega) false [] false _ _ hb2 (upd_same _ _ _) (by rw [upd_ne _ _ _ _ ncm2', upd_same]; rfl) (fun p hp => by cases hp) ?_) rfl
      intro m2 lar σ2 hm2 v1 v2 v3 v4 pc pm pF
      rw [← hroot] at v2 v3
      have pc' : σ2 bc2 = some (.row [int f.vars, slN f.nodes, .v (.map (some bm2)), .v (.bool lar)] 4 1) := pc
      have hD : Drop σ2 σ := fun x => by
        cases hx : σ x with
        | none => exact .inl rfl
        | some y =>
          have hx1 := hF0 x y hx
          exact .inr (pF x y (fun e => by rw [e, hbc2] at hx1; cases hx1) (fun e => by rw [e, hbm2] at hx1; cases hx1) (by
            rw [upd_ne _ _ _ _ (fun e => by rw [e, hbc2] at hx1; cases hx1), upd_ne _ _ _ _ (fun e => by rw [e, hbm2] at hx1; cases hx1)]; exact hx1)).symm
      cases hlar : larW f.nodes (rootW f) with
      | true =>
        have hr : casesR f = ([], 4) := by rw [casesR, if_pos h, hb, hlar]; rfl
        have e1 := v2 hlar
        subst e1
        rw [hr]
        simp only [go_sem, xQ, ↓reduceIte, xA, xM, xL, xT, xE, xN, xP, xR, xS, pc']
        exact ⟨.tup (.cons .nil (.cons (.refl _) .nil)), hD⟩
      | false =>
        have hr : casesR f = (casW f.nodes (rootW f), 0) := by rw [casesR, if_pos h, hb, hlar]; rfl
        have e1 : lar = false := by
          cases hb1 : lar with
          | false => rfl
          | true => rcases v3 hb1 with h | h
                    · cases h
                    · rw [hlar] at h; cases h
        subst e1
        rw [hr]
        obtain ⟨cl1, cl2, _⟩ := (cnt_cas hd hok f.nodes.length (f.nodes.length - 1) false _ (by omega) hn).2 hb2
        have hfit := cas_fit hd hc f.nodes.length (f.nodes.length - 1) false _ (by omega) hn
        rw [← hroot] at cl1 cl2 hfit
        simp only [go_sem, xQ, ↓reduceIte, xA, xM, xL, xT, xE, xN, xP, xR, xS, pc']
        rw [← hroot]
        refine callB_use (f148 (casW f.nodes (rootW f)) (by omega) _ (fun x => x) (fun x hx => dcall_of (f149 x (by have := maxL_mem hx; omega) (fun t ht => hfit x hx t ht)) rfl)) rfl ?_
        simp only [go_sem, xQ, ↓reduceIte, xA, xM, xL, xT, xE, xN, xP, xR, xS]
        exact ⟨by rw [List.map_id']; exact .refl _, hD⟩
  · have hr : casesR f = ([], checkE f) := by rw [casesR, if_neg h]
    rw [hr]
    simp only [go_sem, xQ, ↓reduceIte, xA, xM, xL, xT, xE, xN, xP, xR, xS, h]
    exact ⟨.tup (.cons .nil (.cons (.refl _) .nil)), Drop.refl _⟩
end Go.AL

/- Print of formulas; the same cases. -/
set_option linter.unusedVariables false
set_option linter.unusedSimpArgs false
namespace Go.AL
open Go.Proofs
variable {Γ : Glob}
attribute [local irreducible] codeW opsW dopsW
theorem f51 (a b : List (List Tm)) (ha : Fits a.length) (hal : ∀ x ∈ a, Fits x.length ∧ ∀ t ∈ x, Fits t.coeffs.length) : PCalls Tryz.prog Γ 51 [slC a, slC b] (.v (.bool (decide (a = b)))) := by
  refine pcalls (ok51 Γ) fun σ => ?_
  by_cases hn : (a.length : Int) = b.length
  · simp only [go_sem, xQ, ↓reduceIte, xA, xM, xL, xT, xE, xN, xP, xR, xS, Tryz.f51, hn]
    refine SemC.loopK mixed a.length (fun k ρ σ' ds => σ' = σ ∧ ds = [] ∧ ρ 0 = slC a ∧ ρ 1 = slC b ∧ ρ 13 = int a.length ∧ ρ 14 = int k ∧ a.take k = b.take k) (by kernel_rfl) ⟨rfl, rfl, rfl, rfl, by simp only [go_sem, xQ, ↓reduceIte, xA, xM, xL, xT, xE, xN, xP, xR, xS, hn], rfl, rfl⟩ ?_
    rintro k ρ σ' ds hk ⟨rfl, rfl, h0, h1, h13, h14, hz⟩
    rcases get_or_end a k hk with ⟨x, hx, hlt, hd⟩ | hk
    · rcases get_or_end b k (by omega) with ⟨y, hy, hlt2, hd2⟩ | hk2
      · obtain ⟨hxl, hxt⟩ := hal x (mem_of_get hx)
        by_cases hl : (x.length : Int) = y.length
        · simp only [go_sem, xQ, ↓reduceIte, xA, xM, xL, xT, xE, xN, xP, xR, xS, h0, h1, h13, h14, hlt, hlt2, hx, hy, hl]
          refine SemC.loopK mixed x.length (fun j ρ σ2 ds => σ2 = σ' ∧ ds = [] ∧ ρ 0 = slC a ∧ ρ 1 = slC b ∧ ρ 5 = int k ∧ ρ 13 = int a.length ∧ ρ 14 = int k ∧ ρ 32 = int x.length ∧ ρ 33 = int j ∧ x.take j = y.take j) (by kernel_rfl) ⟨rfl, rfl, by simp only [go_sem, xQ, ↓reduceIte, xA, xM, xL, xT, xE, xN, xP, xR, xS, h0], by simp only [go_sem, xQ, ↓reduceIte, xA, xM, xL, xT, xE, xN, xP, xR, xS, h1], by simp only [go_sem, xQ, ↓reduceIte, xA, xM, xL, xT, xE, xN, xP, xR, xS, h14], by simp only [go_sem, xQ, ↓reduceIte, xA, xM, xL, xT, xE, xN, xP, xR, xS, h13], by simp only [go_sem, xQ, ↓reduceIte, xA, xM, xL, xT, xE, xN, xP, xR, xS, h14], by simp only [go_sem, xQ, ↓reduceIte, xA, xM, xL, xT, xE, xN, xP, xR, xS, hl], rfl, rfl⟩ ?_
          rintro j ρ σ2 ds hj ⟨rfl, rfl, h0, h1, h5, h13, h14, h32, h33, hz2⟩
          rcases get_or_end x j hj with ⟨s, hs, hlt3, hd3⟩ | hj
          · rcases get_or_end y j (by omega) with ⟨t, ht, hlt4, hd4⟩ | hj2
            · simp only [go_sem, xQ, ↓reduceIte, xA, xM, xL, xT, xE, xN, xP, xR, xS, h0, h1, h5, h13, h14, h32, h33, hlt, hlt2, hx, hy, hlt3, hlt4, ↓tm_part hs, ↓tm_part ht]
              refine callB_use (f82 s t (hxt s (mem_of_get hs))) rfl ?_
              by_cases hst : s = t
              · simp only [go_sem, xQ, ↓reduceIte, xA, xM, xL, xT, xE, xN, xP, xR, xS, h0, h1, h5, h13, h14, h32, h33, hst, eq_self_iff_true]
                exact ⟨hlt3, by rw [wrap_succ _ (by omega)], by rw [take_succ hs, take_succ ht, hz2, hst]⟩
              · simp only [go_sem, xQ, ↓reduceIte, xA, xM, xL, xT, xE, xN, xP, xR, xS, h0, h1, h5, h13, h14, h32, h33, hst]
                exact retP_eq (by
                  have : ¬ a = b := fun e => hst (by rw [e, hy] at hx; cases hx; rw [ht] at hs; cases hs; rfl)
                  simp [this])
            · omega
          · subst hj
            simp only [go_sem, xQ, ↓reduceIte, xA, xM, xL, xT, xE, xN, xP, xR, xS, h0, h1, h5, h13, h14, h32, h33, Nat.lt_irrefl]
            have hxy : x = y := by
              rw [List.take_length] at hz2
              rw [hz2, show x.length = y.length by omega, List.take_length]
            exact ⟨hlt, by rw [wrap_succ _ (by omega)], by rw [take_succ hx, take_succ hy, hz, hxy]⟩
        · simp only [go_sem, xQ, ↓reduceIte, xA, xM, xL, xT, xE, xN, xP, xR, xS, h0, h1, h13, h14, hlt, hlt2, hx, hy, hl]
          exact retP_eq (by
            have : ¬ a = b := fun e => hl (by rw [e, hy] at hx; cases hx; rfl)
            simp [this])
      · omega
    · subst hk
      simp only [go_sem, xQ, ↓reduceIte, xA, xM, xL, xT, xE, xN, xP, xR, xS, h0, h1, h13, h14, Nat.lt_irrefl]
      have he : a = b := by
        rw [List.take_length] at hz
        rw [hz, show a.length = b.length by omega, List.take_length]
      exact retP_eq (by simp [he])
  · simp only [go_sem, xQ, ↓reduceIte, xA, xM, xL, xT, xE, xN, xP, xR, xS, Tryz.f51, hn]
    exact retP_eq (by have : ¬ a = b := fun e => hn (by rw [e]); simp [this])
end Go.AL

/- Print of formulas. -/
set_option linter.unusedVariables false
set_option linter.unusedSimpArgs false
namespace Go.AL
open Go.Proofs
variable {Γ : Glob}
attribute [local irreducible] codeW opsW dopsW
theorem Bld.closed {σ0 σs : Sig} {b : Nat} {v : Value} {l : List UInt8} (h0 : ∀ x, σs x = none → σ0 x = none) : Closed noD σs fun σ' => Bld σ0 σ' b v l := fun σ' x y hx h => by
  obtain ⟨h1, ⟨p, h2, hp⟩, h3, h4⟩ := h
  have hxn : ∀ cs el, σ' x ≠ some (.var cs el) := fun cs el e => by
    rcases hx with hx | ⟨_, z, hx, hz⟩ | ⟨z, hx, hz⟩
    · rw [hx] at e; cases e
    · rw [hx] at e; cases e; exact hz
    · exact hz
  have hx0 : σ0 x = none := by
    rcases hx with hx | ⟨hx, _⟩ | ⟨z, hx, hz⟩
    · exact h4.free hx
    · exact h0 x hx
    · exact hz.elim
  refine ⟨h1, ⟨p, by rw [upd_ne _ _ _ _ (fun e => hxn _ _ (by rw [← e]; exact h2))]; exact h2, hp⟩, h3.keep fun g hg => upd_ne _ _ _ _ (fun e => ?_), h4.upd hx0⟩
  subst e
  rcases h3 with ⟨rfl, _⟩ | ⟨g', cap, rest, rfl, k1, k2, k3, k4⟩
  · cases hg
  · cases hg; exact hxn _ _ k3
theorem Bld.ne {σ0 σ : Sig} {b : Nat} {v : Value} {l : List UInt8} (h : Bld σ0 σ b v l) {x : Nat} {y : Blk} (hx : σ x = some y) (hy : ∀ cs el, y ≠ .var cs el) : x ≠ b ∧ some x ≠ blkV v := by
  obtain ⟨h1, ⟨p, h2, hp⟩, h3, h4⟩ := h
  refine ⟨fun e => ?_, fun e => h3.ne hx (fun cs => hy cs 5) e.symm⟩
  rw [e, h2] at hx
  cases hx
  exact hy _ _ rfl
theorem Bld.upd {σ0 σ : Sig} {b : Nat} {v : Value} {l : List UInt8} (h : Bld σ0 σ b v l) {x : Nat} (hx : x ≠ b) (hv : some x ≠ blkV v) (h0 : σ0 x = none) (y : Option Blk) : Bld σ0 (upd σ x y) b v l := by
  obtain ⟨h1, ⟨p, h2, hp⟩, h3, h4⟩ := h
  exact ⟨h1, ⟨p, by rw [upd_ne _ _ _ _ (Ne.symm hx)]; exact h2, hp⟩, h3.keep fun g hg => upd_ne _ _ _ _ (fun e => hv (by rw [hg, e])), h4.upd h0⟩
theorem Bld.fresh {σ0 σ : Sig} {b : Nat} {v : Value} {l : List UInt8} (h : Bld σ0 σ b v l) {x : Nat} (hx : σ x = none) (y : Option Blk) : Bld σ0 (AL.upd σ x y) b v l := by
  obtain ⟨p, h2, hp⟩ := h.var
  refine h.upd (fun e => by rw [e, h2] at hx; cases hx) (fun e => ?_) (h.drop.free hx) y
  rcases h.buf with ⟨rfl, _⟩ | ⟨g', cap, rest, rfl, k1, k2, k3, k4⟩
  · cases e
  · cases e; rw [k3] at hx; cases hx
theorem Bld.of_drop {σ0 σ σ' : Sig} {b : Nat} {v : Value} {l : List UInt8} (h : Bld σ0 σ b v l) (hd : Drop σ' σ) : Bld σ0 σ' b v l := by
  have key : ∀ x y, σ x = some y → σ' x = some y := fun x y hx => by
    rcases hd x with h | h
    · rw [hx] at h; cases h
    · rw [← h]; exact hx
  obtain ⟨h1, ⟨p, h2, hp⟩, h3, h4⟩ := h
  refine ⟨h1, ⟨p, key _ _ h2, hp⟩, ?_, hd.trans h4⟩
  rcases h3 with h | ⟨g', cap, rest, rfl, k1, k2, k3, k4⟩
  · exact .inl h
  · exact .inr ⟨g', cap, rest, rfl, k1, k2, key _ _ k3, k4⟩
theorem frzB_val {x : Bool} {l : List Bool} {ρ : Env} {σ : Sig} {K : Env → Sig → Prop} (t : Nat) {r : AV} {σ' : Sig} (hD : Drop σ σ') (hF : Fz σ σ' (ρ t) r) (hK : K (upd ρ t r) σ') : frzB (x :: l) ρ σ K :=
  ⟨_, σ', hD, fun i => by
    by_cases hi : i = t
    · subst hi; rw [upd_same]; exact hF
    · rw [upd_ne _ _ _ _ hi]; exact .refl _, hK⟩
end Go.AL

/- The laws' examples of chapter 10. -/
set_option linter.unusedVariables false
set_option linter.unusedSimpArgs false
namespace Go.AL
open Go.Proofs
variable {Γ : Glob}
attribute [local irreducible] codeW opsW dopsW
def cB : List (List Tm) := [[⟨[-1, 1], -1⟩], [⟨[0, 1], -3⟩, ⟨[0, -1], 3⟩]]
theorem a51 (c : List (List Tm)) (h : Fits c.length ∧ ∀ x ∈ c, Fits x.length ∧ ∀ t ∈ x, Fits t.coeffs.length) : PCalls Tryz.prog Γ 51 [slC c, slC c] (.v (.bool true)) := by
  have := f51 (Γ := Γ) c c h.1 h.2
  simpa using this
end Go.AL

/- awake of chapter 10. -/
set_option linter.unusedVariables false
set_option linter.unusedSimpArgs false
namespace Go.AL
open Go.Proofs
variable {Γ : Glob}
attribute [local irreducible] codeW opsW dopsW
end Go.AL
