/- Cases. -/
import Derived.Test.YtjimmpldofoimaaGreatDoorVa
import Derived.Test.YtjimmpldofoimaaGreatDoorX15
import Derived.Test.YtjimmpldofoimaaGreatDoorXc
import Derived.Lib.ItoaLen
open Nat renaming reduceEqDiff → xQ, reduceAdd → xA, reduceMul → xM, reduceLeDiff → xL
open Int renaming reduceLT → xT, reduceLE → xE, reduceToNat → xN
open Go.AL renaming retPost_one → xP, retPost_oneN → xR, ers_at' → xS
set_option linter.unusedVariables false
set_option linter.unusedSimpArgs false
namespace Go.AL
open Go.Proofs
variable {Γ : Glob}
attribute [local irreducible] codeW opsW dopsW
@[reducible] noncomputable def p49z (Γ : Glob) : Par := par Γ [5, 22, 33] [] []
theorem ok49z (Γ : Glob) : FnOk (p49z Γ) 49 43 (Tryz.f49.body.getD .skip) Tryz.f49.results.toList 1 := fnOk (par_mixed _ _ _ _) Tryz.func49 rfl rfl rfl (by kernel_rfl) (Nat.le_of_ble_eq_true rfl) (by kernel_rfl)
theorem casesAt (f : Fm) (hl : Fits f.nodes.length) (hc : ∀ n ∈ f.nodes, NdFit n) (hok : ∀ k n, f.nodes[k]? = some n → NodeOk n k f.vars) (bc bm : Nat) : ∀ (N i : Nat), i < N → i < f.nodes.length → CasesAt Γ f bc bm i
  | 0, _, h, _ => by omega
  | N + 1, i, hi, hil => f147 f bc bm i (f224 f hl hc hok bc bm i (f.nodes[i]) (List.getElem?_eq_getElem hil) fun j hj => casesAt f hl hc hok bc bm N j (by omega) (by omega))
def rootW (f : Fm) : WayT := ((f.nodes.length : Int) - 1, false)
def casesR (f : Fm) : List (List Tm) × Int :=
  if checkE f = 0 then (if badW f.nodes (rootW f) then ([], 30) else if larW f.nodes (rootW f) then ([], 4) else (casW f.nodes (rootW f), 0)) else ([], checkE f)
theorem f49 (hG : Γ 0 = some sortsT) (hG2 : Γ 2 = some [int 0, int 0]) (f : Fm) (hl : Fits f.nodes.length) (hc : ∀ n ∈ f.nodes, NdFit n) : PCalls Tryz.prog Γ 49 [fmA f] (.tup [slC (casesR f).1, int (casesR f).2]) := by
  refine pcalls (ok49z Γ) fun σ => ?_
  simp only [go_sem, xQ, ↓reduceIte, xA, xM, xL, xT, xE, xN, xP, xR, xS, Tryz.f49]
  refine callB_use (f47 hG f hl hc) rfl ?_
  simp only [go_sem, xQ, ↓reduceIte, xA, xM, xL, xT, xE, xN, xP, xR, xS]
  by_cases h : checkE f = 0
  · obtain ⟨hne, hl200, hv0, hv8, hok⟩ := check_ok h
    have hd := hdown hok
    have hpos : 0 < f.nodes.length := List.length_pos_iff.2 hne
    have hroot : rootW f = (((f.nodes.length - 1 : Nat) : Int), false) := by rw [rootW]; congr 1; omega
    have hw : IntKind.i64.wrap ((f.nodes.length : Int) - 1) = ((f.nodes.length - 1 : Nat) : Int) := by rw [wrap_i64 _ (by omega) (by omega)]; omega
    have hn : f.nodes[f.nodes.length - 1]? = some f.nodes[f.nodes.length - 1] := List.getElem?_eq_getElem (by omega)
    simp only [go_sem, xQ, ↓reduceIte, xA, xM, xL, xT, xE, xN, xP, xR, xS, h, hw]
    intro b5 hb5
    simp only [go_sem, xQ, ↓reduceIte, xA, xM, xL, xT, xE, xN, xP, xR, xS, h, hw]
    intro bm hbm
    obtain ⟨n5m, hbm⟩ := un hbm
    have n5m' : ¬ b5 = bm := fun e => n5m e.symm
    simp only [go_sem, xQ, ↓reduceIte, xA, xM, xL, xT, xE, xN, xP, xR, xS, h, hw, n5m, n5m']
    intro bc hbc
    obtain ⟨ncm, hbc⟩ := un hbc
    obtain ⟨nc5, hbc⟩ := un hbc
    have ncm' : ¬ bm = bc := fun e => ncm e.symm
    have nc5' : ¬ b5 = bc := fun e => nc5 e.symm
    simp only [go_sem, xQ, ↓reduceIte, xA, xM, xL, xT, xE, xN, xP, xR, xS, h, hw, n5m, n5m', ncm, ncm', nc5, nc5']
    refine callB_a (f146 f hG2 hl hc hok bc bm f.nodes.length (f.nodes.length - 1) false _ [] false _ _ (by omega) hn (upd_same _ _ _) (by rw [upd_ne _ _ _ _ ncm', upd_same]; rfl) (fun p hp => by cases hp) ?_) rfl
    intro m1 bad1 σ1 hm1 u1 u2 u3 u4 qc qm hF
    rw [← hroot] at u2 u3
    have qc' : σ1 bc = some (.row [int f.vars, slN f.nodes, .v (.map (some bm)), .v (.bool bad1)] 4 1) := qc
    have q5 : σ1 b5 = some (.row [int ((f.nodes.length - 1 : Nat) : Int), .v (.bool false)] 2 1) := hF b5 _ nc5' n5m' (by rw [upd_ne _ _ _ _ nc5', upd_ne _ _ _ _ n5m', upd_same]; rfl)
    have hF0 : ∀ x y, σ x = some y → σ1 x = some y := fun x y hx => hF x y (fun e => by rw [e, hbc] at hx; cases hx) (fun e => by rw [e, hbm] at hx; cases hx) (by
      rw [upd_ne _ _ _ _ (fun e => by rw [e, hbc] at hx; cases hx), upd_ne _ _ _ _ (fun e => by rw [e, hbm] at hx; cases hx), upd_ne _ _ _ _ (fun e => by rw [e, hb5] at hx; cases hx)]; exact hx)
    cases hb : badW f.nodes (rootW f) with
    | true =>
      have hr : casesR f = ([], 30) := by rw [casesR, if_pos h, hb]; rfl
      have e1 := u2 hb
      subst e1
      rw [hr]
      simp only [go_sem, xQ, ↓reduceIte, xA, xM, xL, xT, xE, xN, xP, xR, xS, qc']
      exact ⟨.tup (.cons .nil (.cons (.refl _) .nil)), fun x => by
        cases hx : σ x with
        | none => exact .inl rfl
        | some y => exact .inr (hF0 x y hx).symm⟩
    | false =>
      have e1 : bad1 = false := by
        cases hb1 : bad1 with
        | false => rfl
        | true => rcases u3 hb1 with h | h
                  · cases h
                  · rw [hb] at h; cases h
      subst e1
      simp only [go_sem, xQ, ↓reduceIte, xA, xM, xL, xT, xE, xN, xP, xR, xS, qc']
      intro bm2 hbm2
      have n52 : ¬ b5 = bm2 := nn hbm2 q5
      simp only [go_sem, xQ, ↓reduceIte, xA, xM, xL, xT, xE, xN, xP, xR, xS, qc', n52]
      intro bc2 hbc2
      obtain ⟨ncm2, hbc2⟩ := un hbc2
      have ncm2' : ¬ bm2 = bc2 := fun e => ncm2 e.symm
      have n5c : ¬ b5 = bc2 := nn hbc2 q5
      simp only [go_sem, xQ, ↓reduceIte, xA, xM, xL, xT, xE, xN, xP, xR, xS, qc', n52, n5c, q5]
      have hb2 := hb
      rw [hroot] at hb2
      refine callB_a (casesAt f hl hc hok bc2 bm2 f.nodes.length (f.nodes.length - 1) (by omega) (by omega) false [] false _ _ hb2 (upd_same _ _ _) (by rw [upd_ne _ _ _ _ ncm2', upd_same]; rfl) (fun p hp => by cases hp) ?_) rfl
      intro m2 lar σ2 hm2 v1 v2 v3 v4 pc pm pF
      rw [← hroot] at v2 v3
      have pc' : σ2 bc2 = some (.row [int f.vars, slN f.nodes, .v (.map (some bm2)), .v (.bool lar)] 4 1) := pc
      have hD : Drop σ2 σ := fun x => by
        cases hx : σ x with
        | none => exact .inl rfl
        | some y =>
          have hx1 := hF0 x y hx
          exact .inr (pF x y (fun e => by rw [e, hbc2] at hx1; cases hx1) (fun e => by rw [e, hbm2] at hx1; cases hx1) (by
            rw [upd_ne _ _ _ _ (fun e => by rw [e, hbc2] at hx1; cases hx1), upd_ne _ _ _ _ (fun e => by rw [e, hbm2] at hx1; cases hx1)]; exact hx1)).symm
      cases hlar : larW f.nodes (rootW f) with
      | true =>
        have hr : casesR f = ([], 4) := by rw [casesR, if_pos h, hb, hlar]; rfl
        have e1 := v2 hlar
        subst e1
        rw [hr]
        simp only [go_sem, xQ, ↓reduceIte, xA, xM, xL, xT, xE, xN, xP, xR, xS, pc']
        exact ⟨.tup (.cons .nil (.cons (.refl _) .nil)), hD⟩
      | false =>
        have hr : casesR f = (casW f.nodes (rootW f), 0) := by rw [casesR, if_pos h, hb, hlar]; rfl
        have e1 : lar = false := by
          cases hb1 : lar with
          | false => rfl
          | true => rcases v3 hb1 with h | h
                    · cases h
                    · rw [hlar] at h; cases h
        subst e1
        rw [hr]
        obtain ⟨cl1, cl2, _⟩ := (cnt_cas hd hok f.nodes.length (f.nodes.length - 1) false _ (by omega) hn).2 hb2
        have hfit := cas_fit hd hc f.nodes.length (f.nodes.length - 1) false _ (by omega) hn
        rw [← hroot] at cl1 cl2 hfit
        simp only [go_sem, xQ, ↓reduceIte, xA, xM, xL, xT, xE, xN, xP, xR, xS, pc']
        rw [← hroot]
        refine callB_use (f148 (casW f.nodes (rootW f)) (by omega) _ (fun x => x) (fun x hx => dcall_of (f149 x (by have := maxL_mem hx; omega) (fun t ht => hfit x hx t ht)) rfl)) rfl ?_
        simp only [go_sem, xQ, ↓reduceIte, xA, xM, xL, xT, xE, xN, xP, xR, xS]
        exact ⟨by rw [List.map_id']; exact .refl _, hD⟩
  · have hr : casesR f = ([], checkE f) := by rw [casesR, if_neg h]
    rw [hr]
    simp only [go_sem, xQ, ↓reduceIte, xA, xM, xL, xT, xE, xN, xP, xR, xS, h]
    exact ⟨.tup (.cons .nil (.cons (.refl _) .nil)), Drop.refl _⟩
end Go.AL

/- Print of formulas; the same cases. -/
set_option linter.unusedVariables false
set_option linter.unusedSimpArgs false
namespace Go.AL
open Go.Proofs
variable {Γ : Glob}
attribute [local irreducible] codeW opsW dopsW
theorem f51 (a b : List (List Tm)) (ha : Fits a.length) (hal : ∀ x ∈ a, Fits x.length ∧ ∀ t ∈ x, Fits t.coeffs.length) : PCalls Tryz.prog Γ 51 [slC a, slC b] (.v (.bool (decide (a = b)))) := by
  refine pcalls (ok51 Γ) fun σ => ?_
  by_cases hn : (a.length : Int) = b.length
  · simp only [go_sem, xQ, ↓reduceIte, xA, xM, xL, xT, xE, xN, xP, xR, xS, Tryz.f51, hn]
    refine SemC.loopK mixed a.length (fun k ρ σ' ds => σ' = σ ∧ ds = [] ∧ ρ 0 = slC a ∧ ρ 1 = slC b ∧ ρ 13 = int a.length ∧ ρ 14 = int k ∧ a.take k = b.take k) (by kernel_rfl) ⟨rfl, rfl, rfl, rfl, by simp only [go_sem, xQ, ↓reduceIte, xA, xM, xL, xT, xE, xN, xP, xR, xS, hn], rfl, rfl⟩ ?_
    rintro k ρ σ' ds hk ⟨rfl, rfl, h0, h1, h13, h14, hz⟩
    rcases get_or_end a k hk with ⟨x, hx, hlt, hd⟩ | hk
    · rcases get_or_end b k (by omega) with ⟨y, hy, hlt2, hd2⟩ | hk2
      · obtain ⟨hxl, hxt⟩ := hal x (mem_of_get hx)
        by_cases hl : (x.length : Int) = y.length
        · simp only [go_sem, xQ, ↓reduceIte, xA, xM, xL, xT, xE, xN, xP, xR, xS, h0, h1, h13, h14, hlt, hlt2, hx, hy, hl]
          refine SemC.loopK mixed x.length (fun j ρ σ2 ds => σ2 = σ' ∧ ds = [] ∧ ρ 0 = slC a ∧ ρ 1 = slC b ∧ ρ 5 = int k ∧ ρ 13 = int a.length ∧ ρ 14 = int k ∧ ρ 32 = int x.length ∧ ρ 33 = int j ∧ x.take j = y.take j) (by kernel_rfl) ⟨rfl, rfl, by simp only [go_sem, xQ, ↓reduceIte, xA, xM, xL, xT, xE, xN, xP, xR, xS, h0], by simp only [go_sem, xQ, ↓reduceIte, xA, xM, xL, xT, xE, xN, xP, xR, xS, h1], by simp only [go_sem, xQ, ↓reduceIte, xA, xM, xL, xT, xE, xN, xP, xR, xS, h14], by simp only [go_sem, xQ, ↓reduceIte, xA, xM, xL, xT, xE, xN, xP, xR, xS, h13], by simp only [go_sem, xQ, ↓reduceIte, xA, xM, xL, xT, xE, xN, xP, xR, xS, h14], by simp only [go_sem, xQ, ↓reduceIte, xA, xM, xL, xT, xE, xN, xP, xR, xS, hl], rfl, rfl⟩ ?_
          rintro j ρ σ2 ds hj ⟨rfl, rfl, h0, h1, h5, h13, h14, h32, h33, hz2⟩
          rcases get_or_end x j hj with ⟨s, hs, hlt3, hd3⟩ | hj
          · rcases get_or_end y j (by omega) with ⟨t, ht, hlt4, hd4⟩ | hj2
            · simp only [go_sem, xQ, ↓reduceIte, xA, xM, xL, xT, xE, xN, xP, xR, xS, h0, h1, h5, h13, h14, h32, h33, hlt, hlt2, hx, hy, hlt3, hlt4, ↓tm_part hs, ↓tm_part ht]
              refine callB_use (f82 s t (hxt s (mem_of_get hs))) rfl ?_
              by_cases hst : s = t
              · simp only [go_sem, xQ, ↓reduceIte, xA, xM, xL, xT, xE, xN, xP, xR, xS, h0, h1, h5, h13, h14, h32, h33, hst, eq_self_iff_true]
                exact ⟨hlt3, by rw [wrap_succ _ (by omega)], by rw [take_succ hs, take_succ ht, hz2, hst]⟩
              · simp only [go_sem, xQ, ↓reduceIte, xA, xM, xL, xT, xE, xN, xP, xR, xS, h0, h1, h5, h13, h14, h32, h33, hst]
                exact retP_eq (by
                  have : ¬ a = b := fun e => hst (by rw [e, hy] at hx; cases hx; rw [ht] at hs; cases hs; rfl)
                  simp [this])
            · omega
          · subst hj
            simp only [go_sem, xQ, ↓reduceIte, xA, xM, xL, xT, xE, xN, xP, xR, xS, h0, h1, h5, h13, h14, h32, h33, Nat.lt_irrefl]
            have hxy : x = y := by
              rw [List.take_length] at hz2
              rw [hz2, show x.length = y.length by omega, List.take_length]
            exact ⟨hlt, by rw [wrap_succ _ (by omega)], by rw [take_succ hx, take_succ hy, hz, hxy]⟩
        · simp only [go_sem, xQ, ↓reduceIte, xA, xM, xL, xT, xE, xN, xP, xR, xS, h0, h1, h13, h14, hlt, hlt2, hx, hy, hl]
          exact retP_eq (by
            have : ¬ a = b := fun e => hl (by rw [e, hy] at hx; cases hx; rfl)
            simp [this])
      · omega
    · subst hk
      simp only [go_sem, xQ, ↓reduceIte, xA, xM, xL, xT, xE, xN, xP, xR, xS, h0, h1, h13, h14, Nat.lt_irrefl]
      have he : a = b := by
        rw [List.take_length] at hz
        rw [hz, show a.length = b.length by omega, List.take_length]
      exact retP_eq (by simp [he])
  · simp only [go_sem, xQ, ↓reduceIte, xA, xM, xL, xT, xE, xN, xP, xR, xS, Tryz.f51, hn]
    exact retP_eq (by have : ¬ a = b := fun e => hn (by rw [e]); simp [this])
theorem f244 (l : List Int) (hl : Fits l.length) (fv : AV) (g : Int → ByteArray) (hg : ∀ x ∈ l, DCall Tryz.prog Γ fv [int x] (str (g x))) : PCalls Tryz.prog Γ 244 [slI l, fv] (slStr (l.map g)) := by
  refine pcalls (ok244 Γ) fun σ => ?_
  simp only [go_sem, xQ, ↓reduceIte, xA, xM, xL, xT, xE, xN, xP, xR, xS, Tryz.f244]
  refine SemC.loopK mixed l.length (fun k ρ σ' ds => Drop σ' σ ∧ ds = [] ∧ ρ 1 = fv ∧ ρ 8 = slI l ∧ ρ 9 = int l.length ∧ ρ 10 = int k ∧ Grow σ σ' 1 (ρ 5) (strs ((l.take k).map g)) k) (by kernel_rfl) ⟨.refl _, rfl, rfl, rfl, rfl, rfl, .nil _ _ _⟩ ?_
  rintro k ρ σ' ds hk ⟨hD, rfl, h1, h8, h9, h10, hG⟩
  rcases get_or_end l k hk with ⟨x, hx, hlt, hd⟩ | rfl
  · simp only [go_sem, xQ, ↓reduceIte, xA, xM, xL, xT, xE, xN, xP, xR, xS, h1, h8, h9, h10, hlt, hx]
    refine callB_d (hg x (mem_of_get hx)) ?_
    simp only [go_sem, xQ, ↓reduceIte, xA, xM, xL, xT, xE, xN, xP, xR, xS, str]
    refine appB_sl (appT_sl el267 tk9 by9 el267 (by decide) rfl (by decide)) hD hG rfl rfl (by omega) (fun a' σ2 hD2 hO hG2 => ?_)
    simp only [go_sem, xQ, ↓reduceIte, xA, xM, xL, xT, xE, xN, xP, xR, xS, h1, h8, h9, h10]
    refine ⟨hD2, by rw [wrap_succ _ (by omega)], ?_⟩
    rw [take_succ hx]
    simpa [strs, str] using hG2
  · simp only [go_sem, xQ, ↓reduceIte, xA, xM, xL, xT, xE, xN, xP, xR, xS, h8, h9, h10, Nat.lt_irrefl]
    have := hG.retP hD
    simpa [slStr] using this
theorem Grow.fz2 {σ0 σ : Sig} {s n : Nat} {a : AV} {cs : List AV} (h : Grow σ0 σ s a cs n) (hD : Drop σ σ0) : ∃ σ', Drop σ σ' ∧ Drop σ' σ0 ∧ Fz σ σ' a (.sl cs n) ∧ ∀ i, (∀ s o n, a ≠ .own i s o n) → σ' i = σ i := by
  rcases h with ⟨h, rfl, rfl⟩ | ⟨b, c, rfl, h1, h2, h3⟩
  · refine ⟨σ, Drop.refl _, hD, ?_, fun _ _ => rfl⟩
    rcases h with rfl | rfl
    · exact .nil
    · exact .e0
  · refine ⟨ers σ b, Drop.ers σ b, hD.ersX h1, .own h2 (ers_same _ _) ?_, fun i hi => ers_ne _ _ _ (fun e => hi s 0 n (by rw [e]))⟩
    have : (cs.drop (0 * s)).take (n * s) = cs := by simp [← h3]
    rw [this]
    exact .refl cs
def lineF (w : ByteArray) (l : List Int) : ByteArray := joinP (w :: l.map itoaP) bSp ++ bNl
def I64 (n : Int) : Prop := -9223372036854775808 ≤ n ∧ n ≤ 9223372036854775807
theorem itoa_len {n : Int} (h : I64 n) : (itoaP n).data.toList.length ≤ 21 := by
  have := Lib.itoa_length_le n h.1 h.2
  simpa [itoaP] using this
theorem lens_le {l : List Int} (h : ∀ x ∈ l, I64 x) : Lib.lens ((l.map itoaP).map (·.data.toList)) ≤ 21 * l.length := by
  induction l with
  | nil => simp [Lib.lens]
  | cons x l ih =>
    have := ih (fun y hy => h y (List.mem_cons_of_mem _ hy))
    have h1 := itoa_len (h x (by simp))
    simp only [Lib.lens, List.map_cons, List.sum_cons, List.length_cons] at this ⊢
    omega
theorem join_le {w : ByteArray} {l : List Int} (h : ∀ x ∈ l, I64 x) : (Lib.join ((w :: l.map itoaP).map (·.data.toList)) bSp.data.toList).length ≤ w.size + 22 * l.length := by
  have h1 := lens_le h
  rw [List.map_cons, Lib.join_length]
  have hs : bSp.data.toList.length = 1 := rfl
  have hw : w.data.toList.length = w.size := by simp
  rw [hs]
  simp only [Lib.lens, List.map_cons, List.sum_cons, List.length_map, hw] at h1 ⊢
  omega
theorem line_le {w : ByteArray} {l : List Int} (h : ∀ x ∈ l, I64 x) : (lineF w l).data.toList.length ≤ w.size + 22 * l.length + 1 := by
  have := join_le (w := w) h
  have e : (lineF w l).data.toList = Lib.join ((w :: l.map itoaP).map (·.data.toList)) bSp.data.toList ++ [10] := by
    simp [lineF, joinP, bNl]
  rw [e, List.length_append]
  simp only [List.length_cons, List.length_nil]
  omega
theorem f192 (hG5 : Γ 5 = some powT) (w : ByteArray) (l : List Int) (hw : w.size ≤ 1000) (hl : l.length ≤ 1000000) (hI : ∀ x ∈ l, I64 x) : PCalls Tryz.prog Γ 192 [str w, slI l] (str (lineF w l)) := by
  have hok := join_le (w := w) hI
  refine pcalls (ok192 Γ) fun σ => ?_
  simp only [go_sem, xQ, ↓reduceIte, xA, xM, xL, xT, xE, xN, xP, xR, xS, Tryz.f192, str]
  intro b hb
  simp only [go_sem, xQ, ↓reduceIte, xA, xM, xL, xT, xE, xN, xP, xR, xS]
  refine callB_use (f244 l (by omega) (.fn (.func 238) [] []) itoaP (fun x hx => dcall_of (f238 hG5 x (hI x hx).1 (hI x hx).2) rfl)) rfl ?_
  simp only [go_sem, xQ, ↓reduceIte, xA, xM, xL, xT, xE, xN, xP, xR, xS, slStr]
  have hG0 : Grow σ (upd σ b (some (.row [.v (.string w)] 1 1))) 1 (.own b 1 0 1) [.v (.string w)] 1 := .inr ⟨b, 1, rfl, hb, upd_same _ _ _, rfl⟩
  refine appB_sl (appT_sl el267 tk9 by9 el267 (by decide) rfl (by decide)) ((Drop.refl σ).upd hb) hG0 (strs_one _) (by simp [strs]) (by simp; omega) (fun a' σ2 hD2 hO hG2 => ?_)
  simp only [go_sem, xQ, ↓reduceIte, xA, xM, xL, xT, xE, xN, xP, xR, xS]
  obtain ⟨σ3, hD23, hD3, hF3, hO3⟩ := hG2.fz2 hD2
  have h182 := f182 (Γ := Γ) (w :: l.map itoaP) bSp (by simp; omega) (by omega)
  refine callB_drop hD23 h182 (.cons (by simpa [slStr, strs, str, Nat.add_comm] using hF3) (.cons (.refl _) .nil)) ?_
  simp only [go_sem, xQ, ↓reduceIte, xA, xM, xL, xT, xE, xN, xP, xR, xS, str]
  refine ⟨by
    have := joinP_size (w :: l.map itoaP) bSp (by omega)
    simp only [List.size_toArray, List.length_cons, List.length_nil] at this ⊢
    omega, ?_⟩
  simp only [go_sem, xQ, ↓reduceIte, xA, xM, xL, xT, xE, xN, xP, xR, xS]
  exact retP_drop hD3 rfl
end Go.AL

/- Print of formulas. -/
set_option linter.unusedVariables false
set_option linter.unusedSimpArgs false
namespace Go.AL
open Go.Proofs
variable {Γ : Glob}
attribute [local irreducible] codeW opsW dopsW
theorem acalls_nil {P : Program} {Γ : Glob} {f : FuncId} {args : List AV} {σ : Sig} {K : AV → Sig → Prop} (h1 : ACalls P Γ f (.v (.slice none 0 0) :: args) σ K) (h2 : ∀ a c, ACalls P Γ f (.v (.slice (some a) 0 c) :: args) σ K) : ACalls P Γ f (.sl [] 0 :: args) σ K := by
  refine ⟨h1.1, fun w vs hr hv => ?_⟩
  cases hv with
  | cons hx hs =>
    cases hx with
    | slnil => exact h1.2 w _ hr (.cons (.v _) hs)
    | sl _ _ _ => exact (h2 _ _).2 w _ hr (.cons (.v _) hs)
theorem f193o (l : List Int) (hl : Fits l.length) : OCall Tryz.prog Γ (.fn (.func 193) [] []) [slI l] 1 (ints l) l.length := by
  refine ⟨by simp [ints], fun σ K hK => ?_⟩
  show ACalls Tryz.prog Γ 193 ([] ++ [slI l] ++ []) σ K
  by_cases h : l = []
  · subst h
    refine acalls_nil ?_ (fun a c => ?_)
    · refine acalls (ok193 Γ) ?_
      simp only [go_sem, xQ, ↓reduceIte, xA, xM, xL, xT, xE, xN, xP, xR, xS, Tryz.f193]
      exact hK _ _ (.inl ⟨.inl rfl, rfl, rfl, rfl⟩)
    · refine ACalls.retK (acalls (ok193 Γ) ?_)
      simp only [go_sem, xQ, ↓reduceIte, xA, xM, xL, xT, xE, xN, xP, xR, xS, Tryz.f193]
      refine appB_weak weak_empty (appB_sl (σ0 := σ) (appT_sl el46 tk3 by3 el46 (by decide) rfl (by decide)) (Drop.refl _) (.e0 _ _ _) rfl rfl (by omega) (fun a' σ2 hD2 hO hG2 => ?_))
      simp only [go_sem, xQ, ↓reduceIte, xA, xM, xL, xT, xE, xN, xP, xR, xS]
      exact made_of_grow hG2 hD2 (by simpa [ints] using hK)
  · have h' : ints l ≠ [] := by simpa [ints] using h
    refine ACalls.retK (acalls (ok193 Γ) ?_)
    simp only [go_sem, xQ, ↓reduceIte, xA, xM, xL, xT, xE, xN, xP, xR, xS, Tryz.f193, h']
    refine appB_sl (σ0 := σ) (appT_sl el46 tk3 by3 el46 (by decide) rfl (by decide)) (Drop.refl _) (.e0 _ _ _) (by rw [List.all_eq_true]; intro x hx; obtain ⟨y, _, rfl⟩ := List.mem_map.1 hx; rfl) (by simp [ints]) (by omega) (fun a' σ2 hD2 hO hG2 => ?_)
    simp only [go_sem, xQ, ↓reduceIte, xA, xM, xL, xT, xE, xN, xP, xR, xS]
    exact made_of_grow hG2 hD2 (by simpa using hK)
def wordN (k : Int) : ByteArray := if k = 0 then bGe else if k = 1 then bEq else if k = 2 then bNot else if k = 3 then bAnd else bOr
def numsN (n : Nd) : List Int := if n.kind ≤ 1 then n.term.coeffs ++ [n.term.const] else n.kids
def bVars : ByteArray := ⟨#[118, 97, 114, 115]⟩
def lineN (n : Nd) : List UInt8 := (lineF (wordN n.kind) (numsN n)).data.toList
def printL (f : Fm) : List UInt8 := (lineF bVars [f.vars]).data.toList ++ f.nodes.flatMap lineN
def printF (f : Fm) : ByteArray := ⟨(printL f).toArray⟩
@[reducible] noncomputable def p106z (Γ : Glob) : Par := par Γ [5, 6, 7, 37] [(6, [false, false, false, false, true]), (1000011, [true]), (11, [false, false, false, false, false, false, false, false, true]), (1000012, [true]), (12, [false, false, false, false, false, false, false, false, true])] [(6, [0, 0, 2, 6, 14, 31]), (11, [0, 1, 3, 7, 15, 0, 32, 96, 224, 480, 1023, 2047]), (12, [0, 0, 2, 6, 14, 30, 62, 0, 254, 511])]
theorem ok106z (Γ : Glob) : FnOk (p106z Γ) 106 55 (Tryz.f106.body.getD .skip) Tryz.f106.results.toList 1 := fnOk (par_mixed _ _ _ _) Tryz.func106 rfl rfl rfl (by kernel_rfl) (Nat.le_of_ble_eq_true rfl) (by kernel_rfl)
theorem within_zero {n lo hi : Int} (h : withinE n lo hi = 0) : lo ≤ n ∧ n ≤ hi := by
  unfold withinE at h
  split at h
  · cases h
  · omega
theorem numbers_ok {t : Tm} (h : numbersE t = 0) : (∀ x ∈ t.coeffs, -1000000 ≤ x ∧ x ≤ 1000000) ∧ -1000000000000 ≤ t.const ∧ t.const ≤ 1000000000000 := by
  have h0 := (firstE_zero _).1 h
  have h1 := (firstE_zero _).1 (h0 _ (List.mem_cons_self ..))
  refine ⟨fun x hx => within_zero (h1 _ (List.mem_map_of_mem hx)), within_zero (h0 _ (by simp))⟩
theorem nums_ok {n : Nd} {i : Nat} {vars : Int} (h : NodeOk n i vars) (hv : vars ≤ 8) (hi : i ≤ 1000) : (numsN n).length ≤ 200 ∧ ∀ x ∈ numsN n, I64 x := by
  unfold numsN
  split
  · rename_i hk
    obtain ⟨h1, h2, h3⟩ := h.term hk
    have hn := (firstE_zero _).1 h1 (numbersE n.term) (by simp)
    obtain ⟨g1, g2⟩ := numbers_ok hn
    refine ⟨by rw [List.length_append]; simp only [List.length_cons, List.length_nil]; omega, fun x hx => ?_⟩
    rcases List.mem_append.1 hx with hx | hx
    · have := g1 x hx
      exact ⟨by omega, by omega⟩
    · rw [List.mem_singleton] at hx
      subst hx
      exact ⟨by omega, by omega⟩
  · rename_i hk
    obtain ⟨h1, h2, h3, h4⟩ := h.form (by omega)
    exact ⟨h2, fun x hx => by have := h4 x hx; exact ⟨by omega, by omega⟩⟩
theorem Bld.closed {σ0 σs : Sig} {b : Nat} {v : Value} {l : List UInt8} (h0 : ∀ x, σs x = none → σ0 x = none) : Closed noD σs fun σ' => Bld σ0 σ' b v l := fun σ' x y hx h => by
  obtain ⟨h1, ⟨p, h2, hp⟩, h3, h4⟩ := h
  have hxn : ∀ cs el, σ' x ≠ some (.var cs el) := fun cs el e => by
    rcases hx with hx | ⟨_, z, hx, hz⟩ | ⟨z, hx, hz⟩
    · rw [hx] at e; cases e
    · rw [hx] at e; cases e; exact hz
    · exact hz
  have hx0 : σ0 x = none := by
    rcases hx with hx | ⟨hx, _⟩ | ⟨z, hx, hz⟩
    · exact h4.free hx
    · exact h0 x hx
    · exact hz.elim
  refine ⟨h1, ⟨p, by rw [upd_ne _ _ _ _ (fun e => hxn _ _ (by rw [← e]; exact h2))]; exact h2, hp⟩, h3.keep fun g hg => upd_ne _ _ _ _ (fun e => ?_), h4.upd hx0⟩
  subst e
  rcases h3 with ⟨rfl, _⟩ | ⟨g', cap, rest, rfl, k1, k2, k3, k4⟩
  · cases hg
  · cases hg; exact hxn _ _ k3
theorem Bld.ne {σ0 σ : Sig} {b : Nat} {v : Value} {l : List UInt8} (h : Bld σ0 σ b v l) {x : Nat} {y : Blk} (hx : σ x = some y) (hy : ∀ cs el, y ≠ .var cs el) : x ≠ b ∧ some x ≠ blkV v := by
  obtain ⟨h1, ⟨p, h2, hp⟩, h3, h4⟩ := h
  refine ⟨fun e => ?_, fun e => h3.ne hx (fun cs => hy cs 5) e.symm⟩
  rw [e, h2] at hx
  cases hx
  exact hy _ _ rfl
theorem Bld.upd {σ0 σ : Sig} {b : Nat} {v : Value} {l : List UInt8} (h : Bld σ0 σ b v l) {x : Nat} (hx : x ≠ b) (hv : some x ≠ blkV v) (h0 : σ0 x = none) (y : Option Blk) : Bld σ0 (upd σ x y) b v l := by
  obtain ⟨h1, ⟨p, h2, hp⟩, h3, h4⟩ := h
  exact ⟨h1, ⟨p, by rw [upd_ne _ _ _ _ (Ne.symm hx)]; exact h2, hp⟩, h3.keep fun g hg => upd_ne _ _ _ _ (fun e => hv (by rw [hg, e])), h4.upd h0⟩
theorem Bld.fresh {σ0 σ : Sig} {b : Nat} {v : Value} {l : List UInt8} (h : Bld σ0 σ b v l) {x : Nat} (hx : σ x = none) (y : Option Blk) : Bld σ0 (AL.upd σ x y) b v l := by
  obtain ⟨p, h2, hp⟩ := h.var
  refine h.upd (fun e => by rw [e, h2] at hx; cases hx) (fun e => ?_) (h.drop.free hx) y
  rcases h.buf with ⟨rfl, _⟩ | ⟨g', cap, rest, rfl, k1, k2, k3, k4⟩
  · cases e
  · cases e; rw [k3] at hx; cases hx
theorem Bld.of_drop {σ0 σ σ' : Sig} {b : Nat} {v : Value} {l : List UInt8} (h : Bld σ0 σ b v l) (hd : Drop σ' σ) : Bld σ0 σ' b v l := by
  have key : ∀ x y, σ x = some y → σ' x = some y := fun x y hx => by
    rcases hd x with h | h
    · rw [hx] at h; cases h
    · rw [← h]; exact hx
  obtain ⟨h1, ⟨p, h2, hp⟩, h3, h4⟩ := h
  refine ⟨h1, ⟨p, key _ _ h2, hp⟩, ?_, hd.trans h4⟩
  rcases h3 with h | ⟨g', cap, rest, rfl, k1, k2, k3, k4⟩
  · exact .inl h
  · exact .inr ⟨g', cap, rest, rfl, k1, k2, key _ _ k3, k4⟩
theorem drop_getX {σ σ' : Sig} (hd : Drop σ' σ) {x : Nat} {y : Blk} (hx : σ x = some y) : σ' x = some y := by
  rcases hd x with h | h
  · rw [hx] at h; cases h
  · rw [← h]; exact hx
theorem ctl_var {y : Blk} (h : Ctl y) : ∀ cs el, y ≠ .var cs el := fun cs el e => by subst e; exact h
theorem frzB_val {x : Bool} {l : List Bool} {ρ : Env} {σ : Sig} {K : Env → Sig → Prop} (t : Nat) {r : AV} {σ' : Sig} (hD : Drop σ σ') (hF : Fz σ σ' (ρ t) r) (hK : K (upd ρ t r) σ') : frzB (x :: l) ρ σ K :=
  ⟨_, σ', hD, fun i => by
    by_cases hi : i = t
    · subst hi; rw [upd_same]; exact hF
    · rw [upd_ne _ _ _ _ hi]; exact .refl _, hK⟩
theorem word_get {k : Int} (h0 : 0 ≤ k) (h4 : k ≤ 4) : k = 0 ∨ k = 1 ∨ k = 2 ∨ k = 3 ∨ k = 4 := by omega
set_option maxHeartbeats 4000000 in
set_option maxRecDepth 20000 in
theorem f106 (hG : Γ 0 = some sortsT) (hG5 : Γ 5 = some powT) (f : Fm) (hl : Fits f.nodes.length) (hc : ∀ n ∈ f.nodes, NdFit n) : PCalls Tryz.prog Γ 106 [fmA f] (.tup [str (if checkE f = 0 then printF f else ⟨#[]⟩), int (checkE f)]) := by
  refine pcalls (ok106z Γ) fun σ => ?_
  simp only [go_sem, xQ, ↓reduceIte, xA, xM, xL, xT, xE, xN, xP, xR, xS, Tryz.f106]
  refine callB_use (f47 hG f hl hc) rfl ?_
  simp only [go_sem, xQ, ↓reduceIte, xA, xM, xL, xT, xE, xN, xP, xR, xS]
  by_cases h : checkE f = 0
  · obtain ⟨hne, hl200, hv0, hv8, hok⟩ := check_ok h
    have hlen : ∀ k, k ≤ f.nodes.length → ((lineF bVars [f.vars]).data.toList ++ (f.nodes.take k).flatMap lineN).length ≤ 100 + 10000 * k := by
      intro k
      induction k with
      | zero =>
        intro _
        have := line_le (w := bVars) (l := [f.vars]) (fun x hx => by rw [List.mem_singleton] at hx; subst hx; exact ⟨by omega, by omega⟩)
        have hb : bVars.size = 4 := rfl
        simp only [List.take_zero, List.flatMap_nil, List.append_nil, List.length_cons, List.length_nil] at this ⊢
        omega
      | succ k ih =>
        intro hk
        have := ih (by omega)
        obtain ⟨n, hn⟩ : ∃ n, f.nodes[k]? = some n := ⟨f.nodes[k], List.getElem?_eq_getElem (by omega)⟩
        obtain ⟨g1, g2⟩ := nums_ok (hok k n hn) hv8 (by omega)
        have h3 := line_le (w := wordN n.kind) g2
        have hw : (wordN n.kind).size ≤ 3 := by unfold wordN; repeat' split <;> (try decide)
        rw [take_succ hn, List.flatMap_append, List.length_append, List.length_append]
        rw [List.length_append] at this
        have h4 : ([n].flatMap lineN).length = (lineF (wordN n.kind) (numsN n)).data.toList.length := by simp [lineN]
        omega
    simp only [go_sem, xQ, ↓reduceIte, xA, xM, xL, xT, xE, xN, xP, xR, xS, h]
    intro b5 hb5
    simp only [go_sem, xQ, ↓reduceIte, xA, xM, xL, xT, xE, xN, xP, xR, xS, h]
    intro b6 hb6
    obtain ⟨n65, hb6⟩ := un hb6
    have n65' : ¬ b5 = b6 := fun e => n65 e.symm
    simp only [go_sem, xQ, ↓reduceIte, xA, xM, xL, xT, xE, xN, xP, xR, xS, h, n65, n65']
    have hB0 : Bld σ (upd (upd σ b5 (some (.var [.v (.pointer none), .v (.slice none 0 0)] 286))) b6 (some (.row [.fn (.func 191) [.v (.pointer (some ⟨b5, 0, none⟩))] []] 1 1))) b5 (.slice none 0 0) [] :=
      ⟨hb5, ⟨none, by rw [upd_ne _ _ _ _ n65']; exact upd_same _ _ _, .inl rfl⟩, .inl ⟨rfl, rfl⟩, ((Drop.refl σ).upd hb5).upd hb6⟩
    have hs0 : (lineF bVars [f.vars]).size = (lineF bVars [f.vars]).data.toList.length := by simp
    refine dcallB_use (f192 hG5 bVars [f.vars] (by decide) (by simp) (fun x hx => by rw [List.mem_singleton] at hx; subst hx; exact ⟨by omega, by omega⟩)) rfl ?_
    simp only [go_sem, xQ, ↓reduceIte, xA, xM, xL, xT, xE, xN, xP, xR, xS, n65, n65', str]
    have hl0 := hlen 0 (by omega)
    simp only [List.take_zero, List.flatMap_nil, List.append_nil] at hl0
    refine callB_a (f191 (lineF bVars [f.vars]) hB0 (by rw [hs0]; simp only [List.length_nil]; omega) (fun v1 σ1 hB1 hO1 => ?_)) rfl
    have q6 : σ1 b6 = some (.row [.fn (.func 191) [.v (.pointer (some ⟨b5, 0, none⟩))] []] 1 1) := by rw [hO1 b6 n65 (by simp [blkV]) (by simp [upd])]; simp [upd]
    rw [List.nil_append] at hB1
    simp only [go_sem, xQ, ↓reduceIte, xA, xM, xL, xT, xE, xN, xP, xR, xS, n65, n65']
    refine callB_use (f137 f) rfl ?_
    simp only [go_sem, xQ, ↓reduceIte, xA, xM, xL, xT, xE, xN, xP, xR, xS]
    refine SemC.rangeL (xs := nodesX f.nodes) (D := noD) (pre := fun _ => True) (f := 220) (first := []) (captured := [.pp (fmC f) 0]) mixed (by simp only [go_sem, xQ, ↓reduceIte, xA, xM, xL, xT, xE, xN, xP, xR, xS]) (f220 f hl) (by decide) (by kernel_rfl) (by kernel_rfl) noD_ctl (fun _ _ _ _ _ _ => trivial)
      (fun k σ' => ∃ v, Bld σ σ' b5 v ((lineF bVars [f.vars]).data.toList ++ (f.nodes.take k).flatMap lineN) ∧ σ' b6 = some (.row [.fn (.func 191) [.v (.pointer (some ⟨b5, 0, none⟩))] []] 1 1))
      (fun e σ' => False)
      (fun k x ρ1 σ' => ∃ n b7 v, (f.nodes[k]? = some n ∧ σ b7 = none ∧ ρ1 6 = .v (.pointer (some ⟨b6, 0, none⟩)) ∧ ρ1 7 = .v (.pointer (some ⟨b7, 0, none⟩))) ∧ Bld σ σ' b5 v ((lineF bVars [f.vars]).data.toList ++ (f.nodes.take k).flatMap lineN) ∧ σ' b6 = some (.row [.fn (.func 191) [.v (.pointer (some ⟨b5, 0, none⟩))] []] 1 1) ∧ σ' b7 = some (.row (atC n k) 5 1))
      (by intros; repeat' (first | exact Closed.row (fun h => h) | exact Bld.closed (fun x hx => hB1.drop.free hx) | exact Closed.const _ | refine Closed.ex fun _ => ?_ | refine Closed.and ?_ ?_))
      (by intros; repeat' (first | exact Closed.row (fun h => h) | exact Bld.closed (fun x hx => hB1.drop.free hx) | exact Closed.const _ | refine Closed.ex fun _ => ?_ | refine Closed.and ?_ ?_))
      (by intros; repeat' (first | exact Closed.row (fun h => h) | exact Bld.closed (fun x hx => hB1.drop.free hx) | exact Closed.const _ | refine Closed.ex fun _ => ?_ | refine Closed.and ?_ ?_))
      ?_ ?_ ?_ ?_ ?_
    · exact ⟨v1, by simpa using hB1, q6⟩
    · rintro k x E σ' l hE hx ⟨v, hB, q6⟩
      obtain ⟨n, hn, rfl⟩ := nodesX_get hx
      have e6 : E 6 = .v (.pointer (some ⟨b6, 0, none⟩)) := by rw [hE 6 (by decide)]; simp only [go_sem, xQ, ↓reduceIte, xA, xM, xL, xT, xE, xN, xP, xR, xS]
      simp only [go_sem, xQ, ↓reduceIte, xA, xM, xL, xT, xE, xN, xP, xR, xS, e6]
      intro b7 hb7
      have x6 : ¬ b6 = b7 := nn hb7 q6
      simp only [go_sem, xQ, ↓reduceIte, xA, xM, xL, xT, xE, xN, xP, xR, xS, e6, x6]
      refine ⟨(Keep.refl _ _).upd (keep_none hb7), n, b7, v, ?_⟩
      simp only [go_sem, xQ, ↓reduceIte, xA, xM, xL, xT, xE, xN, xP, xR, xS, e6, x6, hn, q6]
      exact ⟨hB.drop.free hb7, hB.fresh hb7 _⟩
    · rintro k x ρ1 σ' l hx ⟨n, b7, v, ⟨hn, h70, h6, h7⟩, hB, q6, q7⟩
      have hkn := hok k n hn
      have hklt := lt_of_getElem? hn
      have hcn := hc n (mem_of_get hn)
      have x67 : ¬ b6 = b7 := rn q6 q7 (by decide)
      have x67' : ¬ b7 = b6 := fun e => x67 e.symm
      have hl1 := hlen (k + 1) (by omega)
      have hlk := hlen k (by omega)
      rw [take_succ hn, List.flatMap_append, ← List.append_assoc, List.length_append] at hl1
      have h41 : ([n].flatMap lineN).length = (lineN n).length := by simp
      rw [h41] at hl1
      obtain ⟨g1, g2⟩ := nums_ok hkn hv8 (by omega)
      have hbig : 100 + 10000 * (k + 1) ≤ 140737488355328 := by omega
      have hg1 : (numsN n).length ≤ 1000000 := by omega
      have k10 : ((1 : Int) = 0) = False := eq_false (by decide)
      rcases word_get hkn.lo hkn.hi with hk | hk | hk | hk | hk
      · have hnum : numsN n = n.term.coeffs ++ [n.term.const] := by rw [numsN, if_pos (by omega)]
        simp only [go_sem, xQ, ↓reduceIte, xA, xM, xL, xT, xE, xN, xP, xR, xS, h6, h7, q7, q6, hk, hG, sortsT]
        refine frzB_ptr 7 b7 (by simp only [go_sem, xQ, ↓reduceIte, xA, xM, xL, xT, xE, xN, xP, xR, xS, h7]) q7 ?_
        have hBf : Bld σ (ers σ' b7) b5 v ((lineF bVars [f.vars]).data.toList ++ (f.nodes.take k).flatMap lineN) := by
          rw [ers_upd]
          exact hB.upd (hB.ne q7 (fun _ _ e => by cases e)).1 (hB.ne q7 (fun _ _ e => by cases e)).2 h70 _
        have q6f : ers σ' b7 b6 = some (.row [.fn (.func 191) [.v (.pointer (some ⟨b5, 0, none⟩))] []] 1 1) := by rw [ers_ne _ _ _ x67]; exact q6
        simp only [go_sem, xQ, ↓reduceIte, xA, xM, xL, xT, xE, xN, xP, xR, xS, h6, h7, hk, hG, sortsT]
        refine ⟨1, _, _, f193o n.term.coeffs hcn.1, fun a σm hm => ?_⟩
        obtain ⟨hDm, hGm⟩ := hm.grow
        simp only [go_sem, xQ, ↓reduceIte, xA, xM, xL, xT, xE, xN, xP, xR, xS, h6, h7, hk, hG, sortsT]
        refine appB_sl (appT_sl el46 tk3 by3 el46 (by decide) rfl (by decide)) hDm hGm rfl rfl (by have := hcn.1; omega) (fun a' σ3 hD3 hO hG3 => ?_)
        simp only [go_sem, xQ, ↓reduceIte, xA, xM, xL, xT, xE, xN, xP, xR, xS, h6, h7, hk, hG, sortsT]
        obtain ⟨σ4, hD34, hD4, hF4, hO4⟩ := hG3.fz2 hD3
        have e8 : AV.sl (ints n.term.coeffs ++ [int n.term.const]) (n.term.coeffs.length + 1) = slI (numsN n) := by rw [hnum]; simp [slI, ints]
        simp only [int] at e8
        simp only [go_sem, xQ, ↓reduceIte, xA, xM, xL, xT, xE, xN, xP, xR, xS, e8] at hF4
        refine frzB_val 8 hD34 (by simp only [go_sem, xQ, ↓reduceIte, xA, xM, xL, xT, xE, xN, xP, xR, xS]; exact hF4) ?_
        have hB4 := hBf.of_drop hD4
        have q64 := drop_getX hD4 q6f
        simp only [go_sem, xQ, ↓reduceIte, xA, xM, xL, xT, xE, xN, xP, xR, xS, h6, h7, hk, hG, sortsT, q64]
        have hlineN : lineN n = (lineF bGe (numsN n)).data.toList := by rw [lineN, hk]; rfl
        have hsz : (lineF bGe (numsN n)).size = (lineN n).length := by rw [hlineN]; simp
        refine dcallB_use (f192 hG5 bGe (numsN n) (by decide) hg1 g2) rfl ?_
        simp only [go_sem, xQ, ↓reduceIte, xA, xM, xL, xT, xE, xN, xP, xR, xS, h6, h7, q64, hk, hG, sortsT]
        refine callB_a (f191 (lineF bGe (numsN n)) hB4 (by rw [hsz]; exact Nat.le_trans hl1 hbig) (fun v' σ2 hB2 hO2 => ?_)) rfl
        have q62 : σ2 b6 = some (.row [.fn (.func 191) [.v (.pointer (some ⟨b5, 0, none⟩))] []] 1 1) := by rw [hO2 b6 (hB4.ne q64 (fun _ _ e => by cases e)).1 (hB4.ne q64 (fun _ _ e => by cases e)).2 (by rw [q64]; simp)]; exact q64
        simp only [go_sem, xQ, ↓reduceIte, xA, xM, xL, xT, xE, xN, xP, xR, xS]
        refine ⟨fun x y hx hy => ?_, v', ?_, q62⟩
        · rcases hy with hy | hy
          · have g3 := drop_getX hD4 ((ers_ne σ' b7 x (fun e => by rw [e, q7] at hx; cases hx; exact hy)).trans hx)
            have g4 := hB4.ne g3 (ctl_var hy)
            rw [hO2 x g4.1 g4.2 (by rw [g3]; simp)]
            exact g3
          · exact hy.elim
        · rw [take_succ hn, List.flatMap_append, ← List.append_assoc]
          simpa [hlineN] using hB2
      · have hnum : numsN n = n.term.coeffs ++ [n.term.const] := by rw [numsN, if_pos (by omega)]
        simp only [go_sem, xQ, ↓reduceIte, xA, xM, xL, xT, xE, xN, xP, xR, xS, h6, h7, q7, q6, hk, hG, sortsT]
        refine frzB_ptr 7 b7 (by simp only [go_sem, xQ, ↓reduceIte, xA, xM, xL, xT, xE, xN, xP, xR, xS, h7]) q7 ?_
        have hBf : Bld σ (ers σ' b7) b5 v ((lineF bVars [f.vars]).data.toList ++ (f.nodes.take k).flatMap lineN) := by
          rw [ers_upd]
          exact hB.upd (hB.ne q7 (fun _ _ e => by cases e)).1 (hB.ne q7 (fun _ _ e => by cases e)).2 h70 _
        have q6f : ers σ' b7 b6 = some (.row [.fn (.func 191) [.v (.pointer (some ⟨b5, 0, none⟩))] []] 1 1) := by rw [ers_ne _ _ _ x67]; exact q6
        simp only [go_sem, xQ, ↓reduceIte, xA, xM, xL, xT, xE, xN, xP, xR, xS, h6, h7, hk, hG, sortsT]
        refine ⟨1, _, _, f193o n.term.coeffs hcn.1, fun a σm hm => ?_⟩
        obtain ⟨hDm, hGm⟩ := hm.grow
        simp only [go_sem, xQ, ↓reduceIte, xA, xM, xL, xT, xE, xN, xP, xR, xS, h6, h7, hk, hG, sortsT]
        refine appB_sl (appT_sl el46 tk3 by3 el46 (by decide) rfl (by decide)) hDm hGm rfl rfl (by have := hcn.1; omega) (fun a' σ3 hD3 hO hG3 => ?_)
        simp only [go_sem, xQ, ↓reduceIte, xA, xM, xL, xT, xE, xN, xP, xR, xS, h6, h7, hk, hG, sortsT]
        obtain ⟨σ4, hD34, hD4, hF4, hO4⟩ := hG3.fz2 hD3
        have e8 : AV.sl (ints n.term.coeffs ++ [int n.term.const]) (n.term.coeffs.length + 1) = slI (numsN n) := by rw [hnum]; simp [slI, ints]
        simp only [int] at e8
        simp only [go_sem, xQ, ↓reduceIte, xA, xM, xL, xT, xE, xN, xP, xR, xS, e8] at hF4
        refine frzB_val 8 hD34 (by simp only [go_sem, xQ, ↓reduceIte, xA, xM, xL, xT, xE, xN, xP, xR, xS]; exact hF4) ?_
        have hB4 := hBf.of_drop hD4
        have q64 := drop_getX hD4 q6f
        simp only [go_sem, xQ, ↓reduceIte, xA, xM, xL, xT, xE, xN, xP, xR, xS, h6, h7, hk, hG, sortsT, q64]
        have hlineN : lineN n = (lineF bEq (numsN n)).data.toList := by rw [lineN, hk]; rfl
        have hsz : (lineF bEq (numsN n)).size = (lineN n).length := by rw [hlineN]; simp
        refine dcallB_use (f192 hG5 bEq (numsN n) (by decide) hg1 g2) rfl ?_
        simp only [go_sem, xQ, ↓reduceIte, xA, xM, xL, xT, xE, xN, xP, xR, xS, h6, h7, q64, hk, hG, sortsT]
        refine callB_a (f191 (lineF bEq (numsN n)) hB4 (by rw [hsz]; exact Nat.le_trans hl1 hbig) (fun v' σ2 hB2 hO2 => ?_)) rfl
        have q62 : σ2 b6 = some (.row [.fn (.func 191) [.v (.pointer (some ⟨b5, 0, none⟩))] []] 1 1) := by rw [hO2 b6 (hB4.ne q64 (fun _ _ e => by cases e)).1 (hB4.ne q64 (fun _ _ e => by cases e)).2 (by rw [q64]; simp)]; exact q64
        simp only [go_sem, xQ, ↓reduceIte, xA, xM, xL, xT, xE, xN, xP, xR, xS]
        refine ⟨fun x y hx hy => ?_, v', ?_, q62⟩
        · rcases hy with hy | hy
          · have g3 := drop_getX hD4 ((ers_ne σ' b7 x (fun e => by rw [e, q7] at hx; cases hx; exact hy)).trans hx)
            have g4 := hB4.ne g3 (ctl_var hy)
            rw [hO2 x g4.1 g4.2 (by rw [g3]; simp)]
            exact g3
          · exact hy.elim
        · rw [take_succ hn, List.flatMap_append, ← List.append_assoc]
          simpa [hlineN] using hB2
      · have hnum : numsN n = n.kids := by rw [numsN, if_neg (by omega)]
        have e8 : AV.sl (ints n.kids) n.kids.length = slI (numsN n) := by rw [hnum]; rfl
        simp only [go_sem, xQ, ↓reduceIte, xA, xM, xL, xT, xE, xN, xP, xR, xS, h6, h7, q7, q6, hk, hG, sortsT]
        refine ⟨_, σ', Drop.refl _, fun _ => .refl _, ?_⟩
        simp only [go_sem, xQ, ↓reduceIte, xA, xM, xL, xT, xE, xN, xP, xR, xS, h6, h7, q7, q6, hk, hG, sortsT, hnum]
        rw [← hnum]
        have hlineN : lineN n = (lineF bNot (numsN n)).data.toList := by rw [lineN, hk]; rfl
        have hsz : (lineF bNot (numsN n)).size = (lineN n).length := by rw [hlineN]; simp
        refine dcallB_use (f192 hG5 bNot (numsN n) (by decide) hg1 g2) rfl ?_
        simp only [go_sem, xQ, ↓reduceIte, xA, xM, xL, xT, xE, xN, xP, xR, xS, h6, h7, q7, q6, hk, hG, sortsT]
        refine callB_a (f191 (lineF bNot (numsN n)) hB (by rw [hsz]; exact Nat.le_trans hl1 hbig) (fun v' σ2 hB2 hO2 => ?_)) rfl
        have q62 : σ2 b6 = some (.row [.fn (.func 191) [.v (.pointer (some ⟨b5, 0, none⟩))] []] 1 1) := by rw [hO2 b6 (hB.ne q6 (fun _ _ e => by cases e)).1 (hB.ne q6 (fun _ _ e => by cases e)).2 (by rw [q6]; simp)]; exact q6
        simp only [go_sem, xQ, ↓reduceIte, xA, xM, xL, xT, xE, xN, xP, xR, xS]
        refine ⟨fun x y hx hy => ?_, v', ?_, q62⟩
        · rcases hy with hy | hy
          · have g3 := hx
            have g4 := hB.ne g3 (ctl_var hy)
            rw [hO2 x g4.1 g4.2 (by rw [g3]; simp)]
            exact g3
          · exact hy.elim
        · rw [take_succ hn, List.flatMap_append, ← List.append_assoc]
          simpa [hlineN] using hB2
      · have hnum : numsN n = n.kids := by rw [numsN, if_neg (by omega)]
        have e8 : AV.sl (ints n.kids) n.kids.length = slI (numsN n) := by rw [hnum]; rfl
        simp only [go_sem, xQ, ↓reduceIte, xA, xM, xL, xT, xE, xN, xP, xR, xS, h6, h7, q7, q6, hk, hG, sortsT]
        refine ⟨_, σ', Drop.refl _, fun _ => .refl _, ?_⟩
        simp only [go_sem, xQ, ↓reduceIte, xA, xM, xL, xT, xE, xN, xP, xR, xS, h6, h7, q7, q6, hk, hG, sortsT, hnum]
        rw [← hnum]
        have hlineN : lineN n = (lineF bAnd (numsN n)).data.toList := by rw [lineN, hk]; rfl
        have hsz : (lineF bAnd (numsN n)).size = (lineN n).length := by rw [hlineN]; simp
        refine dcallB_use (f192 hG5 bAnd (numsN n) (by decide) hg1 g2) rfl ?_
        simp only [go_sem, xQ, ↓reduceIte, xA, xM, xL, xT, xE, xN, xP, xR, xS, h6, h7, q7, q6, hk, hG, sortsT]
        refine callB_a (f191 (lineF bAnd (numsN n)) hB (by rw [hsz]; exact Nat.le_trans hl1 hbig) (fun v' σ2 hB2 hO2 => ?_)) rfl
        have q62 : σ2 b6 = some (.row [.fn (.func 191) [.v (.pointer (some ⟨b5, 0, none⟩))] []] 1 1) := by rw [hO2 b6 (hB.ne q6 (fun _ _ e => by cases e)).1 (hB.ne q6 (fun _ _ e => by cases e)).2 (by rw [q6]; simp)]; exact q6
        simp only [go_sem, xQ, ↓reduceIte, xA, xM, xL, xT, xE, xN, xP, xR, xS]
        refine ⟨fun x y hx hy => ?_, v', ?_, q62⟩
        · rcases hy with hy | hy
          · have g3 := hx
            have g4 := hB.ne g3 (ctl_var hy)
            rw [hO2 x g4.1 g4.2 (by rw [g3]; simp)]
            exact g3
          · exact hy.elim
        · rw [take_succ hn, List.flatMap_append, ← List.append_assoc]
          simpa [hlineN] using hB2
      · have hnum : numsN n = n.kids := by rw [numsN, if_neg (by omega)]
        have e8 : AV.sl (ints n.kids) n.kids.length = slI (numsN n) := by rw [hnum]; rfl
        simp only [go_sem, xQ, ↓reduceIte, xA, xM, xL, xT, xE, xN, xP, xR, xS, h6, h7, q7, q6, hk, hG, sortsT]
        refine ⟨_, σ', Drop.refl _, fun _ => .refl _, ?_⟩
        simp only [go_sem, xQ, ↓reduceIte, xA, xM, xL, xT, xE, xN, xP, xR, xS, h6, h7, q7, q6, hk, hG, sortsT, hnum]
        rw [← hnum]
        have hlineN : lineN n = (lineF bOr (numsN n)).data.toList := by rw [lineN, hk]; rfl
        have hsz : (lineF bOr (numsN n)).size = (lineN n).length := by rw [hlineN]; simp
        refine dcallB_use (f192 hG5 bOr (numsN n) (by decide) hg1 g2) rfl ?_
        simp only [go_sem, xQ, ↓reduceIte, xA, xM, xL, xT, xE, xN, xP, xR, xS, h6, h7, q7, q6, hk, hG, sortsT]
        refine callB_a (f191 (lineF bOr (numsN n)) hB (by rw [hsz]; exact Nat.le_trans hl1 hbig) (fun v' σ2 hB2 hO2 => ?_)) rfl
        have q62 : σ2 b6 = some (.row [.fn (.func 191) [.v (.pointer (some ⟨b5, 0, none⟩))] []] 1 1) := by rw [hO2 b6 (hB.ne q6 (fun _ _ e => by cases e)).1 (hB.ne q6 (fun _ _ e => by cases e)).2 (by rw [q6]; simp)]; exact q6
        simp only [go_sem, xQ, ↓reduceIte, xA, xM, xL, xT, xE, xN, xP, xR, xS]
        refine ⟨fun x y hx hy => ?_, v', ?_, q62⟩
        · rcases hy with hy | hy
          · have g3 := hx
            have g4 := hB.ne g3 (ctl_var hy)
            rw [hO2 x g4.1 g4.2 (by rw [g3]; simp)]
            exact g3
          · exact hy.elim
        · rw [take_succ hn, List.flatMap_append, ← List.append_assoc]
          simpa [hlineN] using hB2
    · rintro σ' r hr' ⟨v, hB, q6⟩ hdr
      have hlf := hlen f.nodes.length (Nat.le_refl _)
      rw [List.take_length] at hlf
      have hlenx : (nodesX f.nodes).length = f.nodes.length := by rw [nodesX, List.length_mapIdx]
      rw [hlenx, List.take_length] at hB
      have hne2 : (lineF bVars [f.vars]).data.toList ++ f.nodes.flatMap lineN ≠ [] := by
        have : (lineF bVars [f.vars]).data.toList ≠ [] := by simp [lineF, bNl]
        simp [this]
      simp only [go_sem, xQ, ↓reduceIte, xA, xM, xL, xT, xE, xN, xP, xR, xS, h]
      refine callB_a (f194 hB hne2 (by omega) (fun σ2 hD2 hO2 => ?_)) rfl
      have hdr2 : σ2 r = some (.obj (.deferred (some []))) := by rw [hO2 r (hB.ne hdr (fun _ _ e => by cases e)).2]; exact hdr
      simp only [go_sem, xQ, ↓reduceIte, xA, xM, xL, xT, xE, xN, xP, xR, xS, h, hdr2]
      exact retP_drop (hD2.ersX (hB1.drop.free hr')) rfl
    · rintro e σ' r hr' hF hdr
      exact hF.elim
  · simp only [go_sem, xQ, ↓reduceIte, xA, xM, xL, xT, xE, xN, xP, xR, xS, h]
    exact retP_eq rfl
end Go.AL

/- The laws' examples of chapter 10. -/
set_option linter.unusedVariables false
set_option linter.unusedSimpArgs false
namespace Go.AL
open Go.Proofs
variable {Γ : Glob}
attribute [local irreducible] codeW opsW dopsW
def bothF : Fm := ⟨2, [⟨0, ⟨[1, -1], 0⟩, []⟩, ⟨1, ⟨[0, 1], -3⟩, []⟩, ⟨2, ⟨[], 0⟩, [1]⟩, ⟨3, ⟨[], 0⟩, [0, 2]⟩]⟩
theorem both_fit : Fits bothF.nodes.length ∧ ∀ n ∈ bothF.nodes, NdFit n := by
  refine ⟨by decide, fun n hn => ?_⟩
  simp only [bothF, List.mem_cons, List.not_mem_nil, or_false] at hn
  rcases hn with rfl | rfl | rfl | rfl <;> exact ⟨by decide, by decide⟩
theorem a131 : PCalls Tryz.prog Γ 131 [] (fmA bothF) := f131
theorem a41 (hG : Γ 0 = some sortsT) (vs : List Int) (b : Bool) (hv : Fits vs.length) (h1 : holdsE bothF vs = 0) (h2 : holdsB bothF vs = b) : PCalls Tryz.prog Γ 41 [fmA bothF, slI vs] (.tup [.v (.bool b), int 0]) := by
  have := f41 hG bothF vs both_fit.1 both_fit.2 hv
  rw [h1, h2, if_pos rfl] at this
  exact this
def cA : List (List Tm) := [[⟨[1, -1], 0⟩, ⟨[0, 1], -4⟩], [⟨[1, -1], 0⟩, ⟨[0, -1], 2⟩]]
def cB : List (List Tm) := [[⟨[-1, 1], -1⟩], [⟨[0, 1], -3⟩, ⟨[0, -1], 3⟩]]
def oppBX : Fm := ⟨2, [⟨0, ⟨[1, -1], 0⟩, []⟩, ⟨1, ⟨[0, 1], -3⟩, []⟩, ⟨2, ⟨[], 0⟩, [1]⟩, ⟨3, ⟨[], 0⟩, [0, 2]⟩, ⟨2, ⟨[], 0⟩, [3]⟩]⟩
def putW : Fm := ⟨1, [⟨0, ⟨[1], -1⟩, []⟩, ⟨1, ⟨[1], -2⟩, []⟩, ⟨2, ⟨[], 0⟩, [1]⟩, ⟨3, ⟨[], 0⟩, [0, 2]⟩]⟩
theorem opp_fit : Fits oppBX.nodes.length ∧ ∀ n ∈ oppBX.nodes, NdFit n := by
  refine ⟨by decide, fun n hn => ?_⟩
  simp only [oppBX, List.mem_cons, List.not_mem_nil, or_false] at hn
  rcases hn with rfl | rfl | rfl | rfl | rfl <;> exact ⟨by decide, by decide⟩
theorem put_fit : Fits putW.nodes.length ∧ ∀ n ∈ putW.nodes, NdFit n := by
  refine ⟨by decide, fun n hn => ?_⟩
  simp only [putW, List.mem_cons, List.not_mem_nil, or_false] at hn
  rcases hn with rfl | rfl | rfl | rfl <;> exact ⟨by decide, by decide⟩
theorem cases_both : casesR bothF = (cA, 0) := by kernel_rfl
theorem cases_opp : casesR oppBX = (cB, 0) := by kernel_rfl
theorem opp_both : oppE bothF = 0 ∧ oppF' bothF = oppBX := ⟨by kernel_rfl, by kernel_rfl⟩
theorem put_both : putR bothF [⟨[2], 0⟩, ⟨[1], 1⟩] = (putW, 0) := by kernel_rfl
theorem rng_ex : rangedP ⟨[2, -3], 1⟩ [⟨0, 5⟩, ⟨-1, 2⟩] = ⟨-5, 14⟩ ∧ rangedE ⟨[2, -3], 1⟩ [⟨0, 5⟩, ⟨-1, 2⟩] = 0 := ⟨by kernel_rfl, by kernel_rfl⟩
theorem a49 (hG : Γ 0 = some sortsT) (hG2 : Γ 2 = some [int 0, int 0]) : PCalls Tryz.prog Γ 49 [fmA bothF] (.tup [slC cA, int 0]) := by
  have := f49 hG hG2 bothF both_fit.1 both_fit.2
  rw [cases_both] at this
  exact this
theorem a49' (hG : Γ 0 = some sortsT) (hG2 : Γ 2 = some [int 0, int 0]) : PCalls Tryz.prog Γ 49 [fmA oppBX] (.tup [slC cB, int 0]) := by
  have := f49 hG hG2 oppBX opp_fit.1 opp_fit.2
  rw [cases_opp] at this
  exact this
theorem a65 (hG : Γ 0 = some sortsT) : PCalls Tryz.prog Γ 65 [fmA bothF] (.tup [fmA oppBX, int 0]) := by
  have := f65 hG bothF both_fit.1 both_fit.2
  rw [opp_both.1, if_pos rfl, opp_both.2] at this
  exact this
theorem aX53 (hG : Γ 0 = some sortsT) : PCalls Tryz.prog Γ 53 [fmA bothF, slT [⟨[2], 0⟩, ⟨[1], 1⟩]] (.tup [fmA putW, int 0]) := by
  have := f53 hG bothF [⟨[2], 0⟩, ⟨[1], 1⟩] both_fit.1 both_fit.2 (by decide) (fun t ht => by
    simp only [List.mem_cons, List.not_mem_nil, or_false] at ht
    rcases ht with rfl | rfl <;> exact (by decide))
  rw [put_both] at this
  exact this
theorem a59 : PCalls Tryz.prog Γ 59 [tmA ⟨[2, -3], 1⟩, slR [⟨0, 5⟩, ⟨-1, 2⟩]] (.tup [rgA ⟨-5, 14⟩, int 0]) := by
  have := f59 (Γ := Γ) ⟨[2, -3], 1⟩ [⟨0, 5⟩, ⟨-1, 2⟩] (by decide) (by decide)
  rw [rng_ex.1, rng_ex.2] at this
  exact this
theorem a110 : PCalls Tryz.prog Γ 110 [fmA putW, fmA putW] (.v (.bool true)) := by
  have := f110 (Γ := Γ) putW putW put_fit.1 put_fit.2
  simpa using this
theorem a51 (c : List (List Tm)) (h : Fits c.length ∧ ∀ x ∈ c, Fits x.length ∧ ∀ t ∈ x, Fits t.coeffs.length) : PCalls Tryz.prog Γ 51 [slC c, slC c] (.v (.bool true)) := by
  have := f51 (Γ := Γ) c c h.1 h.2
  simpa using this
def bPrint : ByteArray := ⟨#[118, 97, 114, 115, 32, 50, 10, 103, 101, 32, 49, 32, 45, 49, 32, 48, 10, 101, 113, 32, 48, 32, 49, 32, 45, 51, 10, 110, 111, 116, 32, 49, 10, 97, 110, 100, 32, 48, 32, 50, 10]⟩
theorem dec1 (n : Nat) (h : n < 10) : Lib.decDigits n = [UInt8.ofNat (48 + n)] := by rw [Lib.decDigits, dif_pos h]
theorem it0 : Lib.itoa 0 = [48] := by rw [Lib.itoa, if_neg (by decide)]; exact dec1 0 (by decide)
theorem it1 : Lib.itoa 1 = [49] := by rw [Lib.itoa, if_neg (by decide)]; exact dec1 1 (by decide)
theorem it2 : Lib.itoa 2 = [50] := by rw [Lib.itoa, if_neg (by decide)]; exact dec1 2 (by decide)
theorem itm1 : Lib.itoa (-1) = [45, 49] := by rw [Lib.itoa, if_pos (by decide)]; exact congrArg _ (dec1 1 (by decide))
theorem itm3 : Lib.itoa (-3) = [45, 51] := by rw [Lib.itoa, if_pos (by decide)]; exact congrArg _ (dec1 3 (by decide))
theorem print_both : printF bothF = bPrint := by
  have e0 : itoaP 0 = ⟨#[48]⟩ := by rw [itoaP, it0]
  have e1 : itoaP 1 = ⟨#[49]⟩ := by rw [itoaP, it1]
  have e2 : itoaP 2 = ⟨#[50]⟩ := by rw [itoaP, it2]
  have m1 : itoaP (-1) = ⟨#[45, 49]⟩ := by rw [itoaP, itm1]
  have m3 : itoaP (-3) = ⟨#[45, 51]⟩ := by rw [itoaP, itm3]
  have h1 : lineN ⟨0, ⟨[1, -1], 0⟩, []⟩ = [103, 101, 32, 49, 32, 45, 49, 32, 48, 10] := by
    have e : lineN ⟨0, ⟨[1, -1], 0⟩, []⟩ = (lineF bGe [1, -1, 0]).data.toList := rfl
    have e' : lineF bGe [1, -1, 0] = joinP [bGe, ⟨#[49]⟩, ⟨#[45, 49]⟩, ⟨#[48]⟩] bSp ++ bNl := by rw [lineF]; simp only [List.map_cons, List.map_nil, e0, e1, e2, m1, m3]
    rw [e, e']
    rfl
  have h2 : lineN ⟨1, ⟨[0, 1], -3⟩, []⟩ = [101, 113, 32, 48, 32, 49, 32, 45, 51, 10] := by
    have e : lineN ⟨1, ⟨[0, 1], -3⟩, []⟩ = (lineF bEq [0, 1, -3]).data.toList := rfl
    have e' : lineF bEq [0, 1, -3] = joinP [bEq, ⟨#[48]⟩, ⟨#[49]⟩, ⟨#[45, 51]⟩] bSp ++ bNl := by rw [lineF]; simp only [List.map_cons, List.map_nil, e0, e1, e2, m1, m3]
    rw [e, e']
    rfl
  have h3 : lineN ⟨2, ⟨[], 0⟩, [1]⟩ = [110, 111, 116, 32, 49, 10] := by
    have e : lineN ⟨2, ⟨[], 0⟩, [1]⟩ = (lineF bNot [1]).data.toList := rfl
    have e' : lineF bNot [1] = joinP [bNot, ⟨#[49]⟩] bSp ++ bNl := by rw [lineF]; simp only [List.map_cons, List.map_nil, e0, e1, e2, m1, m3]
    rw [e, e']
    rfl
  have h4 : lineN ⟨3, ⟨[], 0⟩, [0, 2]⟩ = [97, 110, 100, 32, 48, 32, 50, 10] := by
    have e : lineN ⟨3, ⟨[], 0⟩, [0, 2]⟩ = (lineF bAnd [0, 2]).data.toList := rfl
    have e' : lineF bAnd [0, 2] = joinP [bAnd, ⟨#[48]⟩, ⟨#[50]⟩] bSp ++ bNl := by rw [lineF]; simp only [List.map_cons, List.map_nil, e0, e1, e2, m1, m3]
    rw [e, e']
    rfl
  have h0 : (lineF bVars [2]).data.toList = [118, 97, 114, 115, 32, 50, 10] := by
    rw [lineF]
    simp only [List.map_cons, List.map_nil, e2]
    kernel_rfl
  have hv : bothF.vars = 2 := rfl
  rw [printF, printL, hv, h0]
  simp only [bothF, List.flatMap_cons, List.flatMap_nil, h1, h2, h3, h4]
  rfl
theorem a106 (hG : Γ 0 = some sortsT) (hG5 : Γ 5 = some powT) : PCalls Tryz.prog Γ 106 [fmA bothF] (.tup [str bPrint, int 0]) := by
  have h := f106 hG hG5 bothF both_fit.1 both_fit.2
  have hc : checkE bothF = 0 := by kernel_rfl
  rw [hc, if_pos rfl, print_both] at h
  exact h
end Go.AL

/- awake of chapter 10. -/
set_option linter.unusedVariables false
set_option linter.unusedSimpArgs false
namespace Go.AL
open Go.Proofs
variable {Γ : Glob}
attribute [local irreducible] codeW opsW dopsW
set_option maxHeartbeats 2000000 in
set_option maxRecDepth 20000 in
theorem f40 (hG : Γ 0 = some sortsT) (hG2 : Γ 2 = some [int 0, int 0]) (hG5 : Γ 5 = some powT) : PCalls Tryz.prog Γ 40 [] (.v (.bool true)) := by
  refine pcalls (ok40 Γ) fun σ => ?_
  simp only [go_sem, xQ, ↓reduceIte, xA, xM, xL, xT, xE, xN, xP, xR, xS, Tryz.f40]
  refine callB_use (a131) rfl ?_
  simp only [go_sem, xQ, ↓reduceIte, xA, xM, xL, xT, xE, xN, xP, xR, xS]
  refine callB_use (a41 hG [5, 4] true (by decide) (by kernel_rfl) (by kernel_rfl)) rfl ?_
  simp only [go_sem, xQ, ↓reduceIte, xA, xM, xL, xT, xE, xN, xP, xR, xS]
  refine callB_use (a131) rfl ?_
  simp only [go_sem, xQ, ↓reduceIte, xA, xM, xL, xT, xE, xN, xP, xR, xS]
  refine callB_use (a41 hG [2, 2] true (by decide) (by kernel_rfl) (by kernel_rfl)) rfl ?_
  simp only [go_sem, xQ, ↓reduceIte, xA, xM, xL, xT, xE, xN, xP, xR, xS]
  refine callB_use (a131) rfl ?_
  simp only [go_sem, xQ, ↓reduceIte, xA, xM, xL, xT, xE, xN, xP, xR, xS]
  refine callB_use (a41 hG [5, 3] false (by decide) (by kernel_rfl) (by kernel_rfl)) rfl ?_
  simp only [go_sem, xQ, ↓reduceIte, xA, xM, xL, xT, xE, xN, xP, xR, xS]
  refine callB_use (a131) rfl ?_
  simp only [go_sem, xQ, ↓reduceIte, xA, xM, xL, xT, xE, xN, xP, xR, xS]
  refine callB_use (a41 hG [1, 2] false (by decide) (by kernel_rfl) (by kernel_rfl)) rfl ?_
  simp only [go_sem, xQ, ↓reduceIte, xA, xM, xL, xT, xE, xN, xP, xR, xS]
  refine callB_use (a131) rfl ?_
  simp only [go_sem, xQ, ↓reduceIte, xA, xM, xL, xT, xE, xN, xP, xR, xS]
  refine callB_use (a49 hG hG2) rfl ?_
  simp only [go_sem, xQ, ↓reduceIte, xA, xM, xL, xT, xE, xN, xP, xR, xS]
  refine callB_use (a131) rfl ?_
  simp only [go_sem, xQ, ↓reduceIte, xA, xM, xL, xT, xE, xN, xP, xR, xS]
  refine callB_use (a65 hG) rfl ?_
  simp only [go_sem, xQ, ↓reduceIte, xA, xM, xL, xT, xE, xN, xP, xR, xS]
  intro b11 hb11
  simp only [go_sem, xQ, ↓reduceIte, xA, xM, xL, xT, xE, xN, xP, xR, xS]
  refine callB_use (a49' hG hG2) rfl ?_
  simp only [go_sem, xQ, ↓reduceIte, xA, xM, xL, xT, xE, xN, xP, xR, xS]
  refine callB_use (a131) rfl ?_
  simp only [go_sem, xQ, ↓reduceIte, xA, xM, xL, xT, xE, xN, xP, xR, xS]
  refine callB_use (f132 0 [2]) rfl ?_
  simp only [go_sem, xQ, ↓reduceIte, xA, xM, xL, xT, xE, xN, xP, xR, xS]
  refine callB_use (f132 1 [1]) rfl ?_
  simp only [go_sem, xQ, ↓reduceIte, xA, xM, xL, xT, xE, xN, xP, xR, xS]
  refine callB_use (aX53 hG) rfl ?_
  simp only [go_sem, xQ, ↓reduceIte, xA, xM, xL, xT, xE, xN, xP, xR, xS]
  intro b15 hb15
  obtain ⟨n1, hb15⟩ := un hb15
  have n1' : ¬ b11 = b15 := fun e => n1 e.symm
  simp only [go_sem, xQ, ↓reduceIte, xA, xM, xL, xT, xE, xN, xP, xR, xS, n1, n1']
  refine callB_use (f132 1 [2, -3]) rfl ?_
  simp only [go_sem, xQ, ↓reduceIte, xA, xM, xL, xT, xE, xN, xP, xR, xS, n1, n1']
  refine callB_use (a59) rfl ?_
  simp only [go_sem, xQ, ↓reduceIte, xA, xM, xL, xT, xE, xN, xP, xR, xS, n1, n1']
  intro b17 hb17
  obtain ⟨n2, hb17⟩ := un hb17
  obtain ⟨n3, hb17⟩ := un hb17
  have n2' : ¬ b15 = b17 := fun e => n2 e.symm
  have n3' : ¬ b11 = b17 := fun e => n3 e.symm
  simp only [go_sem, xQ, ↓reduceIte, xA, xM, xL, xT, xE, xN, xP, xR, xS, n1, n1', n2, n2', n3, n3']
  refine callB_use (a131) rfl ?_
  simp only [go_sem, xQ, ↓reduceIte, xA, xM, xL, xT, xE, xN, xP, xR, xS, n1, n1', n2, n2', n3, n3']
  refine callB_use (a106 hG hG5) rfl ?_
  simp only [go_sem, xQ, ↓reduceIte, xA, xM, xL, xT, xE, xN, xP, xR, xS, n1, n1', n2, n2', n3, n3']
  have hw0 : IntKind.i64.wrap 0 = 0 := by decide
  simp only [go_sem, xQ, ↓reduceIte, xA, xM, xL, xT, xE, xN, xP, xR, xS, n1, n1', n2, n2', n3, n3', Int.add_zero, hw0, str, bPrint, beq_self_eq_true, eq_self_iff_true]
  refine callB_use (f133 (-1)) rfl ?_
  simp only [go_sem, xQ, ↓reduceIte, xA, xM, xL, xT, xE, xN, xP, xR, xS, n1, n1', n2, n2', n3, n3']
  refine callB_use (f133 (-2)) rfl ?_
  simp only [go_sem, xQ, ↓reduceIte, xA, xM, xL, xT, xE, xN, xP, xR, xS, n1, n1', n2, n2', n3, n3']
  intro b22 hb22
  obtain ⟨n4, hb22⟩ := un hb22
  obtain ⟨n5, hb22⟩ := un hb22
  obtain ⟨n6, hb22⟩ := un hb22
  have n4' : ¬ b17 = b22 := fun e => n4 e.symm
  have n5' : ¬ b15 = b22 := fun e => n5 e.symm
  have n6' : ¬ b11 = b22 := fun e => n6 e.symm
  simp only [go_sem, xQ, ↓reduceIte, xA, xM, xL, xT, xE, xN, xP, xR, xS, n1, n1', n2, n2', n3, n3', n4, n4', n5, n5', n6, n6']
  refine dcallB_use (f111 putW put_fit.1) rfl ?_
  simp only [go_sem, xQ, ↓reduceIte, xA, xM, xL, xT, xE, xN, xP, xR, xS, n1, n1', n2, n2', n3, n3', n4, n4', n5, n5', n6, n6']
  refine callB_fz a110 (.cons (.refl _) (.cons (.agg (.cons (.refl _) (.cons (.sl (by repeat (first | exact FzL.nil | exact FzL.refl _ | refine FzL.cons (by first | exact Fz.refl _ | exact Fz.nil) ?_))) .nil))) .nil)) ?_
  simp only [go_sem, xQ, ↓reduceIte, xA, xM, xL, xT, xE, xN, xP, xR, xS, n1, n1', n2, n2', n3, n3', n4, n4', n5, n5', n6, n6']
  refine callB_use (f134 0 [1, -1]) rfl ?_
  simp only [go_sem, xQ, ↓reduceIte, xA, xM, xL, xT, xE, xN, xP, xR, xS, n1, n1', n2, n2', n3, n3', n4, n4', n5, n5', n6, n6']
  refine callB_use (f134 (-4) [0, 1]) rfl ?_
  simp only [go_sem, xQ, ↓reduceIte, xA, xM, xL, xT, xE, xN, xP, xR, xS, n1, n1', n2, n2', n3, n3', n4, n4', n5, n5', n6, n6']
  refine callB_use (f134 0 [1, -1]) rfl ?_
  simp only [go_sem, xQ, ↓reduceIte, xA, xM, xL, xT, xE, xN, xP, xR, xS, n1, n1', n2, n2', n3, n3', n4, n4', n5, n5', n6, n6']
  refine callB_use (f134 2 [0, -1]) rfl ?_
  simp only [go_sem, xQ, ↓reduceIte, xA, xM, xL, xT, xE, xN, xP, xR, xS, n1, n1', n2, n2', n3, n3', n4, n4', n5, n5', n6, n6']
  have hA : Fits cA.length ∧ ∀ x ∈ cA, Fits x.length ∧ ∀ t ∈ x, Fits t.coeffs.length := by decide
  have hB : Fits cB.length ∧ ∀ x ∈ cB, Fits x.length ∧ ∀ t ∈ x, Fits t.coeffs.length := by decide
  refine callB_use (a51 cA hA) rfl ?_
  simp only [go_sem, xQ, ↓reduceIte, xA, xM, xL, xT, xE, xN, xP, xR, xS, n1, n1', n2, n2', n3, n3', n4, n4', n5, n5', n6, n6']
  refine callB_use (f134 (-1) [-1, 1]) rfl ?_
  simp only [go_sem, xQ, ↓reduceIte, xA, xM, xL, xT, xE, xN, xP, xR, xS, n1, n1', n2, n2', n3, n3', n4, n4', n5, n5', n6, n6']
  refine callB_use (f134 (-3) [0, 1]) rfl ?_
  simp only [go_sem, xQ, ↓reduceIte, xA, xM, xL, xT, xE, xN, xP, xR, xS, n1, n1', n2, n2', n3, n3', n4, n4', n5, n5', n6, n6']
  refine callB_use (f134 3 [0, -1]) rfl ?_
  simp only [go_sem, xQ, ↓reduceIte, xA, xM, xL, xT, xE, xN, xP, xR, xS, n1, n1', n2, n2', n3, n3', n4, n4', n5, n5', n6, n6']
  refine callB_use (a51 cB hB) rfl ?_
  simp only [go_sem, xQ, ↓reduceIte, xA, xM, xL, xT, xE, xN, xP, xR, xS, n1, n1', n2, n2', n3, n3', n4, n4', n5, n5', n6, n6']
  exact retP_drop (by repeat (first | exact Drop.refl _ | assumption | refine Drop.upd ?_ (by assumption))) rfl
end Go.AL
