/- Cases: the lists of a way are made. -/
import Derived.Test.YtjimmpldofoimaaGreatDoorXe
open Nat renaming reduceEqDiff → xQ, reduceAdd → xA, reduceMul → xM, reduceLeDiff → xL
open Int renaming reduceLT → xT, reduceLE → xE, reduceToNat → xN
open Go.AL renaming retPost_one → xP, retPost_oneN → xR, ers_at' → xS
set_option linter.unusedVariables false
set_option linter.unusedSimpArgs false
namespace Go.AL
open Go.Proofs
variable {Γ : Glob}
attribute [local irreducible] codeW opsW dopsW
def FitC (C : List (List Tm)) : Prop := ∀ x ∈ C, ∀ t ∈ x, Fits t.coeffs.length
theorem less_len (t : Tm) (n : Int) : (lessT t n).coeffs.length = t.coeffs.length := by rw [lessT, plusT]; exact plusC_len _ _ _
theorem opp_len (t : Tm) (n : Int) : (oppT t n).coeffs.length = t.coeffs.length := by rw [oppT, plusT]; simp only [plusC_len, List.length_replicate]
theorem fit_prod {A B : List (List Tm)} (ha : FitC A) (hb : FitC B) : FitC (prodC A B) := fun x hx t ht => by
  obtain ⟨a, h1, h2⟩ := List.mem_flatMap.1 hx
  obtain ⟨c, h3, rfl⟩ := List.mem_map.1 h2
  rcases List.mem_append.1 ht with h | h
  · exact ha a h1 t h
  · exact hb c h3 t h
theorem fit_fold : ∀ (S : List (List (List Tm))) (A : List (List Tm)), (∀ C ∈ S, FitC C) → FitC A → FitC (S.foldl prodC A)
  | [], A, _, h => h
  | C :: S, A, h, hA => fit_fold S _ (fun D hD => h D (List.mem_cons_of_mem _ hD)) (fit_prod hA (h C (by simp)))
theorem fit_one {t : Tm} (h : Fits t.coeffs.length) : FitC [[t]] := fun x hx u hu => by
  rw [List.mem_singleton] at hx
  subst hx
  rw [List.mem_singleton] at hu
  subst hu
  exact h
theorem fit_mk {k : Int} {b : Bool} {t : Tm} {S : List (List (List Tm))} (ht : Fits t.coeffs.length) (hS : ∀ C ∈ S, FitC C) : FitC (mkC k b t S) := by
  unfold mkC
  split
  · exact fit_one (by rw [less_len]; split <;> (try rw [opp_len]) <;> exact ht)
  split
  · split
    · intro x hx u hu
      simp only [List.mem_cons, List.not_mem_nil, or_false] at hx
      rcases hx with rfl | rfl
      · exact fit_one (t := lessT t 1) (by rw [less_len]; exact ht) _ (by simp) u hu
      · exact fit_one (t := oppT t (-1)) (by rw [opp_len]; exact ht) _ (by simp) u hu
    · intro x hx u hu
      simp only [List.mem_cons, List.not_mem_nil, or_false] at hx
      subst hx
      simp only [List.mem_cons, List.not_mem_nil, or_false] at hu
      rcases hu with rfl | rfl
      · rw [less_len]; exact ht
      · rw [opp_len]; exact ht
  split
  · rw [List.getLastD_eq_getLast?]
    cases h : S.getLast? with
    | none => intro x hx; cases hx
    | some C => exact hS C (List.mem_of_getLast? h)
  split
  · split
    · intro x hx; cases hx
    · exact fit_fold S _ hS (fun x hx u hu => by
        rw [List.mem_singleton] at hx
        subst hx
        cases hu)
  split
  · intro x hx
    obtain ⟨C, h1, h2⟩ := List.mem_flatten.1 hx
    exact hS C h1 x h2
  · intro x hx; cases hx
theorem cas_fit {l : List Nd} (hd : KidsDown l) (hc : ∀ n ∈ l, NdFit n) : ∀ (N i : Nat) (b : Bool) (n : Nd), i < N → l[i]? = some n → FitC (casW l ((i : Int), b))
  | 0, _, _, _, h, _ => by omega
  | N + 1, i, b, n, hi, hn => by
    rw [casW_eq hd hn]
    refine fit_mk (hc n (mem_of_get hn)).1 fun C hC => ?_
    obtain ⟨x, hx, rfl⟩ := List.mem_map.1 hC
    have hxr := hd i n hn x hx
    obtain ⟨j, rfl⟩ := Int.eq_ofNat_of_zero_le hxr.1
    obtain ⟨nc, hnc⟩ : ∃ nc, l[j]? = some nc := ⟨l[j]'(by have := lt_of_getElem? hn; omega), List.getElem?_eq_getElem _⟩
    exact cas_fit hd hc N j _ nc (by omega) hnc
theorem callB_gen {P : Program} {Γ : Glob} {fv : AV} {args : List AV} {σ : Sig} {K : AV → Sig → Prop} (Q : Sig → Prop) (h : Q σ) (k : ∀ τ, Q τ → callB P Γ fv args τ K) : callB P Γ fv args σ K := k σ h
theorem any_take {l : List Tm} {k : Nat} {x : Tm} (h : l[k]? = some x) : (l.take (k + 1)).any larT = ((l.take k).any larT || larT x) := by rw [take_succ h, List.any_append]; simp
theorem xcallB_a {P : Program} {Γ : Glob} {f : FuncId} {a c args args' : List AV} {σ : Sig} {K : AV → Sig → Prop} (h : ACalls P Γ f args' σ fun r σ' => Keep1 σ σ' ∧ K r σ') (he : args' = a ++ args ++ c) : xcallB P Γ (.fn (.func f) a c) args σ K := callB_a h he
theorem Frm.keep1 {bc bm : Nat} {σ σ' : Sig} {cs : List AV} {c : Nat} {es : List (AV × AV)} (hbc : σ bc = some (.row cs 4 c)) (hbm : σ bm = some (.map es)) (h : Frm bc bm σ σ') : Keep1 σ σ' := fun b cs' c' hb =>
  h b _ (fun e => by rw [e, hbc] at hb; cases hb) (fun e => by rw [e, hbm] at hb; cases hb) hb
theorem Grow.keep1 {σ0 σ σ' : Sig} {a : AV} {cs : List AV} {n : Nat} (h : Grow σ0 σ 1 a cs n) (hk : Keep1 σ σ') : Grow σ0 σ' 1 a cs n := by
  rcases h with h | ⟨b, c, h0, h1, h2, h3⟩
  · exact .inl h
  · exact .inr ⟨b, c, h0, h1, hk _ _ _ h2, h3⟩
/-- The blocks that stay. -/
def bas (bc bm : Nat) (σ : Sig) : Sig := fun x => if x = bc ∨ x = bm then none else σ x
theorem Frm.drop {bc bm : Nat} {σ σ' : Sig} (h : Frm bc bm σ σ') : Drop σ' (bas bc bm σ) := fun x => by
  unfold bas
  split
  · exact .inl rfl
  · rename_i hh
    cases hx : σ x with
    | none => exact .inl rfl
    | some y => exact .inr (h x y (fun e => hh (.inl e)) (fun e => hh (.inr e)) hx).symm
theorem Frm.of_drop {bc bm : Nat} {σ σ' : Sig} (h : Drop σ' (bas bc bm σ)) : Frm bc bm σ σ' := fun x y h1 h2 h3 => by
  have hb : bas bc bm σ x = some y := by rw [bas, if_neg (by rintro (e | e) <;> contradiction)]; exact h3
  rcases h x with hx | hx
  · rw [hb] at hx; cases hx
  · rw [hb] at hx; exact hx.symm
theorem Grow.neM {σ0 σ : Sig} {s n b : Nat} {a : AV} {cs : List AV} {es : List (AV × AV)} (h : Grow σ0 σ s a cs n) (hb : σ b = some (.map es)) : ∀ s1 o m, a ≠ .own b s1 o m := fun s1 o m e => by
  rcases h with ⟨h, _⟩ | ⟨b', c, h0, h1, h2, h3⟩
  · rcases h with h | h <;> rw [h] at e <;> cases e
  · rw [h0] at e
    cases e
    rw [hb] at h2
    cases h2
theorem Grow.neB {σ0 σ : Sig} {s n b : Nat} {a : AV} {cs : List AV} (h : Grow σ0 σ s a cs n) (hb : σ0 b ≠ none) : ∀ s1 o m, a ≠ .own b s1 o m := fun s1 o m e => by
  rcases h with ⟨h, _⟩ | ⟨b', c, h0, h1, h2, h3⟩
  · rcases h with h | h <;> rw [h] at e <;> cases e
  · rw [h0] at e
    cases e
    exact hb h1
/-- A variable that holds a row that grew: both are told as frozen. -/
theorem frzB_grow2 {x : Bool} {l : List Bool} {ρ : Env} {σ σ0 : Sig} {K : Env → Sig → Prop} {s n : Nat} {a : AV} {cs : List AV} (t b : Nat) (hρ : ρ t = .v (.pointer (some ⟨b, 0, none⟩))) (hb : σ b = some (.row [a] 1 1)) (hG : Grow σ0 σ s a cs n) (hne : ∀ s o m, a ≠ .own b s o m)
    (hk : ∀ σ', Drop σ σ' → (∀ y, y ≠ b → (∀ s o m, a ≠ .own y s o m) → σ' y = σ y) → K (upd ρ t (.pp [.sl cs n] 0)) σ') : frzB (x :: l) ρ σ K := by
  rcases hG with ⟨h, rfl, rfl⟩ | ⟨b', c, rfl, h1, h2, h3⟩
  · refine ⟨_, ers σ b, Drop.ers σ b, fun i => ?_, hk _ (Drop.ers σ b) fun y hy _ => ers_ne _ _ _ hy⟩
    by_cases hi : i = t
    · subst hi
      rw [hρ, upd_same]
      refine .ptr hb (ers_same _ _) (.cons ?_ .nil)
      rcases h with rfl | rfl
      · exact .nil
      · exact .e0
    · rw [upd_ne _ _ _ _ hi]; exact .refl _
  · have hbb : b' ≠ b := fun e => hne s 0 n (by rw [e])
    have hD : Drop σ (ers (ers σ b) b') := Drop.trans (Drop.ers σ b) (Drop.ers _ b')
    refine ⟨_, ers (ers σ b) b', hD, fun i => ?_, hk _ hD fun y hy hy2 => ?_⟩
    · by_cases hi : i = t
      · subst hi
        rw [hρ, upd_same]
        refine .ptr hb (by rw [ers_ne _ _ _ (Ne.symm hbb)]; exact ers_same _ _) (.cons (.own h2 (ers_same _ _) ?_) .nil)
        have : (cs.drop (0 * s)).take (n * s) = cs := by simp [← h3]
        rw [this]
        exact .refl cs
      · rw [upd_ne _ _ _ _ hi]; exact .refl _
    · rw [ers_ne _ _ _ (fun e => hy2 s 0 n (by rw [e])), ers_ne _ _ _ hy]
theorem slC_ne {l : List (List (List Tm))} : l.map slC ≠ [.v (.slice none 0 0)] := fun e => by
  cases l with
  | nil => cases e
  | cons x l => rw [List.map_cons, slC] at e; injection e with e _; cases e
theorem slC_neG {σ0 σ : Sig} {s n : Nat} {a : AV} {cs : List AV} (h : Grow σ0 σ s a cs n) {l : List (List (List Tm))} : l.map slC ≠ [a] := fun e => by
  cases l with
  | nil => cases e
  | cons x l =>
    rw [List.map_cons, slC] at e
    injection e with e _
    rcases h with ⟨h, _⟩ | ⟨b', c, h0, h1, h2, h3⟩
    · rcases h with h | h <;> rw [h] at e <;> cases e
    · rw [h0] at e; cases e
theorem subW_get {l : List Nd} {n : Nd} {b : Bool} {k : Nat} {x : Int} (h : n.kids[k]? = some x) : (subW l n b)[k]? = some (casW l (x, b != decide (n.kind = 2))) := by simp [subW, h]
theorem subW_len {l : List Nd} {n : Nd} {b : Bool} : (subW l n b).length = n.kids.length := by simp [subW]
set_option maxHeartbeats 4000000 in
set_option maxRecDepth 20000 in
theorem f224 (f : Fm) (hl : Fits f.nodes.length) (hc : ∀ n ∈ f.nodes, NdFit n) (hok : ∀ k n, f.nodes[k]? = some n → NodeOk n k f.vars) (bc bm i : Nat) (n : Nd) (hn : f.nodes[i]? = some n) (ih : ∀ j, j < i → CasesAt Γ f bc bm j) : MadeAt Γ f bc bm i := by
  intro b m lar σ K hbad hbc hbm hm hK
  have hd := hdown hok
  have hok1 := hok i n hn
  have hcn := hc n (mem_of_get hn)
  have hkf := hcn.2
  have hlt := lt_of_getElem? hn
  have kbc : ¬ bm = bc := fun e => by rw [e, hbc] at hbm; cases hbm
  have kbc' : ¬ bc = bm := fun e => kbc e.symm
  have hbc' : σ bc = some (.row [int f.vars, slN f.nodes, .v (.map (some bm)), .v (.bool lar)] 4 1) := hbc
  obtain ⟨cl1, cl2, _⟩ := (cnt_cas hd hok (i + 1) i b n (by omega) hn).2 hbad
  have hCe := casW_eq hd hn b
  refine ACalls.retK (acalls (ok224z Γ) ?_)
  simp only [go_sem, xQ, ↓reduceIte, xA, xM, xL, xT, xE, xN, xP, xR, xS, Tryz.f224, hbc', hlt, ↓nd_term hn]
  intro b5 hb5
  have m5 : ¬ bc = b5 := nn hb5 hbc
  have m5' : ¬ b5 = bc := fun e => m5 e.symm
  have k5 : ¬ bm = b5 := nn hb5 hbm
  have k5' : ¬ b5 = bm := fun e => k5 e.symm
  simp only [go_sem, xQ, ↓reduceIte, xA, xM, xL, xT, xE, xN, xP, xR, xS, hbc', hlt, ↓nd_term hn, m5, m5', k5, k5']
  intro b6 hb6
  obtain ⟨n65, hb6⟩ := un hb6
  have n65' : ¬ b5 = b6 := fun e => n65 e.symm
  have m6 : ¬ bc = b6 := nn hb6 hbc
  have m6' : ¬ b6 = bc := fun e => m6 e.symm
  have k6 : ¬ bm = b6 := nn hb6 hbm
  have k6' : ¬ b6 = bm := fun e => k6 e.symm
  simp only [go_sem, xQ, ↓reduceIte, xA, xM, xL, xT, xE, xN, xP, xR, xS, hbc', m5, m5', k5, k5', n65, n65', m6, m6', k6, k6']
  refine callB_use (f222 f i b n hn) rfl ?_
  simp only [go_sem, xQ, ↓reduceIte, xA, xM, xL, xT, xE, xN, xP, xR, xS, hbc', m5, m5', k5, k5', n65, n65', m6, m6', k6, k6']
  rcases kindW_cases hok1 b with hk | hk | hk | hk | hk
  · have hkids : n.kids = [] := (hok1.term (by unfold kindW at hk; split at hk <;> omega)).2.2
    have hMM : MidL f.nodes i n b m lar n.kids.length m lar := by rw [hkids]; exact MidL.zero hm
    cases b with
    | true =>
      simp only [go_sem, xQ, ↓reduceIte, xA, xM, xL, xT, xE, xN, xP, xR, xS, hbc', m5, m5', k5, k5', n65, n65', m6, m6', k6, k6', hk]
      refine callB_use (f169 n.term (-1) hcn.1) rfl ?_
      simp only [go_sem, xQ, ↓reduceIte, xA, xM, xL, xT, xE, xN, xP, xR, xS, hbc', m5, m5', k5, k5', n65, n65', m6, m6', k6, k6', hk]
      refine callB_use (f253 (oppT n.term (-1)) 0 (by rw [opp_len]; exact hcn.1)) rfl ?_
      simp only [go_sem, xQ, ↓reduceIte, xA, xM, xL, xT, xE, xN, xP, xR, xS, hbc', m5, m5', k5, k5', n65, n65', m6, m6', k6, k6', hk]
      obtain ⟨C, hCC, hC0⟩ : ∃ C, casW f.nodes ((i : Int), true) = C ∧ C = [[lessT (oppT n.term (-1)) 0]] := ⟨_, rfl, by rw [hCe, hk]; rfl⟩
      rw [hCC] at cl1 cl2
      have hz : ∀ σ σ' : Sig, Fz σ σ' (slC [[lessT (oppT n.term (-1)) 0]]) (slC C) := fun σ σ' => by rw [hC0]; exact .refl _
      refine callB_gen (fun τ => τ bc = some (cntRow f bm lar) ∧ τ bm = some (.map (mapW m)) ∧ τ b6 = some (.row [slC [[lessT (oppT n.term (-1)) 0]]] 1 1) ∧ Frm bc bm σ τ) ⟨?_, ?_, ?_, ?_⟩ (fun τ ⟨qc, qm, q6, hF⟩ => ?_)
      · simp only [upd, m5, m6, if_false]; exact hbc
      · simp only [upd, k5, k6, if_false]; exact hbm
      · simp only [upd, if_true]; rfl
      · repeat (first | exact Frm.refl | refine Frm.new ?_ hb5 _ | refine Frm.new ?_ hb6 _)
      have hfl : C.flatten.length ≤ 64 * 32 := Nat.le_trans (flat_max C) (Nat.mul_le_mul cl1 cl2)
      refine callB_fz (f258 C (by omega) (by omega)) (.cons (hz _ _) .nil) ?_
      simp only [go_sem, xQ, ↓reduceIte, xA, xM, xL, xT, xE, xN, xP, xR, xS]
      refine SemC.loopK mixed C.flatten.length (fun k ρ σ2 ds => (ds = [] ∧ ρ 2 = .pp [.v (.pointer (some ⟨bc, 0, none⟩))] 0 ∧ ρ 6 = .v (.pointer (some ⟨b6, 0, none⟩)) ∧ ρ 114 = slT C.flatten ∧ ρ 115 = int C.flatten.length ∧ ρ 116 = int k) ∧ σ2 bc = some (cntRow f bm (lar || (C.flatten.take k).any larT)) ∧ σ2 bm = some (.map (mapW m)) ∧ σ2 b6 = some (.row [slC [[lessT (oppT n.term (-1)) 0]]] 1 1) ∧  Frm bc bm σ σ2) (by kernel_rfl) ⟨⟨rfl, by simp only [go_sem, xQ, ↓reduceIte, xA, xM, xL, xT, xE, xN, xP, xR, xS], by simp only [go_sem, xQ, ↓reduceIte, xA, xM, xL, xT, xE, xN, xP, xR, xS], rfl, rfl, rfl⟩, by simpa using qc, qm, q6,  hF⟩ ?_
      rintro k ρ σ2 ds hk ⟨⟨rfl, h2, h6, h114, h115, h116⟩, pc, pm, p6,  pF⟩
      rcases get_or_end C.flatten k hk with ⟨x, hx, hlt2, hd2⟩ | hk2
      · have hxf : Fits x.coeffs.length := by
          obtain ⟨y, h1, h2⟩ := List.mem_flatten.1 (mem_of_get hx)
          have := cas_fit hd hc (i + 1) i true n (by omega) hn
          rw [hCC] at this
          exact this y h1 x h2
        rw [any_take hx]
        generalize hzz : (lar || (C.flatten.take k).any larT) = z at pc
        have pc' : σ2 bc = some (.row [int f.vars, slN f.nodes, .v (.map (some bm)), .v (.bool z)] 4 1) := pc
        simp only [go_sem, xQ, ↓reduceIte, xA, xM, xL, xT, xE, xN, xP, xR, xS, h2, h6, h114, h115, h116, hlt2, ↓tm_part hx]
        intro b14 hb14
        have y6 : ¬ b6 = b14 := nn hb14 p6
        have yc : ¬ bc = b14 := nn hb14 pc
        have ym : ¬ bm = b14 := nn hb14 pm
        have yc' : ¬ b14 = bc := fun e => yc e.symm
        skip
        cases z with
        | true =>
          simp only [go_sem, xQ, ↓reduceIte, xA, xM, xL, xT, xE, xN, xP, xR, xS, h2, h6, h114, h115, h116, hlt2, ↓tm_part hx, pc', y6, yc, yc', ym]
          refine ⟨by rw [wrap_succ _ (by omega)], by rw [← Bool.or_assoc, hzz]; rfl, ?_⟩
          simp only [go_sem, xQ, ↓reduceIte, xA, xM, xL, xT, xE, xN, xP, xR, xS, ym, y6, pm, p6, m6', kbc, pm]
          exact (pF.fresh hb14 _).own (.inl rfl) _
        | false =>
          simp only [go_sem, xQ, ↓reduceIte, xA, xM, xL, xT, xE, xN, xP, xR, xS, h2, h6, h114, h115, h116, hlt2, ↓tm_part hx, pc', y6, yc, yc', ym]
          refine dcallB_use (f159 x hxf) rfl ?_
          simp only [go_sem, xQ, ↓reduceIte, xA, xM, xL, xT, xE, xN, xP, xR, xS, h2, h6, h114, h115, h116, hlt2, ↓tm_part hx, pc', y6, yc, yc', ym]
          refine ⟨by rw [wrap_succ _ (by omega)], by rw [← Bool.or_assoc, hzz, larT, Bool.false_or, decide_not]; rfl, ?_⟩
          simp only [go_sem, xQ, ↓reduceIte, xA, xM, xL, xT, xE, xN, xP, xR, xS, ym, y6, pm, p6, m6', kbc, pm]
          exact (pF.fresh hb14 _).own (.inl rfl) _
      · subst hk2
        rw [List.take_length] at pc
        simp only [go_sem, xQ, ↓reduceIte, xA, xM, xL, xT, xE, xN, xP, xR, xS, h2, h6, h114, h115, h116, Nat.lt_irrefl, p6, p6]
        obtain ⟨w1, w2, w3, w4⟩ := hMM.fin hd hn hCC
        exact ⟨slC C, _, hz _ _, Drop.refl _, hCC ▸ hK m (lar || larC C) _ w1 w2 w3 w4 hMM.new pc pm pF⟩
    | false =>
      simp only [go_sem, xQ, ↓reduceIte, xA, xM, xL, xT, xE, xN, xP, xR, xS, hbc', m5, m5', k5, k5', n65, n65', m6, m6', k6, k6', hk]
      refine callB_use (f253 n.term 0 hcn.1) rfl ?_
      simp only [go_sem, xQ, ↓reduceIte, xA, xM, xL, xT, xE, xN, xP, xR, xS, hbc', m5, m5', k5, k5', n65, n65', m6, m6', k6, k6', hk]
      obtain ⟨C, hCC, hC0⟩ : ∃ C, casW f.nodes ((i : Int), false) = C ∧ C = [[lessT n.term 0]] := ⟨_, rfl, by rw [hCe, hk]; rfl⟩
      rw [hCC] at cl1 cl2
      have hz : ∀ σ σ' : Sig, Fz σ σ' (slC [[lessT n.term 0]]) (slC C) := fun σ σ' => by rw [hC0]; exact .refl _
      refine callB_gen (fun τ => τ bc = some (cntRow f bm lar) ∧ τ bm = some (.map (mapW m)) ∧ τ b6 = some (.row [slC [[lessT n.term 0]]] 1 1) ∧ Frm bc bm σ τ) ⟨?_, ?_, ?_, ?_⟩ (fun τ ⟨qc, qm, q6, hF⟩ => ?_)
      · simp only [upd, m5, m6, if_false]; exact hbc
      · simp only [upd, k5, k6, if_false]; exact hbm
      · simp only [upd, if_true]; rfl
      · repeat (first | exact Frm.refl | refine Frm.new ?_ hb5 _ | refine Frm.new ?_ hb6 _)
      have hfl : C.flatten.length ≤ 64 * 32 := Nat.le_trans (flat_max C) (Nat.mul_le_mul cl1 cl2)
      refine callB_fz (f258 C (by omega) (by omega)) (.cons (hz _ _) .nil) ?_
      simp only [go_sem, xQ, ↓reduceIte, xA, xM, xL, xT, xE, xN, xP, xR, xS]
      refine SemC.loopK mixed C.flatten.length (fun k ρ σ2 ds => (ds = [] ∧ ρ 2 = .pp [.v (.pointer (some ⟨bc, 0, none⟩))] 0 ∧ ρ 6 = .v (.pointer (some ⟨b6, 0, none⟩)) ∧ ρ 114 = slT C.flatten ∧ ρ 115 = int C.flatten.length ∧ ρ 116 = int k) ∧ σ2 bc = some (cntRow f bm (lar || (C.flatten.take k).any larT)) ∧ σ2 bm = some (.map (mapW m)) ∧ σ2 b6 = some (.row [slC [[lessT n.term 0]]] 1 1) ∧  Frm bc bm σ σ2) (by kernel_rfl) ⟨⟨rfl, by simp only [go_sem, xQ, ↓reduceIte, xA, xM, xL, xT, xE, xN, xP, xR, xS], by simp only [go_sem, xQ, ↓reduceIte, xA, xM, xL, xT, xE, xN, xP, xR, xS], rfl, rfl, rfl⟩, by simpa using qc, qm, q6,  hF⟩ ?_
      rintro k ρ σ2 ds hk ⟨⟨rfl, h2, h6, h114, h115, h116⟩, pc, pm, p6,  pF⟩
      rcases get_or_end C.flatten k hk with ⟨x, hx, hlt2, hd2⟩ | hk2
      · have hxf : Fits x.coeffs.length := by
          obtain ⟨y, h1, h2⟩ := List.mem_flatten.1 (mem_of_get hx)
          have := cas_fit hd hc (i + 1) i false n (by omega) hn
          rw [hCC] at this
          exact this y h1 x h2
        rw [any_take hx]
        generalize hzz : (lar || (C.flatten.take k).any larT) = z at pc
        have pc' : σ2 bc = some (.row [int f.vars, slN f.nodes, .v (.map (some bm)), .v (.bool z)] 4 1) := pc
        simp only [go_sem, xQ, ↓reduceIte, xA, xM, xL, xT, xE, xN, xP, xR, xS, h2, h6, h114, h115, h116, hlt2, ↓tm_part hx]
        intro b14 hb14
        have y6 : ¬ b6 = b14 := nn hb14 p6
        have yc : ¬ bc = b14 := nn hb14 pc
        have ym : ¬ bm = b14 := nn hb14 pm
        have yc' : ¬ b14 = bc := fun e => yc e.symm
        skip
        cases z with
        | true =>
          simp only [go_sem, xQ, ↓reduceIte, xA, xM, xL, xT, xE, xN, xP, xR, xS, h2, h6, h114, h115, h116, hlt2, ↓tm_part hx, pc', y6, yc, yc', ym]
          refine ⟨by rw [wrap_succ _ (by omega)], by rw [← Bool.or_assoc, hzz]; rfl, ?_⟩
          simp only [go_sem, xQ, ↓reduceIte, xA, xM, xL, xT, xE, xN, xP, xR, xS, ym, y6, pm, p6, m6', kbc, pm]
          exact (pF.fresh hb14 _).own (.inl rfl) _
        | false =>
          simp only [go_sem, xQ, ↓reduceIte, xA, xM, xL, xT, xE, xN, xP, xR, xS, h2, h6, h114, h115, h116, hlt2, ↓tm_part hx, pc', y6, yc, yc', ym]
          refine dcallB_use (f159 x hxf) rfl ?_
          simp only [go_sem, xQ, ↓reduceIte, xA, xM, xL, xT, xE, xN, xP, xR, xS, h2, h6, h114, h115, h116, hlt2, ↓tm_part hx, pc', y6, yc, yc', ym]
          refine ⟨by rw [wrap_succ _ (by omega)], by rw [← Bool.or_assoc, hzz, larT, Bool.false_or, decide_not]; rfl, ?_⟩
          simp only [go_sem, xQ, ↓reduceIte, xA, xM, xL, xT, xE, xN, xP, xR, xS, ym, y6, pm, p6, m6', kbc, pm]
          exact (pF.fresh hb14 _).own (.inl rfl) _
      · subst hk2
        rw [List.take_length] at pc
        simp only [go_sem, xQ, ↓reduceIte, xA, xM, xL, xT, xE, xN, xP, xR, xS, h2, h6, h114, h115, h116, Nat.lt_irrefl, p6, p6]
        obtain ⟨w1, w2, w3, w4⟩ := hMM.fin hd hn hCC
        exact ⟨slC C, _, hz _ _, Drop.refl _, hCC ▸ hK m (lar || larC C) _ w1 w2 w3 w4 hMM.new pc pm pF⟩
  · have hkids : n.kids = [] := (hok1.term (by unfold kindW at hk; split at hk <;> omega)).2.2
    have hMM : MidL f.nodes i n b m lar n.kids.length m lar := by rw [hkids]; exact MidL.zero hm
    have e10 : ((1 : Int) = 0) = False := eq_false (by decide)
    cases b with
    | true =>
      simp only [go_sem, xQ, ↓reduceIte, xA, xM, xL, xT, xE, xN, xP, xR, xS, hbc', m5, m5', k5, k5', n65, n65', m6, m6', k6, k6', hk, e10]
      refine dcallB_use (f253 n.term 0 hcn.1) rfl ?_
      simp only [go_sem, xQ, ↓reduceIte, xA, xM, xL, xT, xE, xN, xP, xR, xS, hbc', m5, m5', k5, k5', n65, n65', m6, m6', k6, k6', hk]
      refine callB_use (f169 n.term 0 hcn.1) rfl ?_
      simp only [go_sem, xQ, ↓reduceIte, xA, xM, xL, xT, xE, xN, xP, xR, xS, hbc', m5, m5', k5, k5', n65, n65', m6, m6', k6, k6', hk]
      refine dcallB_use (f253 n.term 1 hcn.1) rfl ?_
      simp only [go_sem, xQ, ↓reduceIte, xA, xM, xL, xT, xE, xN, xP, xR, xS, hbc', m5, m5', k5, k5', n65, n65', m6, m6', k6, k6', hk]
      refine callB_use (f169 n.term (-1) hcn.1) rfl ?_
      simp only [go_sem, xQ, ↓reduceIte, xA, xM, xL, xT, xE, xN, xP, xR, xS, hbc', m5, m5', k5, k5', n65, n65', m6, m6', k6, k6', hk]
      obtain ⟨C, hCC, hC0⟩ : ∃ C, casW f.nodes ((i : Int), true) = C ∧ C = [[lessT n.term 1], [oppT n.term (-1)]] := ⟨_, rfl, by rw [hCe, hk]; rfl⟩
      rw [hCC] at cl1 cl2
      have hz : ∀ σ σ' : Sig, Fz σ σ' (slC [[lessT n.term 1], [oppT n.term (-1)]]) (slC C) := fun σ σ' => by rw [hC0]; exact .refl _
      refine callB_gen (fun τ => τ bc = some (cntRow f bm lar) ∧ τ bm = some (.map (mapW m)) ∧ τ b6 = some (.row [slC [[lessT n.term 1], [oppT n.term (-1)]]] 1 1) ∧ Frm bc bm σ τ) ⟨?_, ?_, ?_, ?_⟩ (fun τ ⟨qc, qm, q6, hF⟩ => ?_)
      · simp only [upd, m5, m6, if_false]; exact hbc
      · simp only [upd, k5, k6, if_false]; exact hbm
      · simp only [upd, if_true]; rfl
      · repeat (first | exact Frm.refl | refine Frm.new ?_ hb5 _ | refine Frm.new ?_ hb6 _)
      have hfl : C.flatten.length ≤ 64 * 32 := Nat.le_trans (flat_max C) (Nat.mul_le_mul cl1 cl2)
      refine callB_fz (f258 C (by omega) (by omega)) (.cons (hz _ _) .nil) ?_
      simp only [go_sem, xQ, ↓reduceIte, xA, xM, xL, xT, xE, xN, xP, xR, xS]
      refine SemC.loopK mixed C.flatten.length (fun k ρ σ2 ds => (ds = [] ∧ ρ 2 = .pp [.v (.pointer (some ⟨bc, 0, none⟩))] 0 ∧ ρ 6 = .v (.pointer (some ⟨b6, 0, none⟩)) ∧ ρ 114 = slT C.flatten ∧ ρ 115 = int C.flatten.length ∧ ρ 116 = int k) ∧ σ2 bc = some (cntRow f bm (lar || (C.flatten.take k).any larT)) ∧ σ2 bm = some (.map (mapW m)) ∧ σ2 b6 = some (.row [slC [[lessT n.term 1], [oppT n.term (-1)]]] 1 1) ∧  Frm bc bm σ σ2) (by kernel_rfl) ⟨⟨rfl, by simp only [go_sem, xQ, ↓reduceIte, xA, xM, xL, xT, xE, xN, xP, xR, xS], by simp only [go_sem, xQ, ↓reduceIte, xA, xM, xL, xT, xE, xN, xP, xR, xS], rfl, rfl, rfl⟩, by simpa using qc, qm, q6,  hF⟩ ?_
      rintro k ρ σ2 ds hk ⟨⟨rfl, h2, h6, h114, h115, h116⟩, pc, pm, p6,  pF⟩
      rcases get_or_end C.flatten k hk with ⟨x, hx, hlt2, hd2⟩ | hk2
      · have hxf : Fits x.coeffs.length := by
          obtain ⟨y, h1, h2⟩ := List.mem_flatten.1 (mem_of_get hx)
          have := cas_fit hd hc (i + 1) i true n (by omega) hn
          rw [hCC] at this
          exact this y h1 x h2
        rw [any_take hx]
        generalize hzz : (lar || (C.flatten.take k).any larT) = z at pc
        have pc' : σ2 bc = some (.row [int f.vars, slN f.nodes, .v (.map (some bm)), .v (.bool z)] 4 1) := pc
        simp only [go_sem, xQ, ↓reduceIte, xA, xM, xL, xT, xE, xN, xP, xR, xS, h2, h6, h114, h115, h116, hlt2, ↓tm_part hx]
        intro b14 hb14
        have y6 : ¬ b6 = b14 := nn hb14 p6
        have yc : ¬ bc = b14 := nn hb14 pc
        have ym : ¬ bm = b14 := nn hb14 pm
        have yc' : ¬ b14 = bc := fun e => yc e.symm
        skip
        cases z with
        | true =>
          simp only [go_sem, xQ, ↓reduceIte, xA, xM, xL, xT, xE, xN, xP, xR, xS, h2, h6, h114, h115, h116, hlt2, ↓tm_part hx, pc', y6, yc, yc', ym]
          refine ⟨by rw [wrap_succ _ (by omega)], by rw [← Bool.or_assoc, hzz]; rfl, ?_⟩
          simp only [go_sem, xQ, ↓reduceIte, xA, xM, xL, xT, xE, xN, xP, xR, xS, ym, y6, pm, p6, m6', kbc, pm]
          exact (pF.fresh hb14 _).own (.inl rfl) _
        | false =>
          simp only [go_sem, xQ, ↓reduceIte, xA, xM, xL, xT, xE, xN, xP, xR, xS, h2, h6, h114, h115, h116, hlt2, ↓tm_part hx, pc', y6, yc, yc', ym]
          refine dcallB_use (f159 x hxf) rfl ?_
          simp only [go_sem, xQ, ↓reduceIte, xA, xM, xL, xT, xE, xN, xP, xR, xS, h2, h6, h114, h115, h116, hlt2, ↓tm_part hx, pc', y6, yc, yc', ym]
          refine ⟨by rw [wrap_succ _ (by omega)], by rw [← Bool.or_assoc, hzz, larT, Bool.false_or, decide_not]; rfl, ?_⟩
          simp only [go_sem, xQ, ↓reduceIte, xA, xM, xL, xT, xE, xN, xP, xR, xS, ym, y6, pm, p6, m6', kbc, pm]
          exact (pF.fresh hb14 _).own (.inl rfl) _
      · subst hk2
        rw [List.take_length] at pc
        simp only [go_sem, xQ, ↓reduceIte, xA, xM, xL, xT, xE, xN, xP, xR, xS, h2, h6, h114, h115, h116, Nat.lt_irrefl, p6, p6]
        obtain ⟨w1, w2, w3, w4⟩ := hMM.fin hd hn hCC
        exact ⟨slC C, _, hz _ _, Drop.refl _, hCC ▸ hK m (lar || larC C) _ w1 w2 w3 w4 hMM.new pc pm pF⟩
    | false =>
      simp only [go_sem, xQ, ↓reduceIte, xA, xM, xL, xT, xE, xN, xP, xR, xS, hbc', m5, m5', k5, k5', n65, n65', m6, m6', k6, k6', hk, e10]
      refine dcallB_use (f253 n.term 0 hcn.1) rfl ?_
      simp only [go_sem, xQ, ↓reduceIte, xA, xM, xL, xT, xE, xN, xP, xR, xS, hbc', m5, m5', k5, k5', n65, n65', m6, m6', k6, k6', hk]
      refine callB_use (f169 n.term 0 hcn.1) rfl ?_
      simp only [go_sem, xQ, ↓reduceIte, xA, xM, xL, xT, xE, xN, xP, xR, xS, hbc', m5, m5', k5, k5', n65, n65', m6, m6', k6, k6', hk]
      obtain ⟨C, hCC, hC0⟩ : ∃ C, casW f.nodes ((i : Int), false) = C ∧ C = [[lessT n.term 0, oppT n.term 0]] := ⟨_, rfl, by rw [hCe, hk]; rfl⟩
      rw [hCC] at cl1 cl2
      have hz : ∀ σ σ' : Sig, Fz σ σ' (slC [[lessT n.term 0, oppT n.term 0]]) (slC C) := fun σ σ' => by rw [hC0]; exact .refl _
      refine callB_gen (fun τ => τ bc = some (cntRow f bm lar) ∧ τ bm = some (.map (mapW m)) ∧ τ b6 = some (.row [slC [[lessT n.term 0, oppT n.term 0]]] 1 1) ∧ Frm bc bm σ τ) ⟨?_, ?_, ?_, ?_⟩ (fun τ ⟨qc, qm, q6, hF⟩ => ?_)
      · simp only [upd, m5, m6, if_false]; exact hbc
      · simp only [upd, k5, k6, if_false]; exact hbm
      · simp only [upd, if_true]; rfl
      · repeat (first | exact Frm.refl | refine Frm.new ?_ hb5 _ | refine Frm.new ?_ hb6 _)
      have hfl : C.flatten.length ≤ 64 * 32 := Nat.le_trans (flat_max C) (Nat.mul_le_mul cl1 cl2)
      refine callB_fz (f258 C (by omega) (by omega)) (.cons (hz _ _) .nil) ?_
      simp only [go_sem, xQ, ↓reduceIte, xA, xM, xL, xT, xE, xN, xP, xR, xS]
      refine SemC.loopK mixed C.flatten.length (fun k ρ σ2 ds => (ds = [] ∧ ρ 2 = .pp [.v (.pointer (some ⟨bc, 0, none⟩))] 0 ∧ ρ 6 = .v (.pointer (some ⟨b6, 0, none⟩)) ∧ ρ 114 = slT C.flatten ∧ ρ 115 = int C.flatten.length ∧ ρ 116 = int k) ∧ σ2 bc = some (cntRow f bm (lar || (C.flatten.take k).any larT)) ∧ σ2 bm = some (.map (mapW m)) ∧ σ2 b6 = some (.row [slC [[lessT n.term 0, oppT n.term 0]]] 1 1) ∧  Frm bc bm σ σ2) (by kernel_rfl) ⟨⟨rfl, by simp only [go_sem, xQ, ↓reduceIte, xA, xM, xL, xT, xE, xN, xP, xR, xS], by simp only [go_sem, xQ, ↓reduceIte, xA, xM, xL, xT, xE, xN, xP, xR, xS], rfl, rfl, rfl⟩, by simpa using qc, qm, q6,  hF⟩ ?_
      rintro k ρ σ2 ds hk ⟨⟨rfl, h2, h6, h114, h115, h116⟩, pc, pm, p6,  pF⟩
      rcases get_or_end C.flatten k hk with ⟨x, hx, hlt2, hd2⟩ | hk2
      · have hxf : Fits x.coeffs.length := by
          obtain ⟨y, h1, h2⟩ := List.mem_flatten.1 (mem_of_get hx)
          have := cas_fit hd hc (i + 1) i false n (by omega) hn
          rw [hCC] at this
          exact this y h1 x h2
        rw [any_take hx]
        generalize hzz : (lar || (C.flatten.take k).any larT) = z at pc
        have pc' : σ2 bc = some (.row [int f.vars, slN f.nodes, .v (.map (some bm)), .v (.bool z)] 4 1) := pc
        simp only [go_sem, xQ, ↓reduceIte, xA, xM, xL, xT, xE, xN, xP, xR, xS, h2, h6, h114, h115, h116, hlt2, ↓tm_part hx]
        intro b14 hb14
        have y6 : ¬ b6 = b14 := nn hb14 p6
        have yc : ¬ bc = b14 := nn hb14 pc
        have ym : ¬ bm = b14 := nn hb14 pm
        have yc' : ¬ b14 = bc := fun e => yc e.symm
        skip
        cases z with
        | true =>
          simp only [go_sem, xQ, ↓reduceIte, xA, xM, xL, xT, xE, xN, xP, xR, xS, h2, h6, h114, h115, h116, hlt2, ↓tm_part hx, pc', y6, yc, yc', ym]
          refine ⟨by rw [wrap_succ _ (by omega)], by rw [← Bool.or_assoc, hzz]; rfl, ?_⟩
          simp only [go_sem, xQ, ↓reduceIte, xA, xM, xL, xT, xE, xN, xP, xR, xS, ym, y6, pm, p6, m6', kbc, pm]
          exact (pF.fresh hb14 _).own (.inl rfl) _
        | false =>
          simp only [go_sem, xQ, ↓reduceIte, xA, xM, xL, xT, xE, xN, xP, xR, xS, h2, h6, h114, h115, h116, hlt2, ↓tm_part hx, pc', y6, yc, yc', ym]
          refine dcallB_use (f159 x hxf) rfl ?_
          simp only [go_sem, xQ, ↓reduceIte, xA, xM, xL, xT, xE, xN, xP, xR, xS, h2, h6, h114, h115, h116, hlt2, ↓tm_part hx, pc', y6, yc, yc', ym]
          refine ⟨by rw [wrap_succ _ (by omega)], by rw [← Bool.or_assoc, hzz, larT, Bool.false_or, decide_not]; rfl, ?_⟩
          simp only [go_sem, xQ, ↓reduceIte, xA, xM, xL, xT, xE, xN, xP, xR, xS, ym, y6, pm, p6, m6', kbc, pm]
          exact (pF.fresh hb14 _).own (.inl rfl) _
      · subst hk2
        rw [List.take_length] at pc
        simp only [go_sem, xQ, ↓reduceIte, xA, xM, xL, xT, xE, xN, xP, xR, xS, h2, h6, h114, h115, h116, Nat.lt_irrefl, p6, p6]
        obtain ⟨w1, w2, w3, w4⟩ := hMM.fin hd hn hCC
        exact ⟨slC C, _, hz _ _, Drop.refl _, hCC ▸ hK m (lar || larC C) _ w1 w2 w3 w4 hMM.new pc pm pF⟩
  · have hk2 : n.kind = 2 := by unfold kindW at hk; split at hk <;> omega
    have e20 : ((2 : Int) = 0) = False := eq_false (by decide)
    have e21 : ((2 : Int) = 1) = False := eq_false (by decide)
    simp only [go_sem, xQ, ↓reduceIte, xA, xM, xL, xT, xE, xN, xP, xR, xS, hbc', m5, m5', k5, k5', n65, n65', m6, m6', k6, k6', hk, e20, e21]
    refine callB_use (f223 f i b) rfl ?_
    simp only [go_sem, xQ, ↓reduceIte, xA, xM, xL, xT, xE, xN, xP, xR, xS, hbc', m5, m5', k5, k5', n65, n65', m6, m6', k6, k6', hk]
    refine SemC.rangeE (xs := waysX n b) (D := ownD n) (E := noD) (pre := fun _ => True) (f := 252) (first := []) (captured := [.pp (fmC f) 0, .pp [int i, .v (.bool b)] 0]) mixed (by simp only [go_sem, xQ, ↓reduceIte, xA, xM, xL, xT, xE, xN, xP, xR, xS]) (f252 f i b n hn hkf) (by decide) (by kernel_rfl) (by kernel_rfl) own_ctl noD_ctl (fun _ _ _ _ _ _ => trivial)
      (fun k σ' => ∃ (m1 : List (WayT × AV)) (lar1 : Bool) (o : AV), (MidL f.nodes i n b m lar k m1 lar1 ∧ (∀ σ σ' : Sig, Fz σ σ' o (slC (((subW f.nodes n b).take k).getLastD [])))) ∧ σ' bc = some (cntRow f bm lar1) ∧ σ' bm = some (.map (mapW m1)) ∧ σ' b6 = some (.row [o] 1 1) ∧  Frm bc bm σ σ')
      (fun e σ' => False)
      (fun k x ρ1 σ' => ∃ (j b8 : Nat) (m1 : List (WayT × AV)) (lar1 : Bool) (o : AV), (n.kids[k]? = some (j : Int) ∧ ρ1 2 = .pp [.v (.pointer (some ⟨bc, 0, none⟩))] 0 ∧ ρ1 6 = .v (.pointer (some ⟨b6, 0, none⟩)) ∧ ρ1 7 = .v (.pointer (some ⟨b8, 0, none⟩)) ∧  MidL f.nodes i n b m lar k m1 lar1 ∧ (∀ σ σ' : Sig, Fz σ σ' o (slC (((subW f.nodes n b).take k).getLastD [])))) ∧ σ' b8 = some (.row [int j, .v (.bool (b != decide (n.kind = 2)))] 2 1) ∧ σ' bc = some (cntRow f bm lar1) ∧ σ' bm = some (.map (mapW m1)) ∧ σ' b6 = some (.row [o] 1 1) ∧  Frm bc bm σ σ')
      (by intros; repeat' (first | exact Closed.row (fun h => h) | exact Closed.grow (fun _ h => h) | exact Closed.map (fun h => h) | exact Frm.closed (fun x hx => by first | exact hx | exact (un hx).2 | exact (un (un hx).2).2 | exact (un (un (un hx).2).2).2 | exact (un (un (un (un hx).2).2).2).2) | exact Closed.const _ | refine Closed.ex fun _ => ?_ | refine Closed.and ?_ ?_))
      (by intros; repeat' (first | exact Closed.row (fun h => h) | exact Closed.grow (fun _ h => h) | exact Closed.map (fun h => h) | exact Frm.closed (fun x hx => by first | exact hx | exact (un hx).2 | exact (un (un hx).2).2 | exact (un (un (un hx).2).2).2 | exact (un (un (un (un hx).2).2).2).2) | exact Closed.const _ | refine Closed.ex fun _ => ?_ | refine Closed.and ?_ ?_))
      (by intros; repeat' (first | exact Closed.row (fun h => h) | exact Closed.grow (fun _ h => h) | exact Closed.map (fun h => h) | exact Frm.closed (fun x hx => by first | exact hx | exact (un hx).2 | exact (un (un hx).2).2 | exact (un (un (un hx).2).2).2 | exact (un (un (un (un hx).2).2).2).2) | exact Closed.const _ | refine Closed.ex fun _ => ?_ | refine Closed.and ?_ ?_))
      ?_ ?_ ?_ ?_ ?_
    · exact ⟨m, lar, _, ⟨MidL.zero hm, fun _ _ => .nil⟩, by simp only [go_sem, xQ, ↓reduceIte, xA, xM, xL, xT, xE, xN, xP, xR, xS, m5, m6]; exact hbc, by simp only [go_sem, xQ, ↓reduceIte, xA, xM, xL, xT, xE, xN, xP, xR, xS, k5, k6]; exact hbm, by simp only [go_sem, xQ, ↓reduceIte, xA, xM, xL, xT, xE, xN, xP, xR, xS], (Frm.refl.new hb5 _).new hb6 _⟩
    · rintro k x E σ' lq hE hx ⟨m1, lar1, o, ⟨hM, hoo⟩, qc, qm, q6,  hF⟩
      obtain ⟨c, hc', rfl⟩ := waysX_get hx
      obtain ⟨j, rfl⟩ := Int.eq_ofNat_of_zero_le (hd i n hn c (mem_of_get hc')).1
      have e2 : E 2 = .pp [.v (.pointer (some ⟨bc, 0, none⟩))] 0 := by rw [hE 2 (by decide)]; simp only [go_sem, xQ, ↓reduceIte, xA, xM, xL, xT, xE, xN, xP, xR, xS]
      have e6 : E 6 = .v (.pointer (some ⟨b6, 0, none⟩)) := by rw [hE 6 (by decide)]; simp only [go_sem, xQ, ↓reduceIte, xA, xM, xL, xT, xE, xN, xP, xR, xS]
      skip
      simp only [go_sem, xQ, ↓reduceIte, xA, xM, xL, xT, xE, xN, xP, xR, xS, e2, e6]
      intro b8 hb8
      have x6 : ¬ b6 = b8 := nn hb8 q6
      have xc : ¬ bc = b8 := nn hb8 qc
      have xm : ¬ bm = b8 := nn hb8 qm
      skip
      simp only [go_sem, xQ, ↓reduceIte, xA, xM, xL, xT, xE, xN, xP, xR, xS, e2, e6, hc']
      refine ⟨(Keep.refl _ _).upd (keep_none hb8), j, b8, m1, lar1, o, ?_⟩
      simp only [go_sem, xQ, ↓reduceIte, xA, xM, xL, xT, xE, xN, xP, xR, xS, e2, e6, hc', x6, xc, xm, q6, qc, qm, hc']
      exact ⟨⟨hM, hoo⟩, hF.fresh hb8 _⟩
    · rintro k x ρ1 σ' lq hx ⟨j, b8, m1, lar1, o, ⟨hc', h2, h6, h7, hM, hoo⟩, q8, qc, qm, q6, hF⟩
      simp only [go_sem, xQ, ↓reduceIte, xA, xM, xL, xT, xE, xN, xP, xR, xS, h2, h6, h7, q8]
      obtain ⟨nc, hnc⟩ : ∃ nc, f.nodes[j]? = some nc := ⟨f.nodes[j]'(by have := (hd i n hn _ (mem_of_get hc')).2; have := lt_of_getElem? hn; omega), List.getElem?_eq_getElem _⟩
      have hji : (j : Int) < (i : Int) := (hd i n hn _ (mem_of_get hc')).2
      have hbk := bad_kid hd hn hbad (mem_of_get hc')
      obtain ⟨kl1, kl2, _⟩ := (cnt_cas hd hok (j + 1) j (b != decide (n.kind = 2)) nc (by omega) hnc).2 hbk
      have hsg := subW_get (l := f.nodes) (b := b) hc'
      have htk := take_succ hsg
      refine callB_a (ih j (by omega) (b != decide (n.kind = 2)) m1 lar1 _ _ hbk qc qm hM.memo ?_) rfl
      intro m2 lar2 σ2 hm2 u1 u2 u3 u4 qc2 qm2 hF2
      have hK1 := hF2.keep1 qc qm
      have q62 : σ2 b6 = some (.row [o] 1 1) := hK1 _ _ _ q6
      have hK2 := Frm.keep (n := n) qc own_cnt qm hF2
      have hM2 := hM.succ hc' hji hm2 u1 u2 u3 u4
      have hFF := hF.trans hF2
      simp only [go_sem, xQ, ↓reduceIte, xA, xM, xL, xT, xE, xN, xP, xR, xS, h2, h6, h7, q62]
      refine ⟨hK2.upd (keep_row q6 (own_row (by decide))), m2, lar2, slC (casW f.nodes ((j : Int), b != decide (n.kind = 2))), ⟨hM2, fun _ _ => ?_⟩, ?_⟩
      · rw [htk, List.getLastD_concat]; exact .refl _
      · simp only [go_sem, xQ, ↓reduceIte, xA, xM, xL, xT, xE, xN, xP, xR, xS, m6, k6, qc2, qm2]
        exact hFF.new hb6 _
    · rintro σ' r hr' ⟨m1, lar1, o, ⟨hMM, hoo⟩, qc, qm, q6,  hF⟩ hdr
      rw [waysX_len] at hMM
      have r6 : ¬ b6 = r := dn hdr q6
      have rc : ¬ bc = r := dn hdr qc
      have rm : ¬ bm = r := fun e => by rw [e, hdr] at qm; cases qm
      have r6' : ¬ r = b6 := fun e => r6 e.symm
      have rc' : ¬ r = bc := fun e => rc e.symm
      have rm' : ¬ r = bm := fun e => rm e.symm
      have hr0 : σ r = none := (un (un hr').2).2
      rw [waysX_len, ← subW_len (l := f.nodes) (b := b), List.take_length] at hoo
      obtain ⟨C, hCC, hC0⟩ : ∃ C, casW f.nodes ((i : Int), b) = C ∧ C = (subW f.nodes n b).getLastD [] := ⟨_, rfl, by rw [hCe, hk]; rfl⟩
      rw [hCC] at cl1 cl2
      have hz : ∀ σ σ' : Sig, Fz σ σ' o (slC C) := fun σ σ' => by rw [hC0]; exact hoo _ _
      simp only [go_sem, xQ, ↓reduceIte, xA, xM, xL, xT, xE, xN, xP, xR, xS, q6]
      have hfl : C.flatten.length ≤ 64 * 32 := Nat.le_trans (flat_max C) (Nat.mul_le_mul cl1 cl2)
      refine callB_fz (f258 C (by omega) (by omega)) (.cons (hz _ _) .nil) ?_
      simp only [go_sem, xQ, ↓reduceIte, xA, xM, xL, xT, xE, xN, xP, xR, xS]
      refine SemC.loopK mixed C.flatten.length (fun k ρ σ2 ds => (ds = [r] ∧ ρ 2 = .pp [.v (.pointer (some ⟨bc, 0, none⟩))] 0 ∧ ρ 6 = .v (.pointer (some ⟨b6, 0, none⟩)) ∧ ρ 114 = slT C.flatten ∧ ρ 115 = int C.flatten.length ∧ ρ 116 = int k) ∧ σ2 bc = some (cntRow f bm (lar1 || (C.flatten.take k).any larT)) ∧ σ2 bm = some (.map (mapW m1)) ∧ σ2 b6 = some (.row [o] 1 1) ∧ σ2 r = some (.obj (.deferred (some []))) ∧ Frm bc bm σ σ2) (by kernel_rfl) ⟨⟨rfl, by simp only [go_sem, xQ, ↓reduceIte, xA, xM, xL, xT, xE, xN, xP, xR, xS], by simp only [go_sem, xQ, ↓reduceIte, xA, xM, xL, xT, xE, xN, xP, xR, xS], rfl, rfl, rfl⟩, by simpa using qc, qm, q6, hdr, hF⟩ ?_
      rintro k ρ σ2 ds hk ⟨⟨rfl, h2, h6, h114, h115, h116⟩, pc, pm, p6, hdr, pF⟩
      rcases get_or_end C.flatten k hk with ⟨x, hx, hlt2, hd2⟩ | hk2
      · have hxf : Fits x.coeffs.length := by
          obtain ⟨y, h1, h2⟩ := List.mem_flatten.1 (mem_of_get hx)
          have := cas_fit hd hc (i + 1) i b n (by omega) hn
          rw [hCC] at this
          exact this y h1 x h2
        rw [any_take hx]
        generalize hzz : (lar1 || (C.flatten.take k).any larT) = z at pc
        have pc' : σ2 bc = some (.row [int f.vars, slN f.nodes, .v (.map (some bm)), .v (.bool z)] 4 1) := pc
        simp only [go_sem, xQ, ↓reduceIte, xA, xM, xL, xT, xE, xN, xP, xR, xS, h2, h6, h114, h115, h116, hlt2, ↓tm_part hx]
        intro b14 hb14
        have y6 : ¬ b6 = b14 := nn hb14 p6
        have yc : ¬ bc = b14 := nn hb14 pc
        have ym : ¬ bm = b14 := nn hb14 pm
        have yc' : ¬ b14 = bc := fun e => yc e.symm
        have yr : ¬ r = b14 := fun e => by rw [← e, hdr] at hb14; cases hb14
        cases z with
        | true =>
          simp only [go_sem, xQ, ↓reduceIte, xA, xM, xL, xT, xE, xN, xP, xR, xS, h2, h6, h114, h115, h116, hlt2, ↓tm_part hx, pc', y6, yc, yc', ym]
          refine ⟨by rw [wrap_succ _ (by omega)], by rw [← Bool.or_assoc, hzz]; rfl, ?_⟩
          simp only [go_sem, xQ, ↓reduceIte, xA, xM, xL, xT, xE, xN, xP, xR, xS, ym, y6, pm, p6, m6', kbc, yr, hdr, rc']
          exact (pF.fresh hb14 _).own (.inl rfl) _
        | false =>
          simp only [go_sem, xQ, ↓reduceIte, xA, xM, xL, xT, xE, xN, xP, xR, xS, h2, h6, h114, h115, h116, hlt2, ↓tm_part hx, pc', y6, yc, yc', ym]
          refine dcallB_use (f159 x hxf) rfl ?_
          simp only [go_sem, xQ, ↓reduceIte, xA, xM, xL, xT, xE, xN, xP, xR, xS, h2, h6, h114, h115, h116, hlt2, ↓tm_part hx, pc', y6, yc, yc', ym]
          refine ⟨by rw [wrap_succ _ (by omega)], by rw [← Bool.or_assoc, hzz, larT, Bool.false_or, decide_not]; rfl, ?_⟩
          simp only [go_sem, xQ, ↓reduceIte, xA, xM, xL, xT, xE, xN, xP, xR, xS, ym, y6, pm, p6, m6', kbc, yr, hdr, rc']
          exact (pF.fresh hb14 _).own (.inl rfl) _
      · subst hk2
        rw [List.take_length] at pc
        simp only [go_sem, xQ, ↓reduceIte, xA, xM, xL, xT, xE, xN, xP, xR, xS, h2, h6, h114, h115, h116, Nat.lt_irrefl, p6, hdr]
        obtain ⟨w1, w2, w3, w4⟩ := hMM.fin hd hn hCC
        exact ⟨slC C, _, hz _ _, Drop.refl _, hCC ▸ hK m1 (lar1 || larC C) _ w1 w2 w3 w4 hMM.new (by rw [ers_ne _ _ _ rc]; exact pc) (by rw [ers_ne _ _ _ rm]; exact pm) (by rw [ers_upd]; exact pF.new hr0 _)⟩
    · rintro e σ' r hr' hF hdr
      exact hF.elim
  · have e30 : ((3 : Int) = 0) = False := eq_false (by decide)
    have e31 : ((3 : Int) = 1) = False := eq_false (by decide)
    have e32 : ((3 : Int) = 2) = False := eq_false (by decide)
    simp only [go_sem, xQ, ↓reduceIte, xA, xM, xL, xT, xE, xN, xP, xR, xS, hbc', m5, m5', k5, k5', n65, n65', m6, m6', k6, k6', hk, e30, e31, e32]
    intro b7 hb7
    obtain ⟨n76, hb7⟩ := un hb7
    obtain ⟨n75, hb7⟩ := un hb7
    have n76' : ¬ b6 = b7 := fun e => n76 e.symm
    have n75' : ¬ b5 = b7 := fun e => n75 e.symm
    have m7 : ¬ bc = b7 := nn hb7 hbc
    have m7' : ¬ b7 = bc := fun e => m7 e.symm
    have k7 : ¬ bm = b7 := nn hb7 hbm
    have k7' : ¬ b7 = bm := fun e => k7 e.symm
    simp only [go_sem, xQ, ↓reduceIte, xA, xM, xL, xT, xE, xN, xP, xR, xS, hbc', m5, m5', k5, k5', n65, n65', m6, m6', k6, k6', hk, n76, n76', n75, n75', m7, m7', k7, k7']
    refine callB_use (f223 f i b) rfl ?_
    simp only [go_sem, xQ, ↓reduceIte, xA, xM, xL, xT, xE, xN, xP, xR, xS, hbc', m5, m5', k5, k5', n65, n65', m6, m6', k6, k6', hk, n76, n76', n75, n75', m7, m7', k7, k7']
    refine SemC.rangeE (xs := waysX n b) (D := ownD n) (E := noD) (pre := fun _ => True) (f := 252) (first := []) (captured := [.pp (fmC f) 0, .pp [int i, .v (.bool b)] 0]) mixed (by simp only [go_sem, xQ, ↓reduceIte, xA, xM, xL, xT, xE, xN, xP, xR, xS]) (f252 f i b n hn hkf) (by decide) (by kernel_rfl) (by kernel_rfl) own_ctl noD_ctl (fun _ _ _ _ _ _ => trivial)
      (fun k σ' => ∃ (m1 : List (WayT × AV)) (lar1 : Bool) (o : AV), (MidL f.nodes i n b m lar k m1 lar1 ∧ True) ∧ σ' bc = some (cntRow f bm lar1) ∧ σ' bm = some (.map (mapW m1)) ∧ σ' b6 = some (.row [.v (.slice none 0 0)] 1 1) ∧ σ' b7 = some (.row [o] 1 1) ∧ Grow (bas bc bm σ) σ' 1 o (((subW f.nodes n b).take k).map slC) k ∧ Frm bc bm σ σ')
      (fun e σ' => False)
      (fun k x ρ1 σ' => ∃ (j b8 : Nat) (m1 : List (WayT × AV)) (lar1 : Bool) (o : AV), (n.kids[k]? = some (j : Int) ∧ ρ1 2 = .pp [.v (.pointer (some ⟨bc, 0, none⟩))] 0 ∧ ρ1 6 = .v (.pointer (some ⟨b6, 0, none⟩)) ∧ ρ1 9 = .v (.pointer (some ⟨b8, 0, none⟩)) ∧ ρ1 8 = .v (.pointer (some ⟨b7, 0, none⟩)) ∧ MidL f.nodes i n b m lar k m1 lar1 ∧ True) ∧ σ' b8 = some (.row [int j, .v (.bool (b != decide (n.kind = 2)))] 2 1) ∧ σ' bc = some (cntRow f bm lar1) ∧ σ' bm = some (.map (mapW m1)) ∧ σ' b6 = some (.row [.v (.slice none 0 0)] 1 1) ∧ σ' b7 = some (.row [o] 1 1) ∧ Grow (bas bc bm σ) σ' 1 o (((subW f.nodes n b).take k).map slC) k ∧ Frm bc bm σ σ')
      (by intros; repeat' (first | exact Closed.row (fun h => h) | exact Closed.grow (fun _ h => h) | exact Closed.map (fun h => h) | exact Frm.closed (fun x hx => by first | exact hx | exact (un hx).2 | exact (un (un hx).2).2 | exact (un (un (un hx).2).2).2 | exact (un (un (un (un hx).2).2).2).2) | exact Closed.const _ | refine Closed.ex fun _ => ?_ | refine Closed.and ?_ ?_))
      (by intros; repeat' (first | exact Closed.row (fun h => h) | exact Closed.grow (fun _ h => h) | exact Closed.map (fun h => h) | exact Frm.closed (fun x hx => by first | exact hx | exact (un hx).2 | exact (un (un hx).2).2 | exact (un (un (un hx).2).2).2 | exact (un (un (un (un hx).2).2).2).2) | exact Closed.const _ | refine Closed.ex fun _ => ?_ | refine Closed.and ?_ ?_))
      (by intros; repeat' (first | exact Closed.row (fun h => h) | exact Closed.grow (fun _ h => h) | exact Closed.map (fun h => h) | exact Frm.closed (fun x hx => by first | exact hx | exact (un hx).2 | exact (un (un hx).2).2 | exact (un (un (un hx).2).2).2 | exact (un (un (un (un hx).2).2).2).2) | exact Closed.const _ | refine Closed.ex fun _ => ?_ | refine Closed.and ?_ ?_))
      ?_ ?_ ?_ ?_ ?_
    · exact ⟨m, lar, _, ⟨MidL.zero hm, trivial⟩, by simp only [go_sem, xQ, ↓reduceIte, xA, xM, xL, xT, xE, xN, xP, xR, xS, m5, m6, m7]; exact hbc, by simp only [go_sem, xQ, ↓reduceIte, xA, xM, xL, xT, xE, xN, xP, xR, xS, k5, k6, k7]; exact hbm, by simp only [go_sem, xQ, ↓reduceIte, xA, xM, xL, xT, xE, xN, xP, xR, xS, n76'], by simp only [go_sem, xQ, ↓reduceIte, xA, xM, xL, xT, xE, xN, xP, xR, xS], .nil _ _ _, ((Frm.refl.new hb5 _).new hb6 _).new hb7 _⟩
    · rintro k x E σ' lq hE hx ⟨m1, lar1, o, ⟨hM, hoo⟩, qc, qm, q6, q7, hG, hF⟩
      obtain ⟨c, hc', rfl⟩ := waysX_get hx
      obtain ⟨j, rfl⟩ := Int.eq_ofNat_of_zero_le (hd i n hn c (mem_of_get hc')).1
      have e2 : E 2 = .pp [.v (.pointer (some ⟨bc, 0, none⟩))] 0 := by rw [hE 2 (by decide)]; simp only [go_sem, xQ, ↓reduceIte, xA, xM, xL, xT, xE, xN, xP, xR, xS]
      have e6 : E 6 = .v (.pointer (some ⟨b6, 0, none⟩)) := by rw [hE 6 (by decide)]; simp only [go_sem, xQ, ↓reduceIte, xA, xM, xL, xT, xE, xN, xP, xR, xS]
      have e8 : E 8 = .v (.pointer (some ⟨b7, 0, none⟩)) := by rw [hE 8 (by decide)]; simp only [go_sem, xQ, ↓reduceIte, xA, xM, xL, xT, xE, xN, xP, xR, xS]
      simp only [go_sem, xQ, ↓reduceIte, xA, xM, xL, xT, xE, xN, xP, xR, xS, e2, e6]
      intro b8 hb8
      have x6 : ¬ b6 = b8 := nn hb8 q6
      have xc : ¬ bc = b8 := nn hb8 qc
      have xm : ¬ bm = b8 := nn hb8 qm
      have x7 : ¬ b7 = b8 := nn hb8 q7
      simp only [go_sem, xQ, ↓reduceIte, xA, xM, xL, xT, xE, xN, xP, xR, xS, e2, e6, hc']
      refine ⟨(Keep.refl _ _).upd (keep_none hb8), j, b8, m1, lar1, o, ?_⟩
      simp only [go_sem, xQ, ↓reduceIte, xA, xM, xL, xT, xE, xN, xP, xR, xS, e2, e6, hc', x6, xc, xm, q6, qc, qm, e8, x7, q7]
      exact ⟨hM, hG.upd hb8, hF.fresh hb8 _⟩
    · rintro k x ρ1 σ' lq hx ⟨j, b8, m1, lar1, o, ⟨hc', h2, h6, h9, h8, hM, _⟩, q8, qc, qm, q6, q7, hG, hF⟩
      simp only [go_sem, xQ, ↓reduceIte, xA, xM, xL, xT, xE, xN, xP, xR, xS, h2, h6, h8, h9, q8, q7]
      obtain ⟨nc, hnc⟩ : ∃ nc, f.nodes[j]? = some nc := ⟨f.nodes[j]'(by have := (hd i n hn _ (mem_of_get hc')).2; have := lt_of_getElem? hn; omega), List.getElem?_eq_getElem _⟩
      have hji : (j : Int) < (i : Int) := (hd i n hn _ (mem_of_get hc')).2
      have hbk := bad_kid hd hn hbad (mem_of_get hc')
      obtain ⟨kl1, kl2, _⟩ := (cnt_cas hd hok (j + 1) j (b != decide (n.kind = 2)) nc (by omega) hnc).2 hbk
      have hsg := subW_get (l := f.nodes) (b := b) hc'
      have htk := take_succ hsg
      refine xcallB_a (ih j (by omega) (b != decide (n.kind = 2)) m1 lar1 _ _ hbk qc qm hM.memo ?_) rfl
      intro m2 lar2 σ2 hm2 u1 u2 u3 u4 qc2 qm2 hF2
      have hK1 := hF2.keep1 qc qm
      have q62 : σ2 b6 = some (.row [.v (.slice none 0 0)] 1 1) := hK1 _ _ _ q6
      have hK2 := Frm.keep (n := n) qc own_cnt qm hF2
      have hM2 := hM.succ hc' hji hm2 u1 u2 u3 u4
      have hFF := hF.trans hF2
      refine ⟨hK1, ?_⟩
      have q72 := hK1 _ _ _ q7
      have hG2 := hG.keep1 hK1
      have hkx : k < n.kids.length := lt_of_getElem? hc'
      have hkf' : n.kids.length ≤ 1000000000000 := hkf
      simp only [go_sem, xQ, ↓reduceIte, xA, xM, xL, xT, xE, xN, xP, xR, xS, h2, h6, h8, h9, q62, q72]
      refine appB_sl (appT_sl el344 tk73 by73 el344 (by decide) rfl (by decide)) hFF.drop hG2 rfl rfl (by omega) (fun a' σ3 hD3 hO hG3 => ?_)
      have q73 : σ3 b7 = some (.row [o] 1 1) := by rw [hO b7 (hG2.neC q72 (slC_neG hG2)) (by rw [q72]; simp)]; exact q72
      have q63 : σ3 b6 = some (.row [.v (.slice none 0 0)] 1 1) := by rw [hO b6 (hG2.neC q62 slC_ne) (by rw [q62]; simp)]; exact q62
      have qc3 : σ3 bc = some (cntRow f bm lar2) := by rw [hO bc (hG2.neS qc2 (by decide)) (by rw [qc2]; simp)]; exact qc2
      have qm3 : σ3 bm = some (.map (mapW m2)) := by rw [hO bm (hG2.neM qm2) (by rw [qm2]; simp)]; exact qm2
      have hc2 := hG3.cellsX
      have ho2 := hG3.oneX
      simp only [go_sem, xQ, ↓reduceIte, xA, xM, xL, xT, xE, xN, xP, xR, xS, h2, h6, h8, h9, q73, hc2, ho2]
      have hG4 : Grow (bas bc bm σ) σ3 1 a' (((subW f.nodes n b).take (k + 1)).map slC) (k + 1) := by rw [htk, List.map_append]; exact hG3
      have hKO : Keep (KD (ownD n)) σ2 σ3 := fun x y hx hy => by
        rw [hO x ?_ (by rw [hx]; simp)]; · exact hx
        intro s1 o' m' e
        rcases hG2 with ⟨h, _⟩ | ⟨b', c, h0, h1, h2, h3⟩
        · rcases h with h | h <;> rw [h] at e <;> cases e
        · rw [h0] at e
          cases e
          rw [hx] at h2
          cases h2
          rcases hy with hy | hy
          · exact hy
          · exact own_row (by decide) hy
      refine ⟨((hK2.trans hKO).upd (keep_row q7 (own_row (by decide)))), m2, lar2, a', hM2, ?_⟩
      simp only [go_sem, xQ, ↓reduceIte, xA, xM, xL, xT, xE, xN, xP, xR, xS, m7, k7, n76', qc3, qm3, q63]
      exact ⟨hG4.updW (hG4.neC q73 (slC_neG hG2)) _, (Frm.of_drop hD3).new hb7 _⟩
    · rintro σ' r hr' ⟨m1, lar1, o, ⟨hMM, hoo⟩, qc, qm, q6, q7, hG, hF⟩ hdr
      rw [waysX_len] at hMM
      have r6 : ¬ b6 = r := dn hdr q6
      have rc : ¬ bc = r := dn hdr qc
      have rm : ¬ bm = r := fun e => by rw [e, hdr] at qm; cases qm
      have r6' : ¬ r = b6 := fun e => r6 e.symm
      have rc' : ¬ r = bc := fun e => rc e.symm
      have rm' : ¬ r = bm := fun e => rm e.symm
      have r7 : ¬ b7 = r := dn hdr q7
      have r7' : ¬ r = b7 := fun e => r7 e.symm
      have hr0 : σ r = none := (un (un (un hr').2).2).2
      rw [waysX_len, ← subW_len (l := f.nodes) (b := b), List.take_length] at hG
      have hmk : casW f.nodes ((i : Int), b) = if (subW f.nodes n b).any (fun x => decide (x.length = 0)) then [] else (subW f.nodes n b).foldl prodC [[]] := by rw [hCe, hk]; rfl
      have hSl : Fits (subW f.nodes n b).length := by rw [subW_len]; exact hkf
      simp only [go_sem, xQ, ↓reduceIte, xA, xM, xL, xT, xE, xN, xP, xR, xS]
      refine frzB_grow2 (s := 1) 8 b7 (by simp only [go_sem, xQ, ↓reduceIte, xA, xM, xL, xT, xE, xN, xP, xR, xS]) q7 hG (hG.neC q7 (slC_neG hG)) (fun σ3 hD3 hP => ?_)
      have qc3 : σ3 bc = some (cntRow f bm lar1) := by rw [hP bc m7 (hG.neS qc (by decide))]; exact qc
      have qm3 : σ3 bm = some (.map (mapW m1)) := by rw [hP bm k7 (hG.neM qm)]; exact qm
      have q63 : σ3 b6 = some (.row [.v (.slice none 0 0)] 1 1) := by rw [hP b6 n76' (hG.neC q6 slC_ne)]; exact q6
      have hdr3 : σ3 r = some (.obj (.deferred (some []))) := by rw [hP r r7' (hG.neO hdr)]; exact hdr
      have hF3 : Frm bc bm σ σ3 := fun x y g1 g2 g3 => by
        rw [hP x (fun e => by rw [e, hb7] at g3; cases g3) (hG.neB (by rw [bas, if_neg (by rintro (e | e) <;> contradiction), g3]; simp))]
        exact hF x y g1 g2 g3
      simp only [go_sem, xQ, ↓reduceIte, xA, xM, xL, xT, xE, xN, xP, xR, xS]
      refine callB_use (f254 (subW f.nodes n b) hSl _ (fun x => decide (x.length = 0)) (fun x _ => dcall_of (f255 x) rfl)) rfl ?_
      cases hany : (subW f.nodes n b).any (fun x => decide (x.length = 0)) with
      | true =>
        rw [hany] at hmk
        have hCC : casW f.nodes ((i : Int), b) = [] := hmk
        simp only [go_sem, xQ, ↓reduceIte, xA, xM, xL, xT, xE, xN, xP, xR, xS, hdr3]
        obtain ⟨w1, w2, w3, w4⟩ := hMM.fin hd hn hCC
        have e0 : (lar1 || larC []) = lar1 := Bool.or_false _
        rw [e0] at w1 w2 w3 w4
        exact ⟨slC [], _, .nil, Drop.refl _, hCC ▸ hK m1 lar1 _ w1 w2 w3 w4 hMM.new (by rw [ers_ne _ _ _ rc]; exact qc3) (by rw [ers_ne _ _ _ rm]; exact qm3) (by rw [ers_upd]; exact hF3.new hr0 _)⟩
      | false =>
        rw [hany] at hmk
        obtain ⟨C, hCC, hC0⟩ : ∃ C, casW f.nodes ((i : Int), b) = C ∧ C = (subW f.nodes n b).foldl prodC [[]] := ⟨_, rfl, hmk⟩
        rw [hCC] at cl1 cl2
        have hne : ∀ D ∈ subW f.nodes n b, D ≠ [] := fun D hD e => by
          have := List.any_eq_false.1 hany D hD
          rw [e] at this
          exact this rfl
        have hkid : ∀ D ∈ subW f.nodes n b, D.length ≤ 64 ∧ maxL D ≤ 32 := fun D hD => by
          obtain ⟨x, hx, rfl⟩ := List.mem_map.1 hD
          obtain ⟨j, rfl⟩ := Int.eq_ofNat_of_zero_le (hd i n hn x hx).1
          obtain ⟨nc, hnc⟩ : ∃ nc, f.nodes[j]? = some nc := ⟨f.nodes[j]'(by have := (hd i n hn _ hx).2; omega), List.getElem?_eq_getElem _⟩
          obtain ⟨g1, g2, _⟩ := (cnt_cas hd hok (j + 1) j (b != decide (n.kind = 2)) nc (by omega) hnc).2 (bad_kid hd hn hbad hx)
          exact ⟨g1, g2⟩
        simp only [go_sem, xQ, ↓reduceIte, xA, xM, xL, xT, xE, xN, xP, xR, xS, q63]
        refine SemC.loopK mixed (subW f.nodes n b).length (fun k ρ σ2 ds => ∃ o2 : AV, (ds = [r] ∧ ρ 2 = .pp [.v (.pointer (some ⟨bc, 0, none⟩))] 0 ∧ ρ 6 = .v (.pointer (some ⟨b6, 0, none⟩)) ∧ ρ 88 = slCC (subW f.nodes n b) ∧ ρ 89 = int (subW f.nodes n b).length ∧ ρ 90 = int k ∧ ∀ σ σ' : Sig, Fz σ σ' o2 (slC (((subW f.nodes n b).take k).foldl prodC [[]]))) ∧ σ2 bc = some (cntRow f bm lar1) ∧ σ2 bm = some (.map (mapW m1)) ∧ σ2 b6 = some (.row [o2] 1 1) ∧ σ2 r = some (.obj (.deferred (some []))) ∧ Frm bc bm σ σ2) (by kernel_rfl) ⟨_, ⟨rfl, by simp only [go_sem, xQ, ↓reduceIte, xA, xM, xL, xT, xE, xN, xP, xR, xS], by simp only [go_sem, xQ, ↓reduceIte, xA, xM, xL, xT, xE, xN, xP, xR, xS], by simp only [go_sem, xQ, ↓reduceIte, xA, xM, xL, xT, xE, xN, xP, xR, xS], by simp only [go_sem, xQ, ↓reduceIte, xA, xM, xL, xT, xE, xN, xP, xR, xS], by simp only [go_sem, xQ, ↓reduceIte, xA, xM, xL, xT, xE, xN, xP, xR, xS], fun _ _ => .sl (.cons .nil .nil)⟩, by rw [upd_ne _ _ _ _ m6]; exact qc3, by rw [upd_ne _ _ _ _ k6]; exact qm3, upd_same _ _ _, by rw [upd_ne _ _ _ _ r6']; exact hdr3, hF3.new hb6 _⟩ ?_
        rintro k ρ σ2 ds hk0 ⟨o2, ⟨rfl, h2, h6, h88, h89, h90, hoo⟩, qc, qm, q6, hdr, hF⟩
        rcases get_or_end (subW f.nodes n b) k hk0 with ⟨x, hx, hlt2, hd2⟩ | hk2
        · obtain ⟨g1, g2⟩ := prod_part hne k
          rw [← hC0] at g1 g2
          obtain ⟨g3, g4⟩ := hkid x (mem_of_get hx)
          simp only [go_sem, xQ, ↓reduceIte, xA, xM, xL, xT, xE, xN, xP, xR, xS, h2, h6, h88, h89, h90, hlt2, hx, q6]
          refine callB_fz (f256 (((subW f.nodes n b).take k).foldl prodC [[]]) x (by omega) (by omega) (fun y hy => by have := maxL_mem hy; omega) (fun y hy => by have := maxL_mem hy; omega)) (.cons (hoo _ _) (.cons (.refl _) .nil)) ?_
          simp only [go_sem, xQ, ↓reduceIte, xA, xM, xL, xT, xE, xN, xP, xR, xS, h2, h6, h88, h89, h90, q6]
          refine ⟨slC (prodC (((subW f.nodes n b).take k).foldl prodC [[]]) x), ⟨by rw [wrap_succ _ (by omega)], fun _ _ => ?_⟩, ?_⟩
          · rw [take_succ hx, List.foldl_append]; exact .refl _
          · simp only [go_sem, xQ, ↓reduceIte, xA, xM, xL, xT, xE, xN, xP, xR, xS, m6, k6, r6', qc, qm, hdr]
            exact hF.new hb6 _
        · subst hk2
          rw [List.take_length] at hoo
          have hz : ∀ σ σ' : Sig, Fz σ σ' o2 (slC C) := fun σ σ' => by rw [hC0]; exact hoo _ _
          simp only [go_sem, xQ, ↓reduceIte, xA, xM, xL, xT, xE, xN, xP, xR, xS, h2, h6, h88, h89, h90, Nat.lt_irrefl, q6]
          have hfl : C.flatten.length ≤ 64 * 32 := Nat.le_trans (flat_max C) (Nat.mul_le_mul cl1 cl2)
          refine callB_fz (f258 C (by omega) (by omega)) (.cons (hz _ _) .nil) ?_
          simp only [go_sem, xQ, ↓reduceIte, xA, xM, xL, xT, xE, xN, xP, xR, xS]
          refine SemC.loopK mixed C.flatten.length (fun k ρ σ2 ds => (ds = [r] ∧ ρ 2 = .pp [.v (.pointer (some ⟨bc, 0, none⟩))] 0 ∧ ρ 6 = .v (.pointer (some ⟨b6, 0, none⟩)) ∧ ρ 114 = slT C.flatten ∧ ρ 115 = int C.flatten.length ∧ ρ 116 = int k) ∧ σ2 bc = some (cntRow f bm (lar1 || (C.flatten.take k).any larT)) ∧ σ2 bm = some (.map (mapW m1)) ∧ σ2 b6 = some (.row [o2] 1 1) ∧ σ2 r = some (.obj (.deferred (some []))) ∧ Frm bc bm σ σ2) (by kernel_rfl) ⟨⟨rfl, by simp only [go_sem, xQ, ↓reduceIte, xA, xM, xL, xT, xE, xN, xP, xR, xS, h2, h6], by simp only [go_sem, xQ, ↓reduceIte, xA, xM, xL, xT, xE, xN, xP, xR, xS, h2, h6], rfl, rfl, rfl⟩, by simpa using qc, qm, q6, hdr, hF⟩ ?_
          rintro k ρ σ2 ds hk ⟨⟨rfl, h2, h6, h114, h115, h116⟩, pc, pm, p6, hdr, pF⟩
          rcases get_or_end C.flatten k hk with ⟨x, hx, hlt2, hd2⟩ | hk2
          · have hxf : Fits x.coeffs.length := by
              obtain ⟨y, h1, h2⟩ := List.mem_flatten.1 (mem_of_get hx)
              have := cas_fit hd hc (i + 1) i b n (by omega) hn
              rw [hCC] at this
              exact this y h1 x h2
            rw [any_take hx]
            generalize hzz : (lar1 || (C.flatten.take k).any larT) = z at pc
            have pc' : σ2 bc = some (.row [int f.vars, slN f.nodes, .v (.map (some bm)), .v (.bool z)] 4 1) := pc
            simp only [go_sem, xQ, ↓reduceIte, xA, xM, xL, xT, xE, xN, xP, xR, xS, h2, h6, h114, h115, h116, hlt2, ↓tm_part hx]
            intro b14 hb14
            have y6 : ¬ b6 = b14 := nn hb14 p6
            have yc : ¬ bc = b14 := nn hb14 pc
            have ym : ¬ bm = b14 := nn hb14 pm
            have yc' : ¬ b14 = bc := fun e => yc e.symm
            have yr : ¬ r = b14 := fun e => by rw [← e, hdr] at hb14; cases hb14
            cases z with
            | true =>
              simp only [go_sem, xQ, ↓reduceIte, xA, xM, xL, xT, xE, xN, xP, xR, xS, h2, h6, h114, h115, h116, hlt2, ↓tm_part hx, pc', y6, yc, yc', ym]
              refine ⟨by rw [wrap_succ _ (by omega)], by rw [← Bool.or_assoc, hzz]; rfl, ?_⟩
              simp only [go_sem, xQ, ↓reduceIte, xA, xM, xL, xT, xE, xN, xP, xR, xS, ym, y6, pm, p6, m6', kbc, yr, hdr, rc']
              exact (pF.fresh hb14 _).own (.inl rfl) _
            | false =>
              simp only [go_sem, xQ, ↓reduceIte, xA, xM, xL, xT, xE, xN, xP, xR, xS, h2, h6, h114, h115, h116, hlt2, ↓tm_part hx, pc', y6, yc, yc', ym]
              refine dcallB_use (f159 x hxf) rfl ?_
              simp only [go_sem, xQ, ↓reduceIte, xA, xM, xL, xT, xE, xN, xP, xR, xS, h2, h6, h114, h115, h116, hlt2, ↓tm_part hx, pc', y6, yc, yc', ym]
              refine ⟨by rw [wrap_succ _ (by omega)], by rw [← Bool.or_assoc, hzz, larT, Bool.false_or, decide_not]; rfl, ?_⟩
              simp only [go_sem, xQ, ↓reduceIte, xA, xM, xL, xT, xE, xN, xP, xR, xS, ym, y6, pm, p6, m6', kbc, yr, hdr, rc']
              exact (pF.fresh hb14 _).own (.inl rfl) _
          · subst hk2
            rw [List.take_length] at pc
            simp only [go_sem, xQ, ↓reduceIte, xA, xM, xL, xT, xE, xN, xP, xR, xS, h2, h6, h114, h115, h116, Nat.lt_irrefl, p6, hdr]
            obtain ⟨w1, w2, w3, w4⟩ := hMM.fin hd hn hCC
            exact ⟨slC C, _, hz _ _, Drop.refl _, hCC ▸ hK m1 (lar1 || larC C) _ w1 w2 w3 w4 hMM.new (by rw [ers_ne _ _ _ rc]; exact pc) (by rw [ers_ne _ _ _ rm]; exact pm) (by rw [ers_upd]; exact pF.new hr0 _)⟩
    · rintro e σ' r hr' hF hdr
      exact hF.elim
  · have e40 : ((4 : Int) = 0) = False := eq_false (by decide)
    have e41 : ((4 : Int) = 1) = False := eq_false (by decide)
    have e42 : ((4 : Int) = 2) = False := eq_false (by decide)
    have e43 : ((4 : Int) = 3) = False := eq_false (by decide)
    simp only [go_sem, xQ, ↓reduceIte, xA, xM, xL, xT, xE, xN, xP, xR, xS, hbc', m5, m5', k5, k5', n65, n65', m6, m6', k6, k6', hk, e40, e41, e42, e43]
    refine callB_use (f223 f i b) rfl ?_
    simp only [go_sem, xQ, ↓reduceIte, xA, xM, xL, xT, xE, xN, xP, xR, xS, hbc', m5, m5', k5, k5', n65, n65', m6, m6', k6, k6', hk]
    have hCS : casW f.nodes ((i : Int), b) = (subW f.nodes n b).flatten := by rw [hCe, hk]; rfl
    refine SemC.rangeE (xs := waysX n b) (D := ownD n) (E := noD) (pre := fun _ => True) (f := 252) (first := []) (captured := [.pp (fmC f) 0, .pp [int i, .v (.bool b)] 0]) mixed (by simp only [go_sem, xQ, ↓reduceIte, xA, xM, xL, xT, xE, xN, xP, xR, xS]) (f252 f i b n hn hkf) (by decide) (by kernel_rfl) (by kernel_rfl) own_ctl noD_ctl (fun _ _ _ _ _ _ => trivial)
      (fun k σ' => ∃ (m1 : List (WayT × AV)) (lar1 : Bool) (o : AV), (MidL f.nodes i n b m lar k m1 lar1 ∧ ((∀ σ σ' : Sig, Fz σ σ' o (slC ((subW f.nodes n b).take k).flatten)) ∧ o.cells? = some [o])) ∧ σ' bc = some (cntRow f bm lar1) ∧ σ' bm = some (.map (mapW m1)) ∧ σ' b6 = some (.row [o] 1 1) ∧  Frm bc bm σ σ')
      (fun e σ' => False)
      (fun k x ρ1 σ' => ∃ (j b8 : Nat) (m1 : List (WayT × AV)) (lar1 : Bool) (o : AV), (n.kids[k]? = some (j : Int) ∧ ρ1 2 = .pp [.v (.pointer (some ⟨bc, 0, none⟩))] 0 ∧ ρ1 6 = .v (.pointer (some ⟨b6, 0, none⟩)) ∧ ρ1 12 = .v (.pointer (some ⟨b8, 0, none⟩)) ∧  MidL f.nodes i n b m lar k m1 lar1 ∧ ((∀ σ σ' : Sig, Fz σ σ' o (slC ((subW f.nodes n b).take k).flatten)) ∧ o.cells? = some [o])) ∧ σ' b8 = some (.row [int j, .v (.bool (b != decide (n.kind = 2)))] 2 1) ∧ σ' bc = some (cntRow f bm lar1) ∧ σ' bm = some (.map (mapW m1)) ∧ σ' b6 = some (.row [o] 1 1) ∧  Frm bc bm σ σ')
      (by intros; repeat' (first | exact Closed.row (fun h => h) | exact Closed.grow (fun _ h => h) | exact Closed.map (fun h => h) | exact Frm.closed (fun x hx => by first | exact hx | exact (un hx).2 | exact (un (un hx).2).2 | exact (un (un (un hx).2).2).2 | exact (un (un (un (un hx).2).2).2).2) | exact Closed.const _ | refine Closed.ex fun _ => ?_ | refine Closed.and ?_ ?_))
      (by intros; repeat' (first | exact Closed.row (fun h => h) | exact Closed.grow (fun _ h => h) | exact Closed.map (fun h => h) | exact Frm.closed (fun x hx => by first | exact hx | exact (un hx).2 | exact (un (un hx).2).2 | exact (un (un (un hx).2).2).2 | exact (un (un (un (un hx).2).2).2).2) | exact Closed.const _ | refine Closed.ex fun _ => ?_ | refine Closed.and ?_ ?_))
      (by intros; repeat' (first | exact Closed.row (fun h => h) | exact Closed.grow (fun _ h => h) | exact Closed.map (fun h => h) | exact Frm.closed (fun x hx => by first | exact hx | exact (un hx).2 | exact (un (un hx).2).2 | exact (un (un (un hx).2).2).2 | exact (un (un (un (un hx).2).2).2).2) | exact Closed.const _ | refine Closed.ex fun _ => ?_ | refine Closed.and ?_ ?_))
      ?_ ?_ ?_ ?_ ?_
    · exact ⟨m, lar, _, ⟨MidL.zero hm, fun _ _ => .nil, rfl⟩, by simp only [go_sem, xQ, ↓reduceIte, xA, xM, xL, xT, xE, xN, xP, xR, xS, m5, m6]; exact hbc, by simp only [go_sem, xQ, ↓reduceIte, xA, xM, xL, xT, xE, xN, xP, xR, xS, k5, k6]; exact hbm, by simp only [go_sem, xQ, ↓reduceIte, xA, xM, xL, xT, xE, xN, xP, xR, xS], (Frm.refl.new hb5 _).new hb6 _⟩
    · rintro k x E σ' lq hE hx ⟨m1, lar1, o, ⟨hM, ⟨hoo, hoc⟩⟩, qc, qm, q6,  hF⟩
      obtain ⟨c, hc', rfl⟩ := waysX_get hx
      obtain ⟨j, rfl⟩ := Int.eq_ofNat_of_zero_le (hd i n hn c (mem_of_get hc')).1
      have e2 : E 2 = .pp [.v (.pointer (some ⟨bc, 0, none⟩))] 0 := by rw [hE 2 (by decide)]; simp only [go_sem, xQ, ↓reduceIte, xA, xM, xL, xT, xE, xN, xP, xR, xS]
      have e6 : E 6 = .v (.pointer (some ⟨b6, 0, none⟩)) := by rw [hE 6 (by decide)]; simp only [go_sem, xQ, ↓reduceIte, xA, xM, xL, xT, xE, xN, xP, xR, xS]
      skip
      simp only [go_sem, xQ, ↓reduceIte, xA, xM, xL, xT, xE, xN, xP, xR, xS, e2, e6]
      intro b8 hb8
      have x6 : ¬ b6 = b8 := nn hb8 q6
      have xc : ¬ bc = b8 := nn hb8 qc
      have xm : ¬ bm = b8 := nn hb8 qm
      skip
      simp only [go_sem, xQ, ↓reduceIte, xA, xM, xL, xT, xE, xN, xP, xR, xS, e2, e6, hc']
      refine ⟨(Keep.refl _ _).upd (keep_none hb8), j, b8, m1, lar1, o, ?_⟩
      simp only [go_sem, xQ, ↓reduceIte, xA, xM, xL, xT, xE, xN, xP, xR, xS, e2, e6, hc', x6, xc, xm, q6, qc, qm, hc']
      exact ⟨⟨hM, hoo, hoc⟩, hF.fresh hb8 _⟩
    · rintro k x ρ1 σ' lq hx ⟨j, b8, m1, lar1, o, ⟨hc', h2, h6, h7, hM, hoo, hoc⟩, q8, qc, qm, q6, hF⟩
      simp only [go_sem, xQ, ↓reduceIte, xA, xM, xL, xT, xE, xN, xP, xR, xS, h2, h6, h7, q8, q6]
      obtain ⟨nc, hnc⟩ : ∃ nc, f.nodes[j]? = some nc := ⟨f.nodes[j]'(by have := (hd i n hn _ (mem_of_get hc')).2; have := lt_of_getElem? hn; omega), List.getElem?_eq_getElem _⟩
      have hji : (j : Int) < (i : Int) := (hd i n hn _ (mem_of_get hc')).2
      have hbk := bad_kid hd hn hbad (mem_of_get hc')
      obtain ⟨kl1, kl2, _⟩ := (cnt_cas hd hok (j + 1) j (b != decide (n.kind = 2)) nc (by omega) hnc).2 hbk
      have hsg := subW_get (l := f.nodes) (b := b) hc'
      have htk := take_succ hsg
      refine xcallB_a (ih j (by omega) (b != decide (n.kind = 2)) m1 lar1 _ _ hbk qc qm hM.memo ?_) rfl
      intro m2 lar2 σ2 hm2 u1 u2 u3 u4 qc2 qm2 hF2
      have hK1 := hF2.keep1 qc qm
      have q62 : σ2 b6 = some (.row [o] 1 1) := hK1 _ _ _ q6
      have hK2 := Frm.keep (n := n) qc own_cnt qm hF2
      have hM2 := hM.succ hc' hji hm2 u1 u2 u3 u4
      have hFF := hF.trans hF2
      refine ⟨hK1, ?_⟩
      have hfl := flat_le (l := subW f.nodes n b) k
      rw [← hCS] at hfl
      simp only [go_sem, xQ, ↓reduceIte, xA, xM, xL, xT, xE, xN, xP, xR, xS, h2, h6, h7, q62, hoc]
      refine callB_fz (f257 [((subW f.nodes n b).take k).flatten, casW f.nodes ((j : Int), b != decide (n.kind = 2))] (by simp) (by simp only [List.flatten_cons, List.flatten_nil, List.append_nil, List.length_append]; omega)) (by exact FzL.cons (Fz.sl (FzL.cons (hoo _ _) (FzL.cons (.refl _) .nil))) .nil) ?_
      simp only [go_sem, xQ, ↓reduceIte, xA, xM, xL, xT, xE, xN, xP, xR, xS, h2, h6, h7, q62]
      refine ⟨hK2.upd (keep_row q6 (own_row (by decide))), m2, lar2, slC [((subW f.nodes n b).take k).flatten, casW f.nodes ((j : Int), b != decide (n.kind = 2))].flatten, ⟨hM2, fun _ _ => ?_, rfl⟩, ?_⟩
      · rw [htk]
        have e : [((subW f.nodes n b).take k).flatten, casW f.nodes ((j : Int), b != decide (n.kind = 2))].flatten = ((subW f.nodes n b).take k ++ [casW f.nodes ((j : Int), b != decide (n.kind = 2))]).flatten := by simp
        rw [e]
        exact .refl _
      · simp only [go_sem, xQ, ↓reduceIte, xA, xM, xL, xT, xE, xN, xP, xR, xS, m6, k6, qc2, qm2]
        exact hFF.new hb6 _
    · rintro σ' r hr' ⟨m1, lar1, o, ⟨hMM, ⟨hoo, hoc⟩⟩, qc, qm, q6,  hF⟩ hdr
      rw [waysX_len] at hMM
      have r6 : ¬ b6 = r := dn hdr q6
      have rc : ¬ bc = r := dn hdr qc
      have rm : ¬ bm = r := fun e => by rw [e, hdr] at qm; cases qm
      have r6' : ¬ r = b6 := fun e => r6 e.symm
      have rc' : ¬ r = bc := fun e => rc e.symm
      have rm' : ¬ r = bm := fun e => rm e.symm
      have hr0 : σ r = none := (un (un hr').2).2
      rw [waysX_len, ← subW_len (l := f.nodes) (b := b), List.take_length] at hoo
      obtain ⟨C, hCC, hC0⟩ : ∃ C, casW f.nodes ((i : Int), b) = C ∧ C = (subW f.nodes n b).flatten := ⟨_, rfl, hCS⟩
      rw [hCC] at cl1 cl2
      have hz : ∀ σ σ' : Sig, Fz σ σ' o (slC C) := fun σ σ' => by rw [hC0]; exact hoo _ _
      simp only [go_sem, xQ, ↓reduceIte, xA, xM, xL, xT, xE, xN, xP, xR, xS, q6]
      have hfl : C.flatten.length ≤ 64 * 32 := Nat.le_trans (flat_max C) (Nat.mul_le_mul cl1 cl2)
      refine callB_fz (f258 C (by omega) (by omega)) (.cons (hz _ _) .nil) ?_
      simp only [go_sem, xQ, ↓reduceIte, xA, xM, xL, xT, xE, xN, xP, xR, xS]
      refine SemC.loopK mixed C.flatten.length (fun k ρ σ2 ds => (ds = [r] ∧ ρ 2 = .pp [.v (.pointer (some ⟨bc, 0, none⟩))] 0 ∧ ρ 6 = .v (.pointer (some ⟨b6, 0, none⟩)) ∧ ρ 114 = slT C.flatten ∧ ρ 115 = int C.flatten.length ∧ ρ 116 = int k) ∧ σ2 bc = some (cntRow f bm (lar1 || (C.flatten.take k).any larT)) ∧ σ2 bm = some (.map (mapW m1)) ∧ σ2 b6 = some (.row [o] 1 1) ∧ σ2 r = some (.obj (.deferred (some []))) ∧ Frm bc bm σ σ2) (by kernel_rfl) ⟨⟨rfl, by simp only [go_sem, xQ, ↓reduceIte, xA, xM, xL, xT, xE, xN, xP, xR, xS], by simp only [go_sem, xQ, ↓reduceIte, xA, xM, xL, xT, xE, xN, xP, xR, xS], rfl, rfl, rfl⟩, by simpa using qc, qm, q6, hdr, hF⟩ ?_
      rintro k ρ σ2 ds hk ⟨⟨rfl, h2, h6, h114, h115, h116⟩, pc, pm, p6, hdr, pF⟩
      rcases get_or_end C.flatten k hk with ⟨x, hx, hlt2, hd2⟩ | hk2
      · have hxf : Fits x.coeffs.length := by
          obtain ⟨y, h1, h2⟩ := List.mem_flatten.1 (mem_of_get hx)
          have := cas_fit hd hc (i + 1) i b n (by omega) hn
          rw [hCC] at this
          exact this y h1 x h2
        rw [any_take hx]
        generalize hzz : (lar1 || (C.flatten.take k).any larT) = z at pc
        have pc' : σ2 bc = some (.row [int f.vars, slN f.nodes, .v (.map (some bm)), .v (.bool z)] 4 1) := pc
        simp only [go_sem, xQ, ↓reduceIte, xA, xM, xL, xT, xE, xN, xP, xR, xS, h2, h6, h114, h115, h116, hlt2, ↓tm_part hx]
        intro b14 hb14
        have y6 : ¬ b6 = b14 := nn hb14 p6
        have yc : ¬ bc = b14 := nn hb14 pc
        have ym : ¬ bm = b14 := nn hb14 pm
        have yc' : ¬ b14 = bc := fun e => yc e.symm
        have yr : ¬ r = b14 := fun e => by rw [← e, hdr] at hb14; cases hb14
        cases z with
        | true =>
          simp only [go_sem, xQ, ↓reduceIte, xA, xM, xL, xT, xE, xN, xP, xR, xS, h2, h6, h114, h115, h116, hlt2, ↓tm_part hx, pc', y6, yc, yc', ym]
          refine ⟨by rw [wrap_succ _ (by omega)], by rw [← Bool.or_assoc, hzz]; rfl, ?_⟩
          simp only [go_sem, xQ, ↓reduceIte, xA, xM, xL, xT, xE, xN, xP, xR, xS, ym, y6, pm, p6, m6', kbc, yr, hdr, rc']
          exact (pF.fresh hb14 _).own (.inl rfl) _
        | false =>
          simp only [go_sem, xQ, ↓reduceIte, xA, xM, xL, xT, xE, xN, xP, xR, xS, h2, h6, h114, h115, h116, hlt2, ↓tm_part hx, pc', y6, yc, yc', ym]
          refine dcallB_use (f159 x hxf) rfl ?_
          simp only [go_sem, xQ, ↓reduceIte, xA, xM, xL, xT, xE, xN, xP, xR, xS, h2, h6, h114, h115, h116, hlt2, ↓tm_part hx, pc', y6, yc, yc', ym]
          refine ⟨by rw [wrap_succ _ (by omega)], by rw [← Bool.or_assoc, hzz, larT, Bool.false_or, decide_not]; rfl, ?_⟩
          simp only [go_sem, xQ, ↓reduceIte, xA, xM, xL, xT, xE, xN, xP, xR, xS, ym, y6, pm, p6, m6', kbc, yr, hdr, rc']
          exact (pF.fresh hb14 _).own (.inl rfl) _
      · subst hk2
        rw [List.take_length] at pc
        simp only [go_sem, xQ, ↓reduceIte, xA, xM, xL, xT, xE, xN, xP, xR, xS, h2, h6, h114, h115, h116, Nat.lt_irrefl, p6, hdr]
        obtain ⟨w1, w2, w3, w4⟩ := hMM.fin hd hn hCC
        exact ⟨slC C, _, hz _ _, Drop.refl _, hCC ▸ hK m1 (lar1 || larC C) _ w1 w2 w3 w4 hMM.new (by rw [ers_ne _ _ _ rc]; exact pc) (by rw [ers_ne _ _ _ rm]; exact pm) (by rw [ers_upd]; exact pF.new hr0 _)⟩
    · rintro e σ' r hr' hF hdr
      exact hF.elim
end Go.AL
